/-
  The types and functions of the program, as our walks ask for them.
-/
import Derived.Test.YthojdcbpglipeaaPr
import Derived.Test.YthojdcbpglipeaaHeld2
import Derived.Test.YthojdcbpglipeaaProg
set_option linter.unusedVariables false
namespace Go.Proofs.Ythojdcbpglipeaa

theorem mixed : Try.prog.follows .mixedOrders = true := by kernel_rfl
instance : IsT Try.prog 3 Int := IsT.of (by kernel_rfl) Try.underlying3 rfl
instance : IsZ Try.prog 3 (0 : Int) 8 := IsZ.of (z := .int .i64 0) (by kernel_rfl) (fun _ _ => rfl)
instance : IsC Try.prog 3 1 false := IsC.of (by kernel_rfl) Try.underlying3 rfl
instance : IsZC Try.prog 3 [.int .i64 0] := IsZC.of (z := .int .i64 0) (by kernel_rfl) rfl
instance : IsT Try.prog 4 Bool := IsT.of (by kernel_rfl) Try.underlying4 rfl
instance : IsZ Try.prog 4 false 1 := IsZ.of (z := .bool false) (by kernel_rfl) (fun _ _ => rfl)
instance : IsC Try.prog 4 1 false := IsC.of (by kernel_rfl) Try.underlying4 rfl
instance : IsZC Try.prog 4 [.bool false] := IsZC.of (z := .bool false) (by kernel_rfl) rfl
instance : IsT Try.prog 33 Nat := IsT.of (by kernel_rfl) Try.underlying33 rfl
instance : IsZ Try.prog 33 (0 : Nat) 8 := IsZ.of (z := .int .u64 0) (by kernel_rfl) (fun _ _ => ⟨rfl, by decide⟩)
instance : IsC Try.prog 33 1 false := IsC.of (by kernel_rfl) Try.underlying33 rfl
instance : IsZC Try.prog 33 [.int .u64 0] := IsZC.of (z := .int .u64 0) (by kernel_rfl) rfl
instance : IsT Try.prog 9 ByteArray := IsT.of (by kernel_rfl) Try.underlying9 rfl
instance : IsC Try.prog 9 1 false := IsC.of (by kernel_rfl) Try.underlying9 rfl
instance : IsZC Try.prog 9 [.string ⟨#[]⟩] := IsZC.of (z := .string ⟨#[]⟩) (by kernel_rfl) rfl
instance : IsT Try.prog 27 Int := IsT.of (by kernel_rfl) Try.underlying27 rfl
instance : IsZ Try.prog 27 (0 : Int) 8 := IsZ.of (z := .int .i64 0) (by kernel_rfl) (fun _ _ => rfl)
instance : IsC Try.prog 27 1 false := IsC.of (by kernel_rfl) Try.underlying27 rfl
instance : IsZC Try.prog 27 [.int .i64 0] := IsZC.of (z := .int .i64 0) (by kernel_rfl) rfl
instance : IsB Try.prog 4 := ⟨Try.underlying4⟩
instance : IsI Try.prog 3 .i64 := ⟨Try.underlying3⟩
instance : IsI Try.prog 33 .u64 := ⟨Try.underlying33⟩
instance : IsI Try.prog 5 .u8 := ⟨Try.underlying5⟩
instance : IsT Try.prog 22 (List Int) := IsT.of (by kernel_rfl) Try.underlying22 rfl
instance : IsS Try.prog 22 3 := ⟨Try.underlying22⟩
instance : IsZ Try.prog 22 ([] : List Int) 24 := IsZ.of (z := .slice none 0 0) (by kernel_rfl) (fun _ _ => ⟨none, 0, rfl, by simp, by simp [maxLen], fun _ => rfl, fun i hi => absurd hi (by simp)⟩)
instance : IsC Try.prog 22 1 false := IsC.of (by kernel_rfl) Try.underlying22 rfl
instance : IsZC Try.prog 22 [.slice none 0 0] := IsZC.of (z := .slice none 0 0) (by kernel_rfl) rfl
instance : IsT Try.prog 23 (List (List Int)) := IsT.of (by kernel_rfl) Try.underlying23 rfl
instance : IsS Try.prog 23 22 := ⟨Try.underlying23⟩
instance : IsZ Try.prog 23 ([] : List (List Int)) 24 := IsZ.of (z := .slice none 0 0) (by kernel_rfl) (fun _ _ => ⟨none, 0, rfl, by simp, by simp [maxLen], fun _ => rfl, fun i hi => absurd hi (by simp)⟩)
instance : IsC Try.prog 23 1 false := IsC.of (by kernel_rfl) Try.underlying23 rfl
instance : IsZC Try.prog 23 [.slice none 0 0] := IsZC.of (z := .slice none 0 0) (by kernel_rfl) rfl
instance : IsT Try.prog 92 (List Bool) := IsT.of (by kernel_rfl) Try.underlying92 rfl
instance : IsS Try.prog 92 4 := ⟨Try.underlying92⟩
instance : IsZ Try.prog 92 ([] : List Bool) 24 := IsZ.of (z := .slice none 0 0) (by kernel_rfl) (fun _ _ => ⟨none, 0, rfl, by simp, by simp [maxLen], fun _ => rfl, fun i hi => absurd hi (by simp)⟩)
instance : IsC Try.prog 92 1 false := IsC.of (by kernel_rfl) Try.underlying92 rfl
instance : IsZC Try.prog 92 [.slice none 0 0] := IsZC.of (z := .slice none 0 0) (by kernel_rfl) rfl
instance : IsT Try.prog 24 (List Nat) := IsT.of (by kernel_rfl) Try.underlying24 rfl
instance : IsS Try.prog 24 33 := ⟨Try.underlying24⟩
instance : IsZ Try.prog 24 ([] : List Nat) 24 := IsZ.of (z := .slice none 0 0) (by kernel_rfl) (fun _ _ => ⟨none, 0, rfl, by simp, by simp [maxLen], fun _ => rfl, fun i hi => absurd hi (by simp)⟩)
instance : IsC Try.prog 24 1 false := IsC.of (by kernel_rfl) Try.underlying24 rfl
instance : IsZC Try.prog 24 [.slice none 0 0] := IsZC.of (z := .slice none 0 0) (by kernel_rfl) rfl
instance : IsT Try.prog 214 (List Bool) := IsT.of (by kernel_rfl) Try.underlying214 rfl
instance : IsS Try.prog 214 4 := ⟨Try.underlying214⟩
instance : IsZ Try.prog 214 ([] : List Bool) 24 := IsZ.of (z := .slice none 0 0) (by kernel_rfl) (fun _ _ => ⟨none, 0, rfl, by simp, by simp [maxLen], fun _ => rfl, fun i hi => absurd hi (by simp)⟩)
instance : IsC Try.prog 214 1 false := IsC.of (by kernel_rfl) Try.underlying214 rfl
instance : IsZC Try.prog 214 [.slice none 0 0] := IsZC.of (z := .slice none 0 0) (by kernel_rfl) rfl
instance : IsT Try.prog 243 (List (List Bool)) := IsT.of (by kernel_rfl) Try.underlying243 rfl
instance : IsS Try.prog 243 214 := ⟨Try.underlying243⟩
instance : IsZ Try.prog 243 ([] : List (List Bool)) 24 := IsZ.of (z := .slice none 0 0) (by kernel_rfl) (fun _ _ => ⟨none, 0, rfl, by simp, by simp [maxLen], fun _ => rfl, fun i hi => absurd hi (by simp)⟩)
instance : IsC Try.prog 243 1 false := IsC.of (by kernel_rfl) Try.underlying243 rfl
instance : IsZC Try.prog 243 [.slice none 0 0] := IsZC.of (z := .slice none 0 0) (by kernel_rfl) rfl
instance : IsT Try.prog 44 (List Nat × List Nat) := IsT.of (by kernel_rfl) Try.underlying44 rfl
instance : IsC Try.prog 44 2 true := IsC.of (by kernel_rfl) Try.underlying44 rfl
instance : IsFd Try.prog 44 0 0 := IsFd.of (by kernel_rfl)
instance : IsFd Try.prog 44 1 1 := IsFd.of (by kernel_rfl)
instance : IsZC Try.prog 44 [.slice none 0 0, .slice none 0 0] := IsZC.of (z := .agg #[.slice none 0 0, .slice none 0 0]) (by kernel_rfl) rfl
instance : IsBd Try.prog 44 [(0, 1), (1, 1)] := IsBd.of (by kernel_rfl)
instance : IsT Try.prog 301 (List Int × List Int) := IsT.of (by kernel_rfl) Try.underlying301 rfl
instance : IsC Try.prog 301 2 true := IsC.of (by kernel_rfl) Try.underlying301 rfl
instance : IsFd Try.prog 301 0 0 := IsFd.of (by kernel_rfl)
instance : IsFd Try.prog 301 1 1 := IsFd.of (by kernel_rfl)
instance : IsZC Try.prog 301 [.slice none 0 0, .slice none 0 0] := IsZC.of (z := .agg #[.slice none 0 0, .slice none 0 0]) (by kernel_rfl) rfl
instance : IsBd Try.prog 301 [(0, 1), (1, 1)] := IsBd.of (by kernel_rfl)
instance : IsT Try.prog 52 (Int × Int × Int × Int × Int × Int × Int) := IsT.of (by kernel_rfl) Try.underlying52 rfl
instance : IsC Try.prog 52 7 true := IsC.of (by kernel_rfl) Try.underlying52 rfl
instance : IsFd Try.prog 52 0 0 := IsFd.of (by kernel_rfl)
instance : IsFd Try.prog 52 1 1 := IsFd.of (by kernel_rfl)
instance : IsFd Try.prog 52 2 2 := IsFd.of (by kernel_rfl)
instance : IsFd Try.prog 52 3 3 := IsFd.of (by kernel_rfl)
instance : IsFd Try.prog 52 4 4 := IsFd.of (by kernel_rfl)
instance : IsFd Try.prog 52 5 5 := IsFd.of (by kernel_rfl)
instance : IsFd Try.prog 52 6 6 := IsFd.of (by kernel_rfl)
instance : IsZC Try.prog 52 [.int .i64 0, .int .i64 0, .int .i64 0, .int .i64 0, .int .i64 0, .int .i64 0, .int .i64 0] := IsZC.of (z := .agg #[.int .i64 0, .int .i64 0, .int .i64 0, .int .i64 0, .int .i64 0, .int .i64 0, .int .i64 0]) (by kernel_rfl) rfl
instance : IsBd Try.prog 52 [(0, 1), (1, 1), (2, 1), (3, 1), (4, 1), (5, 1), (6, 1)] := IsBd.of (by kernel_rfl)
instance : IsZ Try.prog 52 ((0, 0, 0, 0, 0, 0, 0) : (Int × Int × Int × Int × Int × Int × Int)) 56 := IsZ.of (z := .agg #[.int .i64 0, .int .i64 0, .int .i64 0, .int .i64 0, .int .i64 0, .int .i64 0, .int .i64 0]) (by kernel_rfl) (fun _ _ => rd_mk (rd_mkInt _ _ _) (rd_mk (rd_mkInt _ _ _) (rd_mk (rd_mkInt _ _ _) (rd_mk (rd_mkInt _ _ _) (rd_mk (rd_mkInt _ _ _) (rd_mk (rd_mkInt _ _ _) (rd_mkInt _ _ _)))))))
instance : IsT Try.prog 42 (Int × Int × Int × Int) := IsT.of (by kernel_rfl) Try.underlying42 rfl
instance : IsC Try.prog 42 4 true := IsC.of (by kernel_rfl) Try.underlying42 rfl
instance : IsFd Try.prog 42 0 0 := IsFd.of (by kernel_rfl)
instance : IsFd Try.prog 42 1 1 := IsFd.of (by kernel_rfl)
instance : IsFd Try.prog 42 2 2 := IsFd.of (by kernel_rfl)
instance : IsFd Try.prog 42 3 3 := IsFd.of (by kernel_rfl)
instance : IsZC Try.prog 42 [.int .i64 0, .int .i64 0, .int .i64 0, .int .i64 0] := IsZC.of (z := .agg #[.int .i64 0, .int .i64 0, .int .i64 0, .int .i64 0]) (by kernel_rfl) rfl
instance : IsBd Try.prog 42 [(0, 1), (1, 1), (2, 1), (3, 1)] := IsBd.of (by kernel_rfl)
instance : IsZ Try.prog 42 ((0, 0, 0, 0) : (Int × Int × Int × Int)) 32 := IsZ.of (z := .agg #[.int .i64 0, .int .i64 0, .int .i64 0, .int .i64 0]) (by kernel_rfl) (fun _ _ => rd_mk (rd_mkInt _ _ _) (rd_mk (rd_mkInt _ _ _) (rd_mk (rd_mkInt _ _ _) (rd_mkInt _ _ _))))
instance : IsT Try.prog 88 (List Int × List (List Int) × List Nat × List (List Int)) := IsT.of (by kernel_rfl) Try.underlying88 rfl
instance : IsC Try.prog 88 4 true := IsC.of (by kernel_rfl) Try.underlying88 rfl
instance : IsFd Try.prog 88 0 0 := IsFd.of (by kernel_rfl)
instance : IsFd Try.prog 88 1 1 := IsFd.of (by kernel_rfl)
instance : IsFd Try.prog 88 2 2 := IsFd.of (by kernel_rfl)
instance : IsFd Try.prog 88 3 3 := IsFd.of (by kernel_rfl)
instance : IsZC Try.prog 88 [.slice none 0 0, .slice none 0 0, .slice none 0 0, .slice none 0 0] := IsZC.of (z := .agg #[.slice none 0 0, .slice none 0 0, .slice none 0 0, .slice none 0 0]) (by kernel_rfl) rfl
instance : IsBd Try.prog 88 [(0, 1), (1, 1), (2, 1), (3, 1)] := IsBd.of (by kernel_rfl)
instance : IsT Try.prog 26 (List Int × List (List Int) × List Nat × List Nat × List (List Int)) := IsT.of (by kernel_rfl) Try.underlying26 rfl
instance : IsC Try.prog 26 5 true := IsC.of (by kernel_rfl) Try.underlying26 rfl
instance : IsFd Try.prog 26 0 0 := IsFd.of (by kernel_rfl)
instance : IsFd Try.prog 26 1 1 := IsFd.of (by kernel_rfl)
instance : IsFd Try.prog 26 2 2 := IsFd.of (by kernel_rfl)
instance : IsFd Try.prog 26 3 3 := IsFd.of (by kernel_rfl)
instance : IsFd Try.prog 26 4 4 := IsFd.of (by kernel_rfl)
instance : IsZC Try.prog 26 [.slice none 0 0, .slice none 0 0, .slice none 0 0, .slice none 0 0, .slice none 0 0] := IsZC.of (z := .agg #[.slice none 0 0, .slice none 0 0, .slice none 0 0, .slice none 0 0, .slice none 0 0]) (by kernel_rfl) rfl
instance : IsBd Try.prog 26 [(0, 1), (1, 1), (2, 1), (3, 1), (4, 1)] := IsBd.of (by kernel_rfl)
instance : IsT Try.prog 82 (ByteArray × Int) := IsT.of (by kernel_rfl) Try.underlying82 rfl
instance : IsC Try.prog 82 2 true := IsC.of (by kernel_rfl) Try.underlying82 rfl
instance : IsFd Try.prog 82 0 0 := IsFd.of (by kernel_rfl)
instance : IsFd Try.prog 82 1 1 := IsFd.of (by kernel_rfl)
instance : IsZC Try.prog 82 [.string ⟨#[]⟩, .int .i64 0] := IsZC.of (z := .agg #[.string ⟨#[]⟩, .int .i64 0]) (by kernel_rfl) rfl
instance : IsBd Try.prog 82 [(0, 1), (1, 1)] := IsBd.of (by kernel_rfl)
instance : IsZ Try.prog 82 ((⟨#[]⟩, 0) : (ByteArray × Int)) 24 := IsZ.of (z := .agg #[.string ⟨#[]⟩, .int .i64 0]) (by kernel_rfl) (fun _ _ => rd_mk (c1 := [.string ⟨#[]⟩]) (c2 := [.int .i64 0]) ⟨rfl, by decide⟩ (rd_mkInt _ _ _))
instance : IsT Try.prog 169 (Int × Int) := IsT.of (by kernel_rfl) Try.underlying169 rfl
instance : IsC Try.prog 169 2 true := IsC.of (by kernel_rfl) Try.underlying169 rfl
instance : IsFd Try.prog 169 0 0 := IsFd.of (by kernel_rfl)
instance : IsFd Try.prog 169 1 1 := IsFd.of (by kernel_rfl)
instance : IsZC Try.prog 169 [.int .i64 0, .int .i64 0] := IsZC.of (z := .agg #[.int .i64 0, .int .i64 0]) (by kernel_rfl) rfl
instance : IsBd Try.prog 169 [(0, 1), (1, 1)] := IsBd.of (by kernel_rfl)
instance : IsZ Try.prog 169 ((0, 0) : (Int × Int)) 16 := IsZ.of (z := .agg #[.int .i64 0, .int .i64 0]) (by kernel_rfl) (fun _ _ => rd_mk (rd_mkInt _ _ _) (rd_mkInt _ _ _))
instance : IsT Try.prog 71 (List (ByteArray × Int) × List (Int × Int)) := IsT.of (by kernel_rfl) Try.underlying71 rfl
instance : IsC Try.prog 71 2 true := IsC.of (by kernel_rfl) Try.underlying71 rfl
instance : IsFd Try.prog 71 0 0 := IsFd.of (by kernel_rfl)
instance : IsFd Try.prog 71 1 1 := IsFd.of (by kernel_rfl)
instance : IsZC Try.prog 71 [.slice none 0 0, .slice none 0 0] := IsZC.of (z := .agg #[.slice none 0 0, .slice none 0 0]) (by kernel_rfl) rfl
instance : IsBd Try.prog 71 [(0, 1), (1, 1)] := IsBd.of (by kernel_rfl)
instance : IsT Try.prog 84 (Int × Int × Int) := IsT.of (by kernel_rfl) Try.underlying84 rfl
instance : IsC Try.prog 84 3 true := IsC.of (by kernel_rfl) Try.underlying84 rfl
instance : IsFd Try.prog 84 0 0 := IsFd.of (by kernel_rfl)
instance : IsFd Try.prog 84 1 1 := IsFd.of (by kernel_rfl)
instance : IsFd Try.prog 84 2 2 := IsFd.of (by kernel_rfl)
instance : IsZC Try.prog 84 [.int .i64 0, .int .i64 0, .int .i64 0] := IsZC.of (z := .agg #[.int .i64 0, .int .i64 0, .int .i64 0]) (by kernel_rfl) rfl
instance : IsBd Try.prog 84 [(0, 1), (1, 1), (2, 1)] := IsBd.of (by kernel_rfl)
instance : IsZ Try.prog 84 ((0, 0, 0) : (Int × Int × Int)) 24 := IsZ.of (z := .agg #[.int .i64 0, .int .i64 0, .int .i64 0]) (by kernel_rfl) (fun _ _ => rd_mk (rd_mkInt _ _ _) (rd_mk (rd_mkInt _ _ _) (rd_mkInt _ _ _)))
instance : IsT Try.prog 115 (Int × Int) := IsT.of (by kernel_rfl) Try.underlying115 rfl
instance : IsC Try.prog 115 2 true := IsC.of (by kernel_rfl) Try.underlying115 rfl
instance : IsFd Try.prog 115 0 0 := IsFd.of (by kernel_rfl)
instance : IsFd Try.prog 115 1 1 := IsFd.of (by kernel_rfl)
instance : IsZC Try.prog 115 [.int .i64 0, .int .i64 0] := IsZC.of (z := .agg #[.int .i64 0, .int .i64 0]) (by kernel_rfl) rfl
instance : IsBd Try.prog 115 [(0, 1), (1, 1)] := IsBd.of (by kernel_rfl)
instance : IsZ Try.prog 115 ((0, 0) : (Int × Int)) 16 := IsZ.of (z := .agg #[.int .i64 0, .int .i64 0]) (by kernel_rfl) (fun _ _ => rd_mk (rd_mkInt _ _ _) (rd_mkInt _ _ _))
instance : IsT Try.prog 127 (Int × Int) := IsT.of (by kernel_rfl) Try.underlying127 rfl
instance : IsC Try.prog 127 2 true := IsC.of (by kernel_rfl) Try.underlying127 rfl
instance : IsFd Try.prog 127 0 0 := IsFd.of (by kernel_rfl)
instance : IsFd Try.prog 127 1 1 := IsFd.of (by kernel_rfl)
instance : IsZC Try.prog 127 [.int .i64 0, .int .i64 0] := IsZC.of (z := .agg #[.int .i64 0, .int .i64 0]) (by kernel_rfl) rfl
instance : IsBd Try.prog 127 [(0, 1), (1, 1)] := IsBd.of (by kernel_rfl)
instance : IsZ Try.prog 127 ((0, 0) : (Int × Int)) 16 := IsZ.of (z := .agg #[.int .i64 0, .int .i64 0]) (by kernel_rfl) (fun _ _ => rd_mk (rd_mkInt _ _ _) (rd_mkInt _ _ _))
instance : IsT Try.prog 109 (List (List Int) × List (List (Int × Int))) := IsT.of (by kernel_rfl) Try.underlying109 rfl
instance : IsC Try.prog 109 2 true := IsC.of (by kernel_rfl) Try.underlying109 rfl
instance : IsFd Try.prog 109 0 0 := IsFd.of (by kernel_rfl)
instance : IsFd Try.prog 109 1 1 := IsFd.of (by kernel_rfl)
instance : IsZC Try.prog 109 [.slice none 0 0, .slice none 0 0] := IsZC.of (z := .agg #[.slice none 0 0, .slice none 0 0]) (by kernel_rfl) rfl
instance : IsBd Try.prog 109 [(0, 1), (1, 1)] := IsBd.of (by kernel_rfl)
instance : IsT Try.prog 185 (Int × Int) := IsT.of (by kernel_rfl) Try.underlying185 rfl
instance : IsC Try.prog 185 2 true := IsC.of (by kernel_rfl) Try.underlying185 rfl
instance : IsFd Try.prog 185 0 0 := IsFd.of (by kernel_rfl)
instance : IsFd Try.prog 185 1 1 := IsFd.of (by kernel_rfl)
instance : IsZC Try.prog 185 [.int .i64 0, .int .i64 0] := IsZC.of (z := .agg #[.int .i64 0, .int .i64 0]) (by kernel_rfl) rfl
instance : IsBd Try.prog 185 [(0, 1), (1, 1)] := IsBd.of (by kernel_rfl)
instance : IsZ Try.prog 185 ((0, 0) : (Int × Int)) 16 := IsZ.of (z := .agg #[.int .i64 0, .int .i64 0]) (by kernel_rfl) (fun _ _ => rd_mk (rd_mkInt _ _ _) (rd_mkInt _ _ _))
instance : IsC Try.prog 133 7 true := IsC.of (by kernel_rfl) Try.underlying133 rfl
instance : IsFd Try.prog 133 0 0 := IsFd.of (by kernel_rfl)
instance : IsFd Try.prog 133 1 1 := IsFd.of (by kernel_rfl)
instance : IsFd Try.prog 133 2 2 := IsFd.of (by kernel_rfl)
instance : IsZC Try.prog 133 [.map none, .slice none 0 0, .slice none 0 0, .slice none 0 0, .slice none 0 0, .slice none 0 0, .slice none 0 0] := IsZC.of (z := .agg #[.map none, .slice none 0 0, .slice none 0 0, .slice none 0 0, .slice none 0 0, .slice none 0 0, .slice none 0 0]) (by kernel_rfl) rfl
instance : IsBd Try.prog 133 [(0, 1), (1, 1), (2, 5)] := IsBd.of (by kernel_rfl)
instance : IsT Try.prog 154 (Int × Int) := IsT.of (by kernel_rfl) Try.underlying154 rfl
instance : IsC Try.prog 154 2 true := IsC.of (by kernel_rfl) Try.underlying154 rfl
instance : IsFd Try.prog 154 0 0 := IsFd.of (by kernel_rfl)
instance : IsFd Try.prog 154 1 1 := IsFd.of (by kernel_rfl)
instance : IsZC Try.prog 154 [.int .i64 0, .int .i64 0] := IsZC.of (z := .agg #[.int .i64 0, .int .i64 0]) (by kernel_rfl) rfl
instance : IsBd Try.prog 154 [(0, 1), (1, 1)] := IsBd.of (by kernel_rfl)
instance : IsZ Try.prog 154 ((0, 0) : (Int × Int)) 16 := IsZ.of (z := .agg #[.int .i64 0, .int .i64 0]) (by kernel_rfl) (fun _ _ => rd_mk (rd_mkInt _ _ _) (rd_mkInt _ _ _))
instance : IsT Try.prog 145 (Bool × Bool) := IsT.of (by kernel_rfl) Try.underlying145 rfl
instance : IsC Try.prog 145 2 true := IsC.of (by kernel_rfl) Try.underlying145 rfl
instance : IsFd Try.prog 145 0 0 := IsFd.of (by kernel_rfl)
instance : IsFd Try.prog 145 1 1 := IsFd.of (by kernel_rfl)
instance : IsZC Try.prog 145 [.bool false, .bool false] := IsZC.of (z := .agg #[.bool false, .bool false]) (by kernel_rfl) rfl
instance : IsBd Try.prog 145 [(0, 1), (1, 1)] := IsBd.of (by kernel_rfl)
instance : IsZ Try.prog 145 ((false, false) : (Bool × Bool)) 2 := IsZ.of (z := .agg #[.bool false, .bool false]) (by kernel_rfl) (fun _ _ => rd_mk (rd_mkBool _ _ _) (rd_mkBool _ _ _))
instance : IsC Try.prog 150 10 true := IsC.of (by kernel_rfl) Try.underlying150 rfl
instance : IsFd Try.prog 150 0 0 := IsFd.of (by kernel_rfl)
instance : IsFd Try.prog 150 1 7 := IsFd.of (by kernel_rfl)
instance : IsFd Try.prog 150 2 9 := IsFd.of (by kernel_rfl)
instance : IsZC Try.prog 150 [.int .i64 0, .int .i64 0, .int .i64 0, .int .i64 0, .int .i64 0, .int .i64 0, .int .i64 0, .slice none 0 0, .slice none 0 0, .int .i64 0] := IsZC.of (z := .agg #[.int .i64 0, .int .i64 0, .int .i64 0, .int .i64 0, .int .i64 0, .int .i64 0, .int .i64 0, .slice none 0 0, .slice none 0 0, .int .i64 0]) (by kernel_rfl) rfl
instance : IsBd Try.prog 150 [(0, 7), (7, 2), (9, 1)] := IsBd.of (by kernel_rfl)
instance : IsC Try.prog 250 7 true := IsC.of (by kernel_rfl) Try.underlying250 rfl
instance : IsFd Try.prog 250 0 0 := IsFd.of (by kernel_rfl)
instance : IsFd Try.prog 250 1 1 := IsFd.of (by kernel_rfl)
instance : IsFd Try.prog 250 2 2 := IsFd.of (by kernel_rfl)
instance : IsFd Try.prog 250 3 3 := IsFd.of (by kernel_rfl)
instance : IsFd Try.prog 250 4 4 := IsFd.of (by kernel_rfl)
instance : IsFd Try.prog 250 5 5 := IsFd.of (by kernel_rfl)
instance : IsFd Try.prog 250 6 6 := IsFd.of (by kernel_rfl)
instance : IsZC Try.prog 250 [.slice none 0 0, .slice none 0 0, .slice none 0 0, .slice none 0 0, .slice none 0 0, .int .i64 0, .int .i64 0] := IsZC.of (z := .agg #[.slice none 0 0, .slice none 0 0, .slice none 0 0, .slice none 0 0, .slice none 0 0, .int .i64 0, .int .i64 0]) (by kernel_rfl) rfl
instance : IsBd Try.prog 250 [(0, 1), (1, 1), (2, 1), (3, 1), (4, 1), (5, 1), (6, 1)] := IsBd.of (by kernel_rfl)
instance : IsT Try.prog 68 (List (ByteArray × Int)) := IsT.of (by kernel_rfl) Try.underlying68 rfl
instance : IsS Try.prog 68 82 := ⟨Try.underlying68⟩
instance : IsZ Try.prog 68 ([] : List (ByteArray × Int)) 24 := IsZ.of (z := .slice none 0 0) (by kernel_rfl) (fun _ _ => ⟨none, 0, rfl, by simp, by simp [maxLen], fun _ => rfl, fun i hi => absurd hi (by simp)⟩)
instance : IsC Try.prog 68 1 false := IsC.of (by kernel_rfl) Try.underlying68 rfl
instance : IsZC Try.prog 68 [.slice none 0 0] := IsZC.of (z := .slice none 0 0) (by kernel_rfl) rfl
instance : IsT Try.prog 69 (List (Int × Int)) := IsT.of (by kernel_rfl) Try.underlying69 rfl
instance : IsS Try.prog 69 169 := ⟨Try.underlying69⟩
instance : IsZ Try.prog 69 ([] : List (Int × Int)) 24 := IsZ.of (z := .slice none 0 0) (by kernel_rfl) (fun _ _ => ⟨none, 0, rfl, by simp, by simp [maxLen], fun _ => rfl, fun i hi => absurd hi (by simp)⟩)
instance : IsC Try.prog 69 1 false := IsC.of (by kernel_rfl) Try.underlying69 rfl
instance : IsZC Try.prog 69 [.slice none 0 0] := IsZC.of (z := .slice none 0 0) (by kernel_rfl) rfl
instance : IsT Try.prog 78 (List (Int × Int × Int)) := IsT.of (by kernel_rfl) Try.underlying78 rfl
instance : IsS Try.prog 78 84 := ⟨Try.underlying78⟩
instance : IsZ Try.prog 78 ([] : List (Int × Int × Int)) 24 := IsZ.of (z := .slice none 0 0) (by kernel_rfl) (fun _ _ => ⟨none, 0, rfl, by simp, by simp [maxLen], fun _ => rfl, fun i hi => absurd hi (by simp)⟩)
instance : IsC Try.prog 78 1 false := IsC.of (by kernel_rfl) Try.underlying78 rfl
instance : IsZC Try.prog 78 [.slice none 0 0] := IsZC.of (z := .slice none 0 0) (by kernel_rfl) rfl
instance : IsT Try.prog 112 (List (Int × Int)) := IsT.of (by kernel_rfl) Try.underlying112 rfl
instance : IsS Try.prog 112 115 := ⟨Try.underlying112⟩
instance : IsZ Try.prog 112 ([] : List (Int × Int)) 24 := IsZ.of (z := .slice none 0 0) (by kernel_rfl) (fun _ _ => ⟨none, 0, rfl, by simp, by simp [maxLen], fun _ => rfl, fun i hi => absurd hi (by simp)⟩)
instance : IsC Try.prog 112 1 false := IsC.of (by kernel_rfl) Try.underlying112 rfl
instance : IsZC Try.prog 112 [.slice none 0 0] := IsZC.of (z := .slice none 0 0) (by kernel_rfl) rfl
instance : IsT Try.prog 107 (List (List (Int × Int))) := IsT.of (by kernel_rfl) Try.underlying107 rfl
instance : IsS Try.prog 107 112 := ⟨Try.underlying107⟩
instance : IsZ Try.prog 107 ([] : List (List (Int × Int))) 24 := IsZ.of (z := .slice none 0 0) (by kernel_rfl) (fun _ _ => ⟨none, 0, rfl, by simp, by simp [maxLen], fun _ => rfl, fun i hi => absurd hi (by simp)⟩)
instance : IsC Try.prog 107 1 false := IsC.of (by kernel_rfl) Try.underlying107 rfl
instance : IsZC Try.prog 107 [.slice none 0 0] := IsZC.of (z := .slice none 0 0) (by kernel_rfl) rfl
instance : IsT Try.prog 128 (List (Int × Int)) := IsT.of (by kernel_rfl) Try.underlying128 rfl
instance : IsS Try.prog 128 127 := ⟨Try.underlying128⟩
instance : IsZ Try.prog 128 ([] : List (Int × Int)) 24 := IsZ.of (z := .slice none 0 0) (by kernel_rfl) (fun _ _ => ⟨none, 0, rfl, by simp, by simp [maxLen], fun _ => rfl, fun i hi => absurd hi (by simp)⟩)
instance : IsC Try.prog 128 1 false := IsC.of (by kernel_rfl) Try.underlying128 rfl
instance : IsZC Try.prog 128 [.slice none 0 0] := IsZC.of (z := .slice none 0 0) (by kernel_rfl) rfl
instance : IsT Try.prog 183 (List (Int × Int)) := IsT.of (by kernel_rfl) Try.underlying183 rfl
instance : IsS Try.prog 183 185 := ⟨Try.underlying183⟩
instance : IsZ Try.prog 183 ([] : List (Int × Int)) 24 := IsZ.of (z := .slice none 0 0) (by kernel_rfl) (fun _ _ => ⟨none, 0, rfl, by simp, by simp [maxLen], fun _ => rfl, fun i hi => absurd hi (by simp)⟩)
instance : IsC Try.prog 183 1 false := IsC.of (by kernel_rfl) Try.underlying183 rfl
instance : IsZC Try.prog 183 [.slice none 0 0] := IsZC.of (z := .slice none 0 0) (by kernel_rfl) rfl
instance : IsT Try.prog 124 (List (List Bool)) := IsT.of (by kernel_rfl) Try.underlying124 rfl
instance : IsS Try.prog 124 92 := ⟨Try.underlying124⟩
instance : IsZ Try.prog 124 ([] : List (List Bool)) 24 := IsZ.of (z := .slice none 0 0) (by kernel_rfl) (fun _ _ => ⟨none, 0, rfl, by simp, by simp [maxLen], fun _ => rfl, fun i hi => absurd hi (by simp)⟩)
instance : IsC Try.prog 124 1 false := IsC.of (by kernel_rfl) Try.underlying124 rfl
instance : IsZC Try.prog 124 [.slice none 0 0] := IsZC.of (z := .slice none 0 0) (by kernel_rfl) rfl
instance : IsT Try.prog 151 (List (Int × Int)) := IsT.of (by kernel_rfl) Try.underlying151 rfl
instance : IsS Try.prog 151 154 := ⟨Try.underlying151⟩
instance : IsZ Try.prog 151 ([] : List (Int × Int)) 24 := IsZ.of (z := .slice none 0 0) (by kernel_rfl) (fun _ _ => ⟨none, 0, rfl, by simp, by simp [maxLen], fun _ => rfl, fun i hi => absurd hi (by simp)⟩)
instance : IsC Try.prog 151 1 false := IsC.of (by kernel_rfl) Try.underlying151 rfl
instance : IsZC Try.prog 151 [.slice none 0 0] := IsZC.of (z := .slice none 0 0) (by kernel_rfl) rfl
instance : IsT Try.prog 140 (List (Bool × Bool)) := IsT.of (by kernel_rfl) Try.underlying140 rfl
instance : IsS Try.prog 140 145 := ⟨Try.underlying140⟩
instance : IsZ Try.prog 140 ([] : List (Bool × Bool)) 24 := IsZ.of (z := .slice none 0 0) (by kernel_rfl) (fun _ _ => ⟨none, 0, rfl, by simp, by simp [maxLen], fun _ => rfl, fun i hi => absurd hi (by simp)⟩)
instance : IsC Try.prog 140 1 false := IsC.of (by kernel_rfl) Try.underlying140 rfl
instance : IsZC Try.prog 140 [.slice none 0 0] := IsZC.of (z := .slice none 0 0) (by kernel_rfl) rfl
instance : IsC Try.prog 131 1 false := IsC.of (by kernel_rfl) Try.underlying131 rfl
instance : IsC Try.prog 148 1 false := IsC.of (by kernel_rfl) Try.underlying148 rfl
instance : IsC Try.prog 248 1 false := IsC.of (by kernel_rfl) Try.underlying248 rfl
instance : IsC Try.prog 130 1 false := IsC.of (by kernel_rfl) Try.underlying130 rfl
instance : IsC Try.prog 179 1 false := IsC.of (by kernel_rfl) Try.underlying179 rfl
instance : IsF Try.prog 110 := ⟨_, Try.func110, rfl, by decide⟩
instance : IsF Try.prog 64 := ⟨_, Try.func64, rfl, by decide⟩
instance : IsF Try.prog 109 := ⟨_, Try.func109, rfl, by decide⟩
instance : IsF Try.prog 87 := ⟨_, Try.func87, rfl, by decide⟩
instance : IsF Try.prog 78 := ⟨_, Try.func78, rfl, by decide⟩
instance : IsF Try.prog 124 := ⟨_, Try.func124, rfl, by decide⟩
instance : IsF Try.prog 125 := ⟨_, Try.func125, rfl, by decide⟩
instance : IsF Try.prog 79 := ⟨_, Try.func79, rfl, by decide⟩
instance : IsF Try.prog 77 := ⟨_, Try.func77, rfl, by decide⟩
instance : IsF Try.prog 196 := ⟨_, Try.func196, rfl, by decide⟩
instance : IsF Try.prog 191 := ⟨_, Try.func191, rfl, by decide⟩
instance : IsF Try.prog 209 := ⟨_, Try.func209, rfl, by decide⟩
instance : IsF Try.prog 187 := ⟨_, Try.func187, rfl, by decide⟩
instance : IsF Try.prog 195 := ⟨_, Try.func195, rfl, by decide⟩
instance : IsF Try.prog 194 := ⟨_, Try.func194, rfl, by decide⟩
instance : IsF Try.prog 193 := ⟨_, Try.func193, rfl, by decide⟩
instance : IsF Try.prog 210 := ⟨_, Try.func210, rfl, by decide⟩
instance : IsF Try.prog 156 := ⟨_, Try.func156, rfl, by decide⟩
instance : IsF Try.prog 188 := ⟨_, Try.func188, rfl, by decide⟩
instance : IsF Try.prog 189 := ⟨_, Try.func189, rfl, by decide⟩
instance : IsF Try.prog 192 := ⟨_, Try.func192, rfl, by decide⟩
instance : IsF Try.prog 190 := ⟨_, Try.func190, rfl, by decide⟩
instance : IsF Try.prog 208 := ⟨_, Try.func208, rfl, by decide⟩
instance : IsF Try.prog 199 := ⟨_, Try.func199, rfl, by decide⟩
instance : IsF Try.prog 200 := ⟨_, Try.func200, rfl, by decide⟩
instance : IsF Try.prog 174 := ⟨_, Try.func174, rfl, by decide⟩
instance : IsF Try.prog 158 := ⟨_, Try.func158, rfl, by decide⟩
instance : IsF Try.prog 157 := ⟨_, Try.func157, rfl, by decide⟩
instance : IsF Try.prog 197 := ⟨_, Try.func197, rfl, by decide⟩
instance : IsF Try.prog 102 := ⟨_, Try.func102, rfl, by decide⟩
instance : IsF Try.prog 27 := ⟨_, Try.func27, rfl, by decide⟩
instance : IsF Try.prog 21 := ⟨_, Try.func21, rfl, by decide⟩
instance : IsF Try.prog 57 := ⟨_, Try.func57, rfl, by decide⟩
instance : IsF Try.prog 178 := ⟨_, Try.func178, rfl, by decide⟩
instance : IsF Try.prog 60 := ⟨_, Try.func60, rfl, by decide⟩
instance : IsF Try.prog 53 := ⟨_, Try.func53, rfl, by decide⟩
instance : IsF Try.prog 66 := ⟨_, Try.func66, rfl, by decide⟩
instance : IsF Try.prog 46 := ⟨_, Try.func46, rfl, by decide⟩
instance : IsF Try.prog 39 := ⟨_, Try.func39, rfl, by decide⟩
instance : IsF Try.prog 67 := ⟨_, Try.func67, rfl, by decide⟩
instance : IsF Try.prog 68 := ⟨_, Try.func68, rfl, by decide⟩
instance : IsF Try.prog 105 := ⟨_, Try.func105, rfl, by decide⟩
instance : IsF Try.prog 201 := ⟨_, Try.func201, rfl, by decide⟩
instance : IsF Try.prog 106 := ⟨_, Try.func106, rfl, by decide⟩
instance : IsF Try.prog 103 := ⟨_, Try.func103, rfl, by decide⟩
instance : IsF Try.prog 29 := ⟨_, Try.func29, rfl, by decide⟩
instance : IsF Try.prog 160 := ⟨_, Try.func160, rfl, by decide⟩
instance : IsF Try.prog 122 := ⟨_, Try.func122, rfl, by decide⟩
instance : IsF Try.prog 75 := ⟨_, Try.func75, rfl, by decide⟩
instance : IsF Try.prog 34 := ⟨_, Try.func34, rfl, by decide⟩
instance : IsF Try.prog 35 := ⟨_, Try.func35, rfl, by decide⟩
instance : IsF Try.prog 85 := ⟨_, Try.func85, rfl, by decide⟩
instance : IsF Try.prog 86 := ⟨_, Try.func86, rfl, by decide⟩
instance : IsF Try.prog 88 := ⟨_, Try.func88, rfl, by decide⟩
instance : IsF Try.prog 89 := ⟨_, Try.func89, rfl, by decide⟩
instance : IsF Try.prog 36 := ⟨_, Try.func36, rfl, by decide⟩
instance : IsF Try.prog 91 := ⟨_, Try.func91, rfl, by decide⟩
instance : IsF Try.prog 92 := ⟨_, Try.func92, rfl, by decide⟩
instance : IsF Try.prog 139 := ⟨_, Try.func139, rfl, by decide⟩
instance : IsF Try.prog 15 := ⟨_, Try.func15, rfl, by decide⟩
instance : IsF Try.prog 63 := ⟨_, Try.func63, rfl, by decide⟩
instance : IsF Try.prog 84 := ⟨_, Try.func84, rfl, by decide⟩
instance : IsF Try.prog 62 := ⟨_, Try.func62, rfl, by decide⟩
instance : IsF Try.prog 90 := ⟨_, Try.func90, rfl, by decide⟩
instance : IsF Try.prog 143 := ⟨_, Try.func143, rfl, by decide⟩
instance : IsF Try.prog 138 := ⟨_, Try.func138, rfl, by decide⟩
instance : IsF Try.prog 140 := ⟨_, Try.func140, rfl, by decide⟩
instance : IsF Try.prog 142 := ⟨_, Try.func142, rfl, by decide⟩
instance : IsF Try.prog 184 := ⟨_, Try.func184, rfl, by decide⟩
instance : IsF Try.prog 205 := ⟨_, Try.func205, rfl, by decide⟩
instance : IsF Try.prog 212 := ⟨_, Try.func212, rfl, by decide⟩
instance : IsF Try.prog 69 := ⟨_, Try.func69, rfl, by decide⟩
instance : IsF Try.prog 26 := ⟨_, Try.func26, rfl, by decide⟩
instance : IsF Try.prog 119 := ⟨_, Try.func119, rfl, by decide⟩
instance : IsF Try.prog 72 := ⟨_, Try.func72, rfl, by decide⟩
instance : IsF Try.prog 115 := ⟨_, Try.func115, rfl, by decide⟩
instance : IsF Try.prog 113 := ⟨_, Try.func113, rfl, by decide⟩
instance : IsF Try.prog 114 := ⟨_, Try.func114, rfl, by decide⟩
instance : IsF Try.prog 73 := ⟨_, Try.func73, rfl, by decide⟩
instance : IsF Try.prog 116 := ⟨_, Try.func116, rfl, by decide⟩
instance : IsF Try.prog 118 := ⟨_, Try.func118, rfl, by decide⟩
instance : IsF Try.prog 120 := ⟨_, Try.func120, rfl, by decide⟩
instance : IsF Try.prog 121 := ⟨_, Try.func121, rfl, by decide⟩
instance : IsF Try.prog 112 := ⟨_, Try.func112, rfl, by decide⟩
instance : IsF Try.prog 71 := ⟨_, Try.func71, rfl, by decide⟩
instance : IsF Try.prog 117 := ⟨_, Try.func117, rfl, by decide⟩
instance : IsF Try.prog 76 := ⟨_, Try.func76, rfl, by decide⟩
instance : IsF Try.prog 31 := ⟨_, Try.func31, rfl, by decide⟩
instance : IsF Try.prog 30 := ⟨_, Try.func30, rfl, by decide⟩
instance : IsF Try.prog 131 := ⟨_, Try.func131, rfl, by decide⟩
instance : IsF Try.prog 133 := ⟨_, Try.func133, rfl, by decide⟩
instance : IsF Try.prog 80 := ⟨_, Try.func80, rfl, by decide⟩
instance : IsF Try.prog 134 := ⟨_, Try.func134, rfl, by decide⟩
instance : IsF Try.prog 126 := ⟨_, Try.func126, rfl, by decide⟩
instance : IsF Try.prog 127 := ⟨_, Try.func127, rfl, by decide⟩
instance : IsF Try.prog 129 := ⟨_, Try.func129, rfl, by decide⟩
instance : IsF Try.prog 128 := ⟨_, Try.func128, rfl, by decide⟩
instance : IsF Try.prog 123 := ⟨_, Try.func123, rfl, by decide⟩
instance : IsF Try.prog 161 := ⟨_, Try.func161, rfl, by decide⟩
instance : IsF Try.prog 132 := ⟨_, Try.func132, rfl, by decide⟩
instance : IsF Try.prog 130 := ⟨_, Try.func130, rfl, by decide⟩
instance : IsF Try.prog 162 := ⟨_, Try.func162, rfl, by decide⟩
instance : IsF Try.prog 163 := ⟨_, Try.func163, rfl, by decide⟩
instance : IsF Try.prog 165 := ⟨_, Try.func165, rfl, by decide⟩
instance : IsF Try.prog 166 := ⟨_, Try.func166, rfl, by decide⟩
instance : IsF Try.prog 167 := ⟨_, Try.func167, rfl, by decide⟩
instance : IsF Try.prog 168 := ⟨_, Try.func168, rfl, by decide⟩
instance : IsF Try.prog 164 := ⟨_, Try.func164, rfl, by decide⟩
instance : IsF Try.prog 95 := ⟨_, Try.func95, rfl, by decide⟩
instance : IsF Try.prog 37 := ⟨_, Try.func37, rfl, by decide⟩
instance : IsF Try.prog 42 := ⟨_, Try.func42, rfl, by decide⟩
instance : IsF Try.prog 51 := ⟨_, Try.func51, rfl, by decide⟩
instance : IsF Try.prog 93 := ⟨_, Try.func93, rfl, by decide⟩
instance : IsF Try.prog 144 := ⟨_, Try.func144, rfl, by decide⟩
instance : IsF Try.prog 175 := ⟨_, Try.func175, rfl, by decide⟩
instance : IsF Try.prog 94 := ⟨_, Try.func94, rfl, by decide⟩
instance : IsF Try.prog 147 := ⟨_, Try.func147, rfl, by decide⟩
instance : IsF Try.prog 98 := ⟨_, Try.func98, rfl, by decide⟩
instance : IsF Try.prog 145 := ⟨_, Try.func145, rfl, by decide⟩
instance : IsF Try.prog 101 := ⟨_, Try.func101, rfl, by decide⟩
instance : IsF Try.prog 155 := ⟨_, Try.func155, rfl, by decide⟩
instance : IsF Try.prog 154 := ⟨_, Try.func154, rfl, by decide⟩
instance : IsF Try.prog 111 := ⟨_, Try.func111, rfl, by decide⟩
instance : IsF Try.prog 70 := ⟨_, Try.func70, rfl, by decide⟩
instance : IsF Try.prog 82 := ⟨_, Try.func82, rfl, by decide⟩
instance : IsF Try.prog 83 := ⟨_, Try.func83, rfl, by decide⟩
instance : IsF Try.prog 159 := ⟨_, Try.func159, rfl, by decide⟩
instance : IsF Try.prog 136 := ⟨_, Try.func136, rfl, by decide⟩
instance : IsF Try.prog 137 := ⟨_, Try.func137, rfl, by decide⟩
instance : IsF Try.prog 172 := ⟨_, Try.func172, rfl, by decide⟩
instance : IsF Try.prog 170 := ⟨_, Try.func170, rfl, by decide⟩
instance : IsF Try.prog 173 := ⟨_, Try.func173, rfl, by decide⟩
instance : IsF Try.prog 171 := ⟨_, Try.func171, rfl, by decide⟩
instance : IsF Try.prog 81 := ⟨_, Try.func81, rfl, by decide⟩
instance : IsF Try.prog 135 := ⟨_, Try.func135, rfl, by decide⟩
instance : IsF Try.prog 169 := ⟨_, Try.func169, rfl, by decide⟩
instance : IsF Try.prog 96 := ⟨_, Try.func96, rfl, by decide⟩
instance : IsF Try.prog 146 := ⟨_, Try.func146, rfl, by decide⟩
instance : IsF Try.prog 177 := ⟨_, Try.func177, rfl, by decide⟩
instance : IsF Try.prog 153 := ⟨_, Try.func153, rfl, by decide⟩
instance : IsF Try.prog 149 := ⟨_, Try.func149, rfl, by decide⟩
instance : IsF Try.prog 150 := ⟨_, Try.func150, rfl, by decide⟩
instance : IsF Try.prog 176 := ⟨_, Try.func176, rfl, by decide⟩
instance : IsF Try.prog 148 := ⟨_, Try.func148, rfl, by decide⟩
instance : IsF Try.prog 179 := ⟨_, Try.func179, rfl, by decide⟩
instance : IsF Try.prog 151 := ⟨_, Try.func151, rfl, by decide⟩
instance : IsF Try.prog 180 := ⟨_, Try.func180, rfl, by decide⟩
instance : IsF Try.prog 152 := ⟨_, Try.func152, rfl, by decide⟩
instance : IsF Try.prog 141 := ⟨_, Try.func141, rfl, by decide⟩
instance : IsF Try.prog 186 := ⟨_, Try.func186, rfl, by decide⟩
instance : IsF Try.prog 181 := ⟨_, Try.func181, rfl, by decide⟩
instance : IsF Try.prog 202 := ⟨_, Try.func202, rfl, by decide⟩
instance : IsF Try.prog 182 := ⟨_, Try.func182, rfl, by decide⟩
instance : IsF Try.prog 207 := ⟨_, Try.func207, rfl, by decide⟩
instance : IsF Try.prog 54 := ⟨_, Try.func54, rfl, by decide⟩
instance : IsF Try.prog 198 := ⟨_, Try.func198, rfl, by decide⟩
instance : IsF Try.prog 104 := ⟨_, Try.func104, rfl, by decide⟩
instance : IsF Try.prog 41 := ⟨_, Try.func41, rfl, by decide⟩
instance : IsF Try.prog 97 := ⟨_, Try.func97, rfl, by decide⟩
instance : IsF Try.prog 6 := ⟨_, Try.func6, rfl, by decide⟩
instance : IsF Try.prog 3 := ⟨_, Try.func3, rfl, by decide⟩
instance : IsF Try.prog 22 := ⟨_, Try.func22, rfl, by decide⟩
instance : IsF Try.prog 23 := ⟨_, Try.func23, rfl, by decide⟩
instance : IsF Try.prog 7 := ⟨_, Try.func7, rfl, by decide⟩
instance : IsF Try.prog 4 := ⟨_, Try.func4, rfl, by decide⟩
instance : IsF Try.prog 5 := ⟨_, Try.func5, rfl, by decide⟩
instance : IsF Try.prog 11 := ⟨_, Try.func11, rfl, by decide⟩
instance : IsF Try.prog 8 := ⟨_, Try.func8, rfl, by decide⟩
instance : IsF Try.prog 33 := ⟨_, Try.func33, rfl, by decide⟩
instance : IsF Try.prog 20 := ⟨_, Try.func20, rfl, by decide⟩
instance : IsF Try.prog 52 := ⟨_, Try.func52, rfl, by decide⟩
instance : IsF Try.prog 16 := ⟨_, Try.func16, rfl, by decide⟩
instance : IsF Try.prog 17 := ⟨_, Try.func17, rfl, by decide⟩
instance : IsF Try.prog 18 := ⟨_, Try.func18, rfl, by decide⟩
instance : IsF Try.prog 24 := ⟨_, Try.func24, rfl, by decide⟩
instance : IsF Try.prog 25 := ⟨_, Try.func25, rfl, by decide⟩
instance : IsF Try.prog 38 := ⟨_, Try.func38, rfl, by decide⟩
instance : IsF Try.prog 32 := ⟨_, Try.func32, rfl, by decide⟩
instance : IsF Try.prog 99 := ⟨_, Try.func99, rfl, by decide⟩
instance : IsF Try.prog 40 := ⟨_, Try.func40, rfl, by decide⟩
instance : IsF Try.prog 28 := ⟨_, Try.func28, rfl, by decide⟩
instance : IsF Try.prog 19 := ⟨_, Try.func19, rfl, by decide⟩
instance : IsF Try.prog 65 := ⟨_, Try.func65, rfl, by decide⟩
instance : IsF Try.prog 183 := ⟨_, Try.func183, rfl, by decide⟩
instance : IsF Try.prog 204 := ⟨_, Try.func204, rfl, by decide⟩
instance : IsF Try.prog 185 := ⟨_, Try.func185, rfl, by decide⟩
instance : IsF Try.prog 206 := ⟨_, Try.func206, rfl, by decide⟩
instance : IsF Try.prog 213 := ⟨_, Try.func213, rfl, by decide⟩
instance : IsF Try.prog 214 := ⟨_, Try.func214, rfl, by decide⟩
instance : IsF Try.prog 203 := ⟨_, Try.func203, rfl, by decide⟩
instance : IsF Try.prog 211 := ⟨_, Try.func211, rfl, by decide⟩
end Go.Proofs.Ythojdcbpglipeaa
