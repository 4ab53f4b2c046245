import Derived.Test.YtbphcblopoegcaaProg
import Derived.Test.YtbphcblopoegcaaPtLabelTwins3
/-
  The types and functions of the program, as our walks ask for them.
-/
set_option linter.unusedVariables false
namespace Go.Proofs.Ytbphcblopoegcaa

theorem mixed : Try.prog.follows .mixedOrders = true := by kernel_rfl
instance : IsT Try.prog 3 Int := IsT.of (by kernel_rfl) Try.underlying3 rfl
instance : IsZ Try.prog 3 (0 : Int) 8 := IsZ.of (z := .int .i64 0) (by kernel_rfl) (fun _ _ => rfl)
instance : IsC Try.prog 3 1 false := IsC.of (by kernel_rfl) Try.underlying3 rfl
instance : IsZC Try.prog 3 [.int .i64 0] := IsZC.of (z := .int .i64 0) (by kernel_rfl) rfl
instance : IsT Try.prog 4 Bool := IsT.of (by kernel_rfl) Try.underlying4 rfl
instance : IsZ Try.prog 4 false 1 := IsZ.of (z := .bool false) (by kernel_rfl) (fun _ _ => rfl)
instance : IsC Try.prog 4 1 false := IsC.of (by kernel_rfl) Try.underlying4 rfl
instance : IsZC Try.prog 4 [.bool false] := IsZC.of (z := .bool false) (by kernel_rfl) rfl
instance : IsT Try.prog 33 Nat := IsT.of (by kernel_rfl) Try.underlying33 rfl
instance : IsZ Try.prog 33 (0 : Nat) 8 := IsZ.of (z := .int .u64 0) (by kernel_rfl) (fun _ _ => ⟨rfl, by decide⟩)
instance : IsC Try.prog 33 1 false := IsC.of (by kernel_rfl) Try.underlying33 rfl
instance : IsZC Try.prog 33 [.int .u64 0] := IsZC.of (z := .int .u64 0) (by kernel_rfl) rfl
instance : IsT Try.prog 9 ByteArray := IsT.of (by kernel_rfl) Try.underlying9 rfl
instance : IsC Try.prog 9 1 false := IsC.of (by kernel_rfl) Try.underlying9 rfl
instance : IsZC Try.prog 9 [.string ⟨#[]⟩] := IsZC.of (z := .string ⟨#[]⟩) (by kernel_rfl) rfl
instance : IsT Try.prog 27 Int := IsT.of (by kernel_rfl) Try.underlying27 rfl
instance : IsZ Try.prog 27 (0 : Int) 8 := IsZ.of (z := .int .i64 0) (by kernel_rfl) (fun _ _ => rfl)
instance : IsC Try.prog 27 1 false := IsC.of (by kernel_rfl) Try.underlying27 rfl
instance : IsZC Try.prog 27 [.int .i64 0] := IsZC.of (z := .int .i64 0) (by kernel_rfl) rfl
instance : IsB Try.prog 4 := ⟨Try.underlying4⟩
instance : IsI Try.prog 3 .i64 := ⟨Try.underlying3⟩
instance : IsI Try.prog 33 .u64 := ⟨Try.underlying33⟩
instance : IsI Try.prog 5 .u8 := ⟨Try.underlying5⟩
instance : IsT Try.prog 22 (List Int) := IsT.of (by kernel_rfl) Try.underlying22 rfl
instance : IsS Try.prog 22 3 := ⟨Try.underlying22⟩
instance : IsZ Try.prog 22 ([] : List Int) 24 := IsZ.of (z := .slice none 0 0) (by kernel_rfl) (fun _ _ => ⟨none, 0, rfl, by simp, by simp [maxLen], fun _ => rfl, fun i hi => absurd hi (by simp)⟩)
instance : IsC Try.prog 22 1 false := IsC.of (by kernel_rfl) Try.underlying22 rfl
instance : IsZC Try.prog 22 [.slice none 0 0] := IsZC.of (z := .slice none 0 0) (by kernel_rfl) rfl
instance : IsT Try.prog 23 (List (List Int)) := IsT.of (by kernel_rfl) Try.underlying23 rfl
instance : IsS Try.prog 23 22 := ⟨Try.underlying23⟩
instance : IsZ Try.prog 23 ([] : List (List Int)) 24 := IsZ.of (z := .slice none 0 0) (by kernel_rfl) (fun _ _ => ⟨none, 0, rfl, by simp, by simp [maxLen], fun _ => rfl, fun i hi => absurd hi (by simp)⟩)
instance : IsC Try.prog 23 1 false := IsC.of (by kernel_rfl) Try.underlying23 rfl
instance : IsZC Try.prog 23 [.slice none 0 0] := IsZC.of (z := .slice none 0 0) (by kernel_rfl) rfl
instance : IsT Try.prog 55 (List Bool) := IsT.of (by kernel_rfl) Try.underlying55 rfl
instance : IsS Try.prog 55 4 := ⟨Try.underlying55⟩
instance : IsZ Try.prog 55 ([] : List Bool) 24 := IsZ.of (z := .slice none 0 0) (by kernel_rfl) (fun _ _ => ⟨none, 0, rfl, by simp, by simp [maxLen], fun _ => rfl, fun i hi => absurd hi (by simp)⟩)
instance : IsC Try.prog 55 1 false := IsC.of (by kernel_rfl) Try.underlying55 rfl
instance : IsZC Try.prog 55 [.slice none 0 0] := IsZC.of (z := .slice none 0 0) (by kernel_rfl) rfl
instance : IsT Try.prog 24 (List Nat) := IsT.of (by kernel_rfl) Try.underlying24 rfl
instance : IsS Try.prog 24 33 := ⟨Try.underlying24⟩
instance : IsZ Try.prog 24 ([] : List Nat) 24 := IsZ.of (z := .slice none 0 0) (by kernel_rfl) (fun _ _ => ⟨none, 0, rfl, by simp, by simp [maxLen], fun _ => rfl, fun i hi => absurd hi (by simp)⟩)
instance : IsC Try.prog 24 1 false := IsC.of (by kernel_rfl) Try.underlying24 rfl
instance : IsZC Try.prog 24 [.slice none 0 0] := IsZC.of (z := .slice none 0 0) (by kernel_rfl) rfl
instance : IsT Try.prog 42 (List Nat × List Nat) := IsT.of (by kernel_rfl) Try.underlying42 rfl
instance : IsC Try.prog 42 2 true := IsC.of (by kernel_rfl) Try.underlying42 rfl
instance : IsFd Try.prog 42 0 0 := IsFd.of (by kernel_rfl)
instance : IsFd Try.prog 42 1 1 := IsFd.of (by kernel_rfl)
instance : IsZC Try.prog 42 [.slice none 0 0, .slice none 0 0] := IsZC.of (z := .agg #[.slice none 0 0, .slice none 0 0]) (by kernel_rfl) rfl
instance : IsBd Try.prog 42 [(0, 1), (1, 1)] := IsBd.of (by kernel_rfl)
instance : IsT Try.prog 67 (List Int × List Int) := IsT.of (by kernel_rfl) Try.underlying67 rfl
instance : IsC Try.prog 67 2 true := IsC.of (by kernel_rfl) Try.underlying67 rfl
instance : IsFd Try.prog 67 0 0 := IsFd.of (by kernel_rfl)
instance : IsFd Try.prog 67 1 1 := IsFd.of (by kernel_rfl)
instance : IsZC Try.prog 67 [.slice none 0 0, .slice none 0 0] := IsZC.of (z := .agg #[.slice none 0 0, .slice none 0 0]) (by kernel_rfl) rfl
instance : IsBd Try.prog 67 [(0, 1), (1, 1)] := IsBd.of (by kernel_rfl)
instance : IsT Try.prog 51 (List Int × List (List Int) × List Nat × List (List Int)) := IsT.of (by kernel_rfl) Try.underlying51 rfl
instance : IsC Try.prog 51 4 true := IsC.of (by kernel_rfl) Try.underlying51 rfl
instance : IsFd Try.prog 51 0 0 := IsFd.of (by kernel_rfl)
instance : IsFd Try.prog 51 1 1 := IsFd.of (by kernel_rfl)
instance : IsFd Try.prog 51 2 2 := IsFd.of (by kernel_rfl)
instance : IsFd Try.prog 51 3 3 := IsFd.of (by kernel_rfl)
instance : IsZC Try.prog 51 [.slice none 0 0, .slice none 0 0, .slice none 0 0, .slice none 0 0] := IsZC.of (z := .agg #[.slice none 0 0, .slice none 0 0, .slice none 0 0, .slice none 0 0]) (by kernel_rfl) rfl
instance : IsBd Try.prog 51 [(0, 1), (1, 1), (2, 1), (3, 1)] := IsBd.of (by kernel_rfl)
instance : IsT Try.prog 26 (List Int × List (List Int) × List Nat × List Nat × List (List Int)) := IsT.of (by kernel_rfl) Try.underlying26 rfl
instance : IsC Try.prog 26 5 true := IsC.of (by kernel_rfl) Try.underlying26 rfl
instance : IsFd Try.prog 26 0 0 := IsFd.of (by kernel_rfl)
instance : IsFd Try.prog 26 1 1 := IsFd.of (by kernel_rfl)
instance : IsFd Try.prog 26 2 2 := IsFd.of (by kernel_rfl)
instance : IsFd Try.prog 26 3 3 := IsFd.of (by kernel_rfl)
instance : IsFd Try.prog 26 4 4 := IsFd.of (by kernel_rfl)
instance : IsZC Try.prog 26 [.slice none 0 0, .slice none 0 0, .slice none 0 0, .slice none 0 0, .slice none 0 0] := IsZC.of (z := .agg #[.slice none 0 0, .slice none 0 0, .slice none 0 0, .slice none 0 0, .slice none 0 0]) (by kernel_rfl) rfl
instance : IsBd Try.prog 26 [(0, 1), (1, 1), (2, 1), (3, 1), (4, 1)] := IsBd.of (by kernel_rfl)
instance : IsT Try.prog 101 (ByteArray × Int) := IsT.of (by kernel_rfl) Try.underlying101 rfl
instance : IsC Try.prog 101 2 true := IsC.of (by kernel_rfl) Try.underlying101 rfl
instance : IsFd Try.prog 101 0 0 := IsFd.of (by kernel_rfl)
instance : IsFd Try.prog 101 1 1 := IsFd.of (by kernel_rfl)
instance : IsZC Try.prog 101 [.string ⟨#[]⟩, .int .i64 0] := IsZC.of (z := .agg #[.string ⟨#[]⟩, .int .i64 0]) (by kernel_rfl) rfl
instance : IsBd Try.prog 101 [(0, 1), (1, 1)] := IsBd.of (by kernel_rfl)
instance : IsZ Try.prog 101 ((⟨#[]⟩, 0) : (ByteArray × Int)) 24 := IsZ.of (z := .agg #[.string ⟨#[]⟩, .int .i64 0]) (by kernel_rfl) (fun _ _ => rd_mk (c1 := [.string ⟨#[]⟩]) (c2 := [.int .i64 0]) ⟨rfl, by decide⟩ (rd_mkInt _ _ _))
instance : IsT Try.prog 104 (Int × Int) := IsT.of (by kernel_rfl) Try.underlying104 rfl
instance : IsC Try.prog 104 2 true := IsC.of (by kernel_rfl) Try.underlying104 rfl
instance : IsFd Try.prog 104 0 0 := IsFd.of (by kernel_rfl)
instance : IsFd Try.prog 104 1 1 := IsFd.of (by kernel_rfl)
instance : IsZC Try.prog 104 [.int .i64 0, .int .i64 0] := IsZC.of (z := .agg #[.int .i64 0, .int .i64 0]) (by kernel_rfl) rfl
instance : IsBd Try.prog 104 [(0, 1), (1, 1)] := IsBd.of (by kernel_rfl)
instance : IsZ Try.prog 104 ((0, 0) : (Int × Int)) 16 := IsZ.of (z := .agg #[.int .i64 0, .int .i64 0]) (by kernel_rfl) (fun _ _ => rd_mk (rd_mkInt _ _ _) (rd_mkInt _ _ _))
instance : IsT Try.prog 80 (List (ByteArray × Int) × List (Int × Int)) := IsT.of (by kernel_rfl) Try.underlying80 rfl
instance : IsC Try.prog 80 2 true := IsC.of (by kernel_rfl) Try.underlying80 rfl
instance : IsFd Try.prog 80 0 0 := IsFd.of (by kernel_rfl)
instance : IsFd Try.prog 80 1 1 := IsFd.of (by kernel_rfl)
instance : IsZC Try.prog 80 [.slice none 0 0, .slice none 0 0] := IsZC.of (z := .agg #[.slice none 0 0, .slice none 0 0]) (by kernel_rfl) rfl
instance : IsBd Try.prog 80 [(0, 1), (1, 1)] := IsBd.of (by kernel_rfl)
instance : IsT Try.prog 95 (Int × Int × Int) := IsT.of (by kernel_rfl) Try.underlying95 rfl
instance : IsC Try.prog 95 3 true := IsC.of (by kernel_rfl) Try.underlying95 rfl
instance : IsFd Try.prog 95 0 0 := IsFd.of (by kernel_rfl)
instance : IsFd Try.prog 95 1 1 := IsFd.of (by kernel_rfl)
instance : IsFd Try.prog 95 2 2 := IsFd.of (by kernel_rfl)
instance : IsZC Try.prog 95 [.int .i64 0, .int .i64 0, .int .i64 0] := IsZC.of (z := .agg #[.int .i64 0, .int .i64 0, .int .i64 0]) (by kernel_rfl) rfl
instance : IsBd Try.prog 95 [(0, 1), (1, 1), (2, 1)] := IsBd.of (by kernel_rfl)
instance : IsZ Try.prog 95 ((0, 0, 0) : (Int × Int × Int)) 24 := IsZ.of (z := .agg #[.int .i64 0, .int .i64 0, .int .i64 0]) (by kernel_rfl) (fun _ _ => rd_mk (rd_mkInt _ _ _) (rd_mk (rd_mkInt _ _ _) (rd_mkInt _ _ _)))
instance : IsT Try.prog 92 (Int × Int) := IsT.of (by kernel_rfl) Try.underlying92 rfl
instance : IsC Try.prog 92 2 true := IsC.of (by kernel_rfl) Try.underlying92 rfl
instance : IsFd Try.prog 92 0 0 := IsFd.of (by kernel_rfl)
instance : IsFd Try.prog 92 1 1 := IsFd.of (by kernel_rfl)
instance : IsZC Try.prog 92 [.int .i64 0, .int .i64 0] := IsZC.of (z := .agg #[.int .i64 0, .int .i64 0]) (by kernel_rfl) rfl
instance : IsBd Try.prog 92 [(0, 1), (1, 1)] := IsBd.of (by kernel_rfl)
instance : IsZ Try.prog 92 ((0, 0) : (Int × Int)) 16 := IsZ.of (z := .agg #[.int .i64 0, .int .i64 0]) (by kernel_rfl) (fun _ _ => rd_mk (rd_mkInt _ _ _) (rd_mkInt _ _ _))
instance : IsT Try.prog 139 (Int × Int) := IsT.of (by kernel_rfl) Try.underlying139 rfl
instance : IsC Try.prog 139 2 true := IsC.of (by kernel_rfl) Try.underlying139 rfl
instance : IsFd Try.prog 139 0 0 := IsFd.of (by kernel_rfl)
instance : IsFd Try.prog 139 1 1 := IsFd.of (by kernel_rfl)
instance : IsZC Try.prog 139 [.int .i64 0, .int .i64 0] := IsZC.of (z := .agg #[.int .i64 0, .int .i64 0]) (by kernel_rfl) rfl
instance : IsBd Try.prog 139 [(0, 1), (1, 1)] := IsBd.of (by kernel_rfl)
instance : IsZ Try.prog 139 ((0, 0) : (Int × Int)) 16 := IsZ.of (z := .agg #[.int .i64 0, .int .i64 0]) (by kernel_rfl) (fun _ _ => rd_mk (rd_mkInt _ _ _) (rd_mkInt _ _ _))
instance : IsT Try.prog 109 (List (List Int) × List (List (Int × Int))) := IsT.of (by kernel_rfl) Try.underlying109 rfl
instance : IsC Try.prog 109 2 true := IsC.of (by kernel_rfl) Try.underlying109 rfl
instance : IsFd Try.prog 109 0 0 := IsFd.of (by kernel_rfl)
instance : IsFd Try.prog 109 1 1 := IsFd.of (by kernel_rfl)
instance : IsZC Try.prog 109 [.slice none 0 0, .slice none 0 0] := IsZC.of (z := .agg #[.slice none 0 0, .slice none 0 0]) (by kernel_rfl) rfl
instance : IsBd Try.prog 109 [(0, 1), (1, 1)] := IsBd.of (by kernel_rfl)
instance : IsT Try.prog 126 (Bool × List Int × List Int) := IsT.of (by kernel_rfl) Try.underlying126 rfl
instance : IsC Try.prog 126 3 true := IsC.of (by kernel_rfl) Try.underlying126 rfl
instance : IsFd Try.prog 126 0 0 := IsFd.of (by kernel_rfl)
instance : IsFd Try.prog 126 1 1 := IsFd.of (by kernel_rfl)
instance : IsFd Try.prog 126 2 2 := IsFd.of (by kernel_rfl)
instance : IsZC Try.prog 126 [.bool false, .slice none 0 0, .slice none 0 0] := IsZC.of (z := .agg #[.bool false, .slice none 0 0, .slice none 0 0]) (by kernel_rfl) rfl
instance : IsBd Try.prog 126 [(0, 1), (1, 1), (2, 1)] := IsBd.of (by kernel_rfl)
instance : IsT Try.prog 184 (Int × Int) := IsT.of (by kernel_rfl) Try.underlying184 rfl
instance : IsC Try.prog 184 2 true := IsC.of (by kernel_rfl) Try.underlying184 rfl
instance : IsFd Try.prog 184 0 0 := IsFd.of (by kernel_rfl)
instance : IsFd Try.prog 184 1 1 := IsFd.of (by kernel_rfl)
instance : IsZC Try.prog 184 [.int .i64 0, .int .i64 0] := IsZC.of (z := .agg #[.int .i64 0, .int .i64 0]) (by kernel_rfl) rfl
instance : IsBd Try.prog 184 [(0, 1), (1, 1)] := IsBd.of (by kernel_rfl)
instance : IsZ Try.prog 184 ((0, 0) : (Int × Int)) 16 := IsZ.of (z := .agg #[.int .i64 0, .int .i64 0]) (by kernel_rfl) (fun _ _ => rd_mk (rd_mkInt _ _ _) (rd_mkInt _ _ _))
instance : IsC Try.prog 145 7 true := IsC.of (by kernel_rfl) Try.underlying145 rfl
instance : IsFd Try.prog 145 0 0 := IsFd.of (by kernel_rfl)
instance : IsFd Try.prog 145 1 1 := IsFd.of (by kernel_rfl)
instance : IsFd Try.prog 145 2 2 := IsFd.of (by kernel_rfl)
instance : IsZC Try.prog 145 [.map none, .slice none 0 0, .slice none 0 0, .slice none 0 0, .slice none 0 0, .slice none 0 0, .slice none 0 0] := IsZC.of (z := .agg #[.map none, .slice none 0 0, .slice none 0 0, .slice none 0 0, .slice none 0 0, .slice none 0 0, .slice none 0 0]) (by kernel_rfl) rfl
instance : IsBd Try.prog 145 [(0, 1), (1, 1), (2, 5)] := IsBd.of (by kernel_rfl)
instance : IsC Try.prog 221 6 true := IsC.of (by kernel_rfl) Try.underlying221 rfl
instance : IsFd Try.prog 221 0 0 := IsFd.of (by kernel_rfl)
instance : IsFd Try.prog 221 1 4 := IsFd.of (by kernel_rfl)
instance : IsFd Try.prog 221 2 5 := IsFd.of (by kernel_rfl)
instance : IsZC Try.prog 221 [.slice none 0 0, .slice none 0 0, .slice none 0 0, .slice none 0 0, .slice none 0 0, .slice none 0 0] := IsZC.of (z := .agg #[.slice none 0 0, .slice none 0 0, .slice none 0 0, .slice none 0 0, .slice none 0 0, .slice none 0 0]) (by kernel_rfl) rfl
instance : IsBd Try.prog 221 [(0, 4), (4, 1), (5, 1)] := IsBd.of (by kernel_rfl)
instance : IsC Try.prog 167 10 true := IsC.of (by kernel_rfl) Try.underlying167 rfl
instance : IsFd Try.prog 167 0 0 := IsFd.of (by kernel_rfl)
instance : IsFd Try.prog 167 1 1 := IsFd.of (by kernel_rfl)
instance : IsFd Try.prog 167 2 3 := IsFd.of (by kernel_rfl)
instance : IsFd Try.prog 167 3 4 := IsFd.of (by kernel_rfl)
instance : IsFd Try.prog 167 4 5 := IsFd.of (by kernel_rfl)
instance : IsFd Try.prog 167 5 6 := IsFd.of (by kernel_rfl)
instance : IsZC Try.prog 167 [.slice none 0 0, .slice none 0 0, .slice none 0 0, .slice none 0 0, .slice none 0 0, .slice none 0 0, .slice none 0 0, .slice none 0 0, .slice none 0 0, .slice none 0 0] := IsZC.of (z := .agg #[.slice none 0 0, .slice none 0 0, .slice none 0 0, .slice none 0 0, .slice none 0 0, .slice none 0 0, .slice none 0 0, .slice none 0 0, .slice none 0 0, .slice none 0 0]) (by kernel_rfl) rfl
instance : IsBd Try.prog 167 [(0, 1), (1, 2), (3, 1), (4, 1), (5, 1), (6, 4)] := IsBd.of (by kernel_rfl)
instance : IsT Try.prog 198 (Int × Int) := IsT.of (by kernel_rfl) Try.underlying198 rfl
instance : IsC Try.prog 198 2 true := IsC.of (by kernel_rfl) Try.underlying198 rfl
instance : IsFd Try.prog 198 0 0 := IsFd.of (by kernel_rfl)
instance : IsFd Try.prog 198 1 1 := IsFd.of (by kernel_rfl)
instance : IsZC Try.prog 198 [.int .i64 0, .int .i64 0] := IsZC.of (z := .agg #[.int .i64 0, .int .i64 0]) (by kernel_rfl) rfl
instance : IsBd Try.prog 198 [(0, 1), (1, 1)] := IsBd.of (by kernel_rfl)
instance : IsZ Try.prog 198 ((0, 0) : (Int × Int)) 16 := IsZ.of (z := .agg #[.int .i64 0, .int .i64 0]) (by kernel_rfl) (fun _ _ => rd_mk (rd_mkInt _ _ _) (rd_mkInt _ _ _))
instance : IsC Try.prog 195 13 true := IsC.of (by kernel_rfl) Try.underlying195 rfl
instance : IsFd Try.prog 195 0 0 := IsFd.of (by kernel_rfl)
instance : IsFd Try.prog 195 1 4 := IsFd.of (by kernel_rfl)
instance : IsFd Try.prog 195 2 9 := IsFd.of (by kernel_rfl)
instance : IsFd Try.prog 195 3 10 := IsFd.of (by kernel_rfl)
instance : IsFd Try.prog 195 4 11 := IsFd.of (by kernel_rfl)
instance : IsFd Try.prog 195 5 12 := IsFd.of (by kernel_rfl)
instance : IsZC Try.prog 195 [.slice none 0 0, .slice none 0 0, .slice none 0 0, .slice none 0 0, .slice none 0 0, .slice none 0 0, .slice none 0 0, .slice none 0 0, .slice none 0 0, .map none, .slice none 0 0, .slice none 0 0, .slice none 0 0] := IsZC.of (z := .agg #[.slice none 0 0, .slice none 0 0, .slice none 0 0, .slice none 0 0, .slice none 0 0, .slice none 0 0, .slice none 0 0, .slice none 0 0, .slice none 0 0, .map none, .slice none 0 0, .slice none 0 0, .slice none 0 0]) (by kernel_rfl) rfl
instance : IsBd Try.prog 195 [(0, 4), (4, 5), (9, 1), (10, 1), (11, 1), (12, 1)] := IsBd.of (by kernel_rfl)
instance : IsC Try.prog 240 7 true := IsC.of (by kernel_rfl) Try.underlying240 rfl
instance : IsFd Try.prog 240 0 0 := IsFd.of (by kernel_rfl)
instance : IsFd Try.prog 240 1 1 := IsFd.of (by kernel_rfl)
instance : IsFd Try.prog 240 2 2 := IsFd.of (by kernel_rfl)
instance : IsFd Try.prog 240 3 3 := IsFd.of (by kernel_rfl)
instance : IsFd Try.prog 240 4 4 := IsFd.of (by kernel_rfl)
instance : IsFd Try.prog 240 5 5 := IsFd.of (by kernel_rfl)
instance : IsFd Try.prog 240 6 6 := IsFd.of (by kernel_rfl)
instance : IsZC Try.prog 240 [.slice none 0 0, .slice none 0 0, .slice none 0 0, .slice none 0 0, .slice none 0 0, .int .i64 0, .int .i64 0] := IsZC.of (z := .agg #[.slice none 0 0, .slice none 0 0, .slice none 0 0, .slice none 0 0, .slice none 0 0, .int .i64 0, .int .i64 0]) (by kernel_rfl) rfl
instance : IsBd Try.prog 240 [(0, 1), (1, 1), (2, 1), (3, 1), (4, 1), (5, 1), (6, 1)] := IsBd.of (by kernel_rfl)
instance : IsT Try.prog 77 (List (ByteArray × Int)) := IsT.of (by kernel_rfl) Try.underlying77 rfl
instance : IsS Try.prog 77 101 := ⟨Try.underlying77⟩
instance : IsZ Try.prog 77 ([] : List (ByteArray × Int)) 24 := IsZ.of (z := .slice none 0 0) (by kernel_rfl) (fun _ _ => ⟨none, 0, rfl, by simp, by simp [maxLen], fun _ => rfl, fun i hi => absurd hi (by simp)⟩)
instance : IsC Try.prog 77 1 false := IsC.of (by kernel_rfl) Try.underlying77 rfl
instance : IsZC Try.prog 77 [.slice none 0 0] := IsZC.of (z := .slice none 0 0) (by kernel_rfl) rfl
instance : IsT Try.prog 78 (List (Int × Int)) := IsT.of (by kernel_rfl) Try.underlying78 rfl
instance : IsS Try.prog 78 104 := ⟨Try.underlying78⟩
instance : IsZ Try.prog 78 ([] : List (Int × Int)) 24 := IsZ.of (z := .slice none 0 0) (by kernel_rfl) (fun _ _ => ⟨none, 0, rfl, by simp, by simp [maxLen], fun _ => rfl, fun i hi => absurd hi (by simp)⟩)
instance : IsC Try.prog 78 1 false := IsC.of (by kernel_rfl) Try.underlying78 rfl
instance : IsZC Try.prog 78 [.slice none 0 0] := IsZC.of (z := .slice none 0 0) (by kernel_rfl) rfl
instance : IsT Try.prog 87 (List (Int × Int × Int)) := IsT.of (by kernel_rfl) Try.underlying87 rfl
instance : IsS Try.prog 87 95 := ⟨Try.underlying87⟩
instance : IsZ Try.prog 87 ([] : List (Int × Int × Int)) 24 := IsZ.of (z := .slice none 0 0) (by kernel_rfl) (fun _ _ => ⟨none, 0, rfl, by simp, by simp [maxLen], fun _ => rfl, fun i hi => absurd hi (by simp)⟩)
instance : IsC Try.prog 87 1 false := IsC.of (by kernel_rfl) Try.underlying87 rfl
instance : IsZC Try.prog 87 [.slice none 0 0] := IsZC.of (z := .slice none 0 0) (by kernel_rfl) rfl
instance : IsT Try.prog 81 (List (Int × Int)) := IsT.of (by kernel_rfl) Try.underlying81 rfl
instance : IsS Try.prog 81 92 := ⟨Try.underlying81⟩
instance : IsZ Try.prog 81 ([] : List (Int × Int)) 24 := IsZ.of (z := .slice none 0 0) (by kernel_rfl) (fun _ _ => ⟨none, 0, rfl, by simp, by simp [maxLen], fun _ => rfl, fun i hi => absurd hi (by simp)⟩)
instance : IsC Try.prog 81 1 false := IsC.of (by kernel_rfl) Try.underlying81 rfl
instance : IsZC Try.prog 81 [.slice none 0 0] := IsZC.of (z := .slice none 0 0) (by kernel_rfl) rfl
instance : IsT Try.prog 107 (List (List (Int × Int))) := IsT.of (by kernel_rfl) Try.underlying107 rfl
instance : IsS Try.prog 107 81 := ⟨Try.underlying107⟩
instance : IsZ Try.prog 107 ([] : List (List (Int × Int))) 24 := IsZ.of (z := .slice none 0 0) (by kernel_rfl) (fun _ _ => ⟨none, 0, rfl, by simp, by simp [maxLen], fun _ => rfl, fun i hi => absurd hi (by simp)⟩)
instance : IsC Try.prog 107 1 false := IsC.of (by kernel_rfl) Try.underlying107 rfl
instance : IsZC Try.prog 107 [.slice none 0 0] := IsZC.of (z := .slice none 0 0) (by kernel_rfl) rfl
instance : IsT Try.prog 140 (List (Int × Int)) := IsT.of (by kernel_rfl) Try.underlying140 rfl
instance : IsS Try.prog 140 139 := ⟨Try.underlying140⟩
instance : IsZ Try.prog 140 ([] : List (Int × Int)) 24 := IsZ.of (z := .slice none 0 0) (by kernel_rfl) (fun _ _ => ⟨none, 0, rfl, by simp, by simp [maxLen], fun _ => rfl, fun i hi => absurd hi (by simp)⟩)
instance : IsC Try.prog 140 1 false := IsC.of (by kernel_rfl) Try.underlying140 rfl
instance : IsZC Try.prog 140 [.slice none 0 0] := IsZC.of (z := .slice none 0 0) (by kernel_rfl) rfl
instance : IsT Try.prog 193 (List (Int × Int)) := IsT.of (by kernel_rfl) Try.underlying193 rfl
instance : IsS Try.prog 193 198 := ⟨Try.underlying193⟩
instance : IsZ Try.prog 193 ([] : List (Int × Int)) 24 := IsZ.of (z := .slice none 0 0) (by kernel_rfl) (fun _ _ => ⟨none, 0, rfl, by simp, by simp [maxLen], fun _ => rfl, fun i hi => absurd hi (by simp)⟩)
instance : IsC Try.prog 193 1 false := IsC.of (by kernel_rfl) Try.underlying193 rfl
instance : IsZC Try.prog 193 [.slice none 0 0] := IsZC.of (z := .slice none 0 0) (by kernel_rfl) rfl
instance : IsT Try.prog 182 (List (Int × Int)) := IsT.of (by kernel_rfl) Try.underlying182 rfl
instance : IsS Try.prog 182 184 := ⟨Try.underlying182⟩
instance : IsZ Try.prog 182 ([] : List (Int × Int)) 24 := IsZ.of (z := .slice none 0 0) (by kernel_rfl) (fun _ _ => ⟨none, 0, rfl, by simp, by simp [maxLen], fun _ => rfl, fun i hi => absurd hi (by simp)⟩)
instance : IsC Try.prog 182 1 false := IsC.of (by kernel_rfl) Try.underlying182 rfl
instance : IsZC Try.prog 182 [.slice none 0 0] := IsZC.of (z := .slice none 0 0) (by kernel_rfl) rfl
instance : IsT Try.prog 136 (List (List Bool)) := IsT.of (by kernel_rfl) Try.underlying136 rfl
instance : IsS Try.prog 136 55 := ⟨Try.underlying136⟩
instance : IsZ Try.prog 136 ([] : List (List Bool)) 24 := IsZ.of (z := .slice none 0 0) (by kernel_rfl) (fun _ _ => ⟨none, 0, rfl, by simp, by simp [maxLen], fun _ => rfl, fun i hi => absurd hi (by simp)⟩)
instance : IsC Try.prog 136 1 false := IsC.of (by kernel_rfl) Try.underlying136 rfl
instance : IsZC Try.prog 136 [.slice none 0 0] := IsZC.of (z := .slice none 0 0) (by kernel_rfl) rfl
instance : IsC Try.prog 143 1 false := IsC.of (by kernel_rfl) Try.underlying143 rfl
instance : IsC Try.prog 161 1 false := IsC.of (by kernel_rfl) Try.underlying161 rfl
instance : IsC Try.prog 165 1 false := IsC.of (by kernel_rfl) Try.underlying165 rfl
instance : IsC Try.prog 191 1 false := IsC.of (by kernel_rfl) Try.underlying191 rfl
instance : IsC Try.prog 238 1 false := IsC.of (by kernel_rfl) Try.underlying238 rfl
instance : IsC Try.prog 142 1 false := IsC.of (by kernel_rfl) Try.underlying142 rfl
instance : IsC Try.prog 178 1 false := IsC.of (by kernel_rfl) Try.underlying178 rfl
instance : IsF Try.prog 133 := ⟨_, Try.func133, rfl, by decide⟩
instance : IsF Try.prog 73 := ⟨_, Try.func73, rfl, by decide⟩
instance : IsF Try.prog 132 := ⟨_, Try.func132, rfl, by decide⟩
instance : IsF Try.prog 83 := ⟨_, Try.func83, rfl, by decide⟩
instance : IsF Try.prog 171 := ⟨_, Try.func171, rfl, by decide⟩
instance : IsF Try.prog 119 := ⟨_, Try.func119, rfl, by decide⟩
instance : IsF Try.prog 122 := ⟨_, Try.func122, rfl, by decide⟩
instance : IsF Try.prog 176 := ⟨_, Try.func176, rfl, by decide⟩
instance : IsF Try.prog 125 := ⟨_, Try.func125, rfl, by decide⟩
instance : IsF Try.prog 179 := ⟨_, Try.func179, rfl, by decide⟩
instance : IsF Try.prog 180 := ⟨_, Try.func180, rfl, by decide⟩
instance : IsF Try.prog 181 := ⟨_, Try.func181, rfl, by decide⟩
instance : IsF Try.prog 121 := ⟨_, Try.func121, rfl, by decide⟩
instance : IsF Try.prog 173 := ⟨_, Try.func173, rfl, by decide⟩
instance : IsF Try.prog 174 := ⟨_, Try.func174, rfl, by decide⟩
instance : IsF Try.prog 175 := ⟨_, Try.func175, rfl, by decide⟩
instance : IsF Try.prog 126 := ⟨_, Try.func126, rfl, by decide⟩
instance : IsF Try.prog 123 := ⟨_, Try.func123, rfl, by decide⟩
instance : IsF Try.prog 159 := ⟨_, Try.func159, rfl, by decide⟩
instance : IsF Try.prog 196 := ⟨_, Try.func196, rfl, by decide⟩
instance : IsF Try.prog 156 := ⟨_, Try.func156, rfl, by decide⟩
instance : IsF Try.prog 151 := ⟨_, Try.func151, rfl, by decide⟩
instance : IsF Try.prog 191 := ⟨_, Try.func191, rfl, by decide⟩
instance : IsF Try.prog 147 := ⟨_, Try.func147, rfl, by decide⟩
instance : IsF Try.prog 155 := ⟨_, Try.func155, rfl, by decide⟩
instance : IsF Try.prog 154 := ⟨_, Try.func154, rfl, by decide⟩
instance : IsF Try.prog 153 := ⟨_, Try.func153, rfl, by decide⟩
instance : IsF Try.prog 192 := ⟨_, Try.func192, rfl, by decide⟩
instance : IsF Try.prog 193 := ⟨_, Try.func193, rfl, by decide⟩
instance : IsF Try.prog 210 := ⟨_, Try.func210, rfl, by decide⟩
instance : IsF Try.prog 211 := ⟨_, Try.func211, rfl, by decide⟩
instance : IsF Try.prog 98 := ⟨_, Try.func98, rfl, by decide⟩
instance : IsF Try.prog 148 := ⟨_, Try.func148, rfl, by decide⟩
instance : IsF Try.prog 149 := ⟨_, Try.func149, rfl, by decide⟩
instance : IsF Try.prog 152 := ⟨_, Try.func152, rfl, by decide⟩
instance : IsF Try.prog 158 := ⟨_, Try.func158, rfl, by decide⟩
instance : IsF Try.prog 150 := ⟨_, Try.func150, rfl, by decide⟩
instance : IsF Try.prog 190 := ⟨_, Try.func190, rfl, by decide⟩
instance : IsF Try.prog 195 := ⟨_, Try.func195, rfl, by decide⟩
instance : IsF Try.prog 213 := ⟨_, Try.func213, rfl, by decide⟩
instance : IsF Try.prog 99 := ⟨_, Try.func99, rfl, by decide⟩
instance : IsF Try.prog 157 := ⟨_, Try.func157, rfl, by decide⟩
instance : IsF Try.prog 160 := ⟨_, Try.func160, rfl, by decide⟩
instance : IsF Try.prog 104 := ⟨_, Try.func104, rfl, by decide⟩
instance : IsF Try.prog 105 := ⟨_, Try.func105, rfl, by decide⟩
instance : IsF Try.prog 103 := ⟨_, Try.func103, rfl, by decide⟩
instance : IsF Try.prog 102 := ⟨_, Try.func102, rfl, by decide⟩
instance : IsF Try.prog 101 := ⟨_, Try.func101, rfl, by decide⟩
instance : IsF Try.prog 205 := ⟨_, Try.func205, rfl, by decide⟩
instance : IsF Try.prog 206 := ⟨_, Try.func206, rfl, by decide⟩
instance : IsF Try.prog 172 := ⟨_, Try.func172, rfl, by decide⟩
instance : IsF Try.prog 170 := ⟨_, Try.func170, rfl, by decide⟩
instance : IsF Try.prog 169 := ⟨_, Try.func169, rfl, by decide⟩
instance : IsF Try.prog 203 := ⟨_, Try.func203, rfl, by decide⟩
instance : IsF Try.prog 38 := ⟨_, Try.func38, rfl, by decide⟩
instance : IsF Try.prog 90 := ⟨_, Try.func90, rfl, by decide⟩
instance : IsF Try.prog 21 := ⟨_, Try.func21, rfl, by decide⟩
instance : IsF Try.prog 94 := ⟨_, Try.func94, rfl, by decide⟩
instance : IsF Try.prog 198 := ⟨_, Try.func198, rfl, by decide⟩
instance : IsF Try.prog 139 := ⟨_, Try.func139, rfl, by decide⟩
instance : IsF Try.prog 93 := ⟨_, Try.func93, rfl, by decide⟩
instance : IsF Try.prog 75 := ⟨_, Try.func75, rfl, by decide⟩
instance : IsF Try.prog 117 := ⟨_, Try.func117, rfl, by decide⟩
instance : IsF Try.prog 33 := ⟨_, Try.func33, rfl, by decide⟩
instance : IsF Try.prog 59 := ⟨_, Try.func59, rfl, by decide⟩
instance : IsF Try.prog 76 := ⟨_, Try.func76, rfl, by decide⟩
instance : IsF Try.prog 118 := ⟨_, Try.func118, rfl, by decide⟩
instance : IsF Try.prog 116 := ⟨_, Try.func116, rfl, by decide⟩
instance : IsF Try.prog 115 := ⟨_, Try.func115, rfl, by decide⟩
instance : IsF Try.prog 77 := ⟨_, Try.func77, rfl, by decide⟩
instance : IsF Try.prog 50 := ⟨_, Try.func50, rfl, by decide⟩
instance : IsF Try.prog 214 := ⟨_, Try.func214, rfl, by decide⟩
instance : IsF Try.prog 177 := ⟨_, Try.func177, rfl, by decide⟩
instance : IsF Try.prog 143 := ⟨_, Try.func143, rfl, by decide⟩
instance : IsF Try.prog 178 := ⟨_, Try.func178, rfl, by decide⟩
instance : IsF Try.prog 27 := ⟨_, Try.func27, rfl, by decide⟩
instance : IsF Try.prog 28 := ⟨_, Try.func28, rfl, by decide⟩
instance : IsF Try.prog 81 := ⟨_, Try.func81, rfl, by decide⟩
instance : IsF Try.prog 82 := ⟨_, Try.func82, rfl, by decide⟩
instance : IsF Try.prog 84 := ⟨_, Try.func84, rfl, by decide⟩
instance : IsF Try.prog 85 := ⟨_, Try.func85, rfl, by decide⟩
instance : IsF Try.prog 29 := ⟨_, Try.func29, rfl, by decide⟩
instance : IsF Try.prog 87 := ⟨_, Try.func87, rfl, by decide⟩
instance : IsF Try.prog 88 := ⟨_, Try.func88, rfl, by decide⟩
instance : IsF Try.prog 136 := ⟨_, Try.func136, rfl, by decide⟩
instance : IsF Try.prog 15 := ⟨_, Try.func15, rfl, by decide⟩
instance : IsF Try.prog 72 := ⟨_, Try.func72, rfl, by decide⟩
instance : IsF Try.prog 80 := ⟨_, Try.func80, rfl, by decide⟩
instance : IsF Try.prog 71 := ⟨_, Try.func71, rfl, by decide⟩
instance : IsF Try.prog 86 := ⟨_, Try.func86, rfl, by decide⟩
instance : IsF Try.prog 140 := ⟨_, Try.func140, rfl, by decide⟩
instance : IsF Try.prog 135 := ⟨_, Try.func135, rfl, by decide⟩
instance : IsF Try.prog 137 := ⟨_, Try.func137, rfl, by decide⟩
instance : IsF Try.prog 138 := ⟨_, Try.func138, rfl, by decide⟩
instance : IsF Try.prog 144 := ⟨_, Try.func144, rfl, by decide⟩
instance : IsF Try.prog 186 := ⟨_, Try.func186, rfl, by decide⟩
instance : IsF Try.prog 208 := ⟨_, Try.func208, rfl, by decide⟩
instance : IsF Try.prog 64 := ⟨_, Try.func64, rfl, by decide⟩
instance : IsF Try.prog 124 := ⟨_, Try.func124, rfl, by decide⟩
instance : IsF Try.prog 106 := ⟨_, Try.func106, rfl, by decide⟩
instance : IsF Try.prog 55 := ⟨_, Try.func55, rfl, by decide⟩
instance : IsF Try.prog 56 := ⟨_, Try.func56, rfl, by decide⟩
instance : IsF Try.prog 111 := ⟨_, Try.func111, rfl, by decide⟩
instance : IsF Try.prog 166 := ⟨_, Try.func166, rfl, by decide⟩
instance : IsF Try.prog 202 := ⟨_, Try.func202, rfl, by decide⟩
instance : IsF Try.prog 112 := ⟨_, Try.func112, rfl, by decide⟩
instance : IsF Try.prog 168 := ⟨_, Try.func168, rfl, by decide⟩
instance : IsF Try.prog 113 := ⟨_, Try.func113, rfl, by decide⟩
instance : IsF Try.prog 167 := ⟨_, Try.func167, rfl, by decide⟩
instance : IsF Try.prog 40 := ⟨_, Try.func40, rfl, by decide⟩
instance : IsF Try.prog 41 := ⟨_, Try.func41, rfl, by decide⟩
instance : IsF Try.prog 97 := ⟨_, Try.func97, rfl, by decide⟩
instance : IsF Try.prog 96 := ⟨_, Try.func96, rfl, by decide⟩
instance : IsF Try.prog 78 := ⟨_, Try.func78, rfl, by decide⟩
instance : IsF Try.prog 79 := ⟨_, Try.func79, rfl, by decide⟩
instance : IsF Try.prog 134 := ⟨_, Try.func134, rfl, by decide⟩
instance : IsF Try.prog 185 := ⟨_, Try.func185, rfl, by decide⟩
instance : IsF Try.prog 128 := ⟨_, Try.func128, rfl, by decide⟩
instance : IsF Try.prog 182 := ⟨_, Try.func182, rfl, by decide⟩
instance : IsF Try.prog 207 := ⟨_, Try.func207, rfl, by decide⟩
instance : IsF Try.prog 107 := ⟨_, Try.func107, rfl, by decide⟩
instance : IsF Try.prog 165 := ⟨_, Try.func165, rfl, by decide⟩
instance : IsF Try.prog 197 := ⟨_, Try.func197, rfl, by decide⟩
instance : IsF Try.prog 52 := ⟨_, Try.func52, rfl, by decide⟩
instance : IsF Try.prog 162 := ⟨_, Try.func162, rfl, by decide⟩
instance : IsF Try.prog 163 := ⟨_, Try.func163, rfl, by decide⟩
instance : IsF Try.prog 109 := ⟨_, Try.func109, rfl, by decide⟩
instance : IsF Try.prog 161 := ⟨_, Try.func161, rfl, by decide⟩
instance : IsF Try.prog 199 := ⟨_, Try.func199, rfl, by decide⟩
instance : IsF Try.prog 110 := ⟨_, Try.func110, rfl, by decide⟩
instance : IsF Try.prog 67 := ⟨_, Try.func67, rfl, by decide⟩
instance : IsF Try.prog 68 := ⟨_, Try.func68, rfl, by decide⟩
instance : IsF Try.prog 184 := ⟨_, Try.func184, rfl, by decide⟩
instance : IsF Try.prog 129 := ⟨_, Try.func129, rfl, by decide⟩
instance : IsF Try.prog 130 := ⟨_, Try.func130, rfl, by decide⟩
instance : IsF Try.prog 183 := ⟨_, Try.func183, rfl, by decide⟩
instance : IsF Try.prog 131 := ⟨_, Try.func131, rfl, by decide⟩
instance : IsF Try.prog 127 := ⟨_, Try.func127, rfl, by decide⟩
instance : IsF Try.prog 46 := ⟨_, Try.func46, rfl, by decide⟩
instance : IsF Try.prog 188 := ⟨_, Try.func188, rfl, by decide⟩
instance : IsF Try.prog 164 := ⟨_, Try.func164, rfl, by decide⟩
instance : IsF Try.prog 120 := ⟨_, Try.func120, rfl, by decide⟩
instance : IsF Try.prog 146 := ⟨_, Try.func146, rfl, by decide⟩
instance : IsF Try.prog 194 := ⟨_, Try.func194, rfl, by decide⟩
instance : IsF Try.prog 212 := ⟨_, Try.func212, rfl, by decide⟩
instance : IsF Try.prog 200 := ⟨_, Try.func200, rfl, by decide⟩
instance : IsF Try.prog 215 := ⟨_, Try.func215, rfl, by decide⟩
instance : IsF Try.prog 201 := ⟨_, Try.func201, rfl, by decide⟩
instance : IsF Try.prog 189 := ⟨_, Try.func189, rfl, by decide⟩
instance : IsF Try.prog 57 := ⟨_, Try.func57, rfl, by decide⟩
instance : IsF Try.prog 204 := ⟨_, Try.func204, rfl, by decide⟩
instance : IsF Try.prog 114 := ⟨_, Try.func114, rfl, by decide⟩
instance : IsF Try.prog 49 := ⟨_, Try.func49, rfl, by decide⟩
instance : IsF Try.prog 108 := ⟨_, Try.func108, rfl, by decide⟩
instance : IsF Try.prog 4 := ⟨_, Try.func4, rfl, by decide⟩
instance : IsF Try.prog 3 := ⟨_, Try.func3, rfl, by decide⟩
instance : IsF Try.prog 22 := ⟨_, Try.func22, rfl, by decide⟩
instance : IsF Try.prog 23 := ⟨_, Try.func23, rfl, by decide⟩
instance : IsF Try.prog 5 := ⟨_, Try.func5, rfl, by decide⟩
instance : IsF Try.prog 12 := ⟨_, Try.func12, rfl, by decide⟩
instance : IsF Try.prog 13 := ⟨_, Try.func13, rfl, by decide⟩
instance : IsF Try.prog 6 := ⟨_, Try.func6, rfl, by decide⟩
instance : IsF Try.prog 31 := ⟨_, Try.func31, rfl, by decide⟩
instance : IsF Try.prog 34 := ⟨_, Try.func34, rfl, by decide⟩
instance : IsF Try.prog 8 := ⟨_, Try.func8, rfl, by decide⟩
instance : IsF Try.prog 7 := ⟨_, Try.func7, rfl, by decide⟩
instance : IsF Try.prog 11 := ⟨_, Try.func11, rfl, by decide⟩
instance : IsF Try.prog 14 := ⟨_, Try.func14, rfl, by decide⟩
instance : IsF Try.prog 10 := ⟨_, Try.func10, rfl, by decide⟩
instance : IsF Try.prog 51 := ⟨_, Try.func51, rfl, by decide⟩
instance : IsF Try.prog 9 := ⟨_, Try.func9, rfl, by decide⟩
instance : IsF Try.prog 44 := ⟨_, Try.func44, rfl, by decide⟩
instance : IsF Try.prog 45 := ⟨_, Try.func45, rfl, by decide⟩
instance : IsF Try.prog 89 := ⟨_, Try.func89, rfl, by decide⟩
instance : IsF Try.prog 35 := ⟨_, Try.func35, rfl, by decide⟩
instance : IsF Try.prog 36 := ⟨_, Try.func36, rfl, by decide⟩
instance : IsF Try.prog 37 := ⟨_, Try.func37, rfl, by decide⟩
instance : IsF Try.prog 26 := ⟨_, Try.func26, rfl, by decide⟩
instance : IsF Try.prog 20 := ⟨_, Try.func20, rfl, by decide⟩
instance : IsF Try.prog 43 := ⟨_, Try.func43, rfl, by decide⟩
instance : IsF Try.prog 61 := ⟨_, Try.func61, rfl, by decide⟩
instance : IsF Try.prog 60 := ⟨_, Try.func60, rfl, by decide⟩
instance : IsF Try.prog 30 := ⟨_, Try.func30, rfl, by decide⟩
instance : IsF Try.prog 32 := ⟨_, Try.func32, rfl, by decide⟩
instance : IsF Try.prog 70 := ⟨_, Try.func70, rfl, by decide⟩
instance : IsF Try.prog 16 := ⟨_, Try.func16, rfl, by decide⟩
instance : IsF Try.prog 17 := ⟨_, Try.func17, rfl, by decide⟩
instance : IsF Try.prog 18 := ⟨_, Try.func18, rfl, by decide⟩
instance : IsF Try.prog 54 := ⟨_, Try.func54, rfl, by decide⟩
instance : IsF Try.prog 53 := ⟨_, Try.func53, rfl, by decide⟩
instance : IsF Try.prog 24 := ⟨_, Try.func24, rfl, by decide⟩
instance : IsF Try.prog 25 := ⟨_, Try.func25, rfl, by decide⟩
instance : IsF Try.prog 62 := ⟨_, Try.func62, rfl, by decide⟩
instance : IsF Try.prog 47 := ⟨_, Try.func47, rfl, by decide⟩
instance : IsF Try.prog 65 := ⟨_, Try.func65, rfl, by decide⟩
instance : IsF Try.prog 48 := ⟨_, Try.func48, rfl, by decide⟩
instance : IsF Try.prog 69 := ⟨_, Try.func69, rfl, by decide⟩
instance : IsF Try.prog 19 := ⟨_, Try.func19, rfl, by decide⟩
instance : IsF Try.prog 74 := ⟨_, Try.func74, rfl, by decide⟩
instance : IsF Try.prog 58 := ⟨_, Try.func58, rfl, by decide⟩
instance : IsF Try.prog 63 := ⟨_, Try.func63, rfl, by decide⟩
instance : IsF Try.prog 42 := ⟨_, Try.func42, rfl, by decide⟩
instance : IsF Try.prog 100 := ⟨_, Try.func100, rfl, by decide⟩
instance : IsF Try.prog 91 := ⟨_, Try.func91, rfl, by decide⟩
instance : IsF Try.prog 141 := ⟨_, Try.func141, rfl, by decide⟩
instance : IsF Try.prog 145 := ⟨_, Try.func145, rfl, by decide⟩
instance : IsF Try.prog 39 := ⟨_, Try.func39, rfl, by decide⟩
instance : IsF Try.prog 95 := ⟨_, Try.func95, rfl, by decide⟩
instance : IsF Try.prog 187 := ⟨_, Try.func187, rfl, by decide⟩
instance : IsF Try.prog 66 := ⟨_, Try.func66, rfl, by decide⟩
instance : IsF Try.prog 209 := ⟨_, Try.func209, rfl, by decide⟩
instance : IsF Try.prog 216 := ⟨_, Try.func216, rfl, by decide⟩
instance : IsF Try.prog 92 := ⟨_, Try.func92, rfl, by decide⟩
instance : IsF Try.prog 142 := ⟨_, Try.func142, rfl, by decide⟩
end Go.Proofs.Ytbphcblopoegcaa
/-
  Package lasso: words, their check and their letters.
-/
set_option linter.unusedVariables false
set_option linter.unusedSimpArgs false
namespace Go.Proofs.Ytbphcblopoegcaa
open Go.RowKit

def chkW (s l : List Nat) : Int := if s.length > 60 ∨ l.length > 60 - s.length then 2 else if l.length = 0 then 1 else 0
def lat (s l : List Nat) (i : Nat) : Nat := if i < s.length then s.getD i 0 else l.getD ((i - s.length) % l.length) 0
theorem chkW_ok {s l : List Nat} (h : chkW s l = 0) : s.length + l.length ≤ 60 ∧ 0 < l.length := by
  unfold chkW at h
  split at h
  · cases h
  · split at h
    · cases h
    · omega
abbrev wordV (so : Option Addr) (sc : Nat) (lo : Option Addr) (lc : Nat) (s l : List Nat) : Value := .agg [.slice so s.length sc, .slice lo l.length lc].toArray

theorem lassoCheck (w : World) {so lo : Option Addr} {sc lc : Nat} {s l : List Nat} (hs : s.length ≤ 9223372036854775807) (hl : l.length ≤ 9223372036854775807) :
    Rt Try.prog 78 [wordV so sc lo lc s l].toArray w fun v w' => v = .int .i64 (chkW s l) ∧ Ext w w' := by
  refine Rt.enter1 Try.func78 Try.ntmps78 rfl rfl ?_
  (repeat (first | (apply CW.seq) | (apply CW.region)))
  refine WL.boxB rfl rfl rfl fun w1 hb hE => ?_
  (repeat (first | (apply WL.pure; rfl; rfl; rfl) | (apply WL.nil) | (apply EX.thenN) | (apply CW.seq) | (apply CW.region) | (apply WL.lenS; rfl; rfl; rfl) | (apply WL.fa; rfl; rfl; rfl) | (apply WL.ld; rfl; rfl; rfl; assumption; rfl) | (apply CW.block)))
  (refine WL.lookG rfl rfl (fun h => ?_) (fun h => ?_))
  · (repeat (first | (apply WL.pure; rfl; rfl; rfl) | (apply WL.nil) | (apply EX.thenN) | (apply CW.seq) | (apply CW.region) | (apply WL.pass; rfl; rfl) | (apply CW.condT; rfl) | (apply CW.ret) | (apply EX.thenR) | (apply EX.inR)))
    refine EX.ret1 rfl rfl ⟨?_, hE⟩
    simp at h; unfold chkW
    rw [if_pos (by omega)]
  · simp at h
    (repeat (first | (apply WL.sub'; rfl; rfl; rfl; rfl; omega; omega) | (apply WL.pure; rfl; rfl; rfl) | (apply WL.nil) | (apply EX.thenN) | (apply WL.lenS; rfl; rfl; rfl) | (apply WL.fa; rfl; rfl; rfl) | (apply WL.ld; rfl; rfl; rfl; assumption; rfl)))
    refine CW.cond rfl (fun h1 => ?_) (fun h1 => ?_) <;> simp at h1
    · (repeat (first | (apply WL.pure; rfl; rfl; rfl) | (apply WL.nil) | (apply EX.thenN) | (apply CW.seq) | (apply CW.region) | (apply CW.ret) | (apply EX.thenR) | (apply EX.inR)))
      refine EX.ret1 rfl rfl ⟨?_, hE⟩
      unfold chkW
      rw [if_pos (by omega)]
    · (repeat (first | (apply WL.pure; rfl; rfl; rfl) | (apply WL.nil) | (apply EX.thenN) | (apply CW.seq) | (apply CW.region) | (apply WL.lenS; rfl; rfl; rfl) | (apply WL.fa; rfl; rfl; rfl) | (apply WL.ld; rfl; rfl; rfl; assumption; rfl)))
      refine CW.cond rfl (fun h2 => ?_) (fun h2 => ?_) <;> simp at h2
      · (repeat (first | (apply WL.pure; rfl; rfl; rfl) | (apply WL.nil) | (apply EX.thenN) | (apply CW.seq) | (apply CW.region) | (apply CW.ret) | (apply EX.thenR) | (apply EX.inR)))
        refine EX.ret1 rfl rfl ⟨?_, hE⟩
        unfold chkW
        rw [if_neg (by omega), if_pos (by simp [h2])]
      · (repeat (first | (apply WL.pure; rfl; rfl; rfl) | (apply WL.nil) | (apply EX.thenN) | (apply CW.seq) | (apply CW.region) | (apply EX.inN) | (apply CW.ret) | (apply CW.skip)))
        refine EX.ret1 rfl rfl ⟨?_, hE⟩
        unfold chkW
        rw [if_neg (by omega), if_neg (by simp [h2])]

def latA (s l : List Nat) (i : Int) : Nat × Int := if chkW s l ≠ 0 then (0, chkW s l) else if i < 0 then (0, 1) else (lat s l i.toNat, 0)
theorem latA_ok {s l : List Nat} (h : chkW s l = 0) (i : Nat) : latA s l (i : Int) = (lat s l i, 0) := by
  unfold latA; rw [if_neg (by simp [h]), if_neg (by omega)]; rfl
theorem lat_lt {s l : List Nat} (hs : ∀ x ∈ s, x < 18446744073709551616) (hl : ∀ x ∈ l, x < 18446744073709551616) (i : Nat) : lat s l i < 18446744073709551616 := by
  unfold lat
  have one : ∀ (l : List Nat), (∀ x ∈ l, x < 18446744073709551616) → ∀ k, l.getD k 0 < 18446744073709551616 := by
    intro l hl k
    rw [List.getD_eq_getElem?_getD]
    cases h : l[k]? with
    | none => simp
    | some y => simpa using hl y (List.mem_of_getElem? h)
  split
  · exact one s hs _
  · exact one l hl _
theorem Sl.u64 {w : World} {F : Nat → Prop} {ao : Option Addr} {cap : Nat} {xs : List Nat} (h : Sl w F ao cap xs) : ∀ x ∈ xs, x < 18446744073709551616 := by
  intro x hx
  obtain ⟨i, hi, rfl⟩ := List.getElem_of_mem hx
  obtain ⟨b, off, _, _, es, _, hr⟩ := h.el i hi
  exact hr.2
end Go.Proofs.Ytbphcblopoegcaa
/-
  The least way to write a word that goes round: plain part.
-/
set_option linter.unusedVariables false
set_option linter.unusedSimpArgs false
namespace Go.Proofs.Ytbphcblopoegcaa
open Go.RowKit

/-- d is a period from n on -/
def Per (L : Nat → Nat) (n d : Nat) : Prop := ∀ i, n ≤ i → L (i + d) = L i
theorem Per.later {L : Nat → Nat} {n m d : Nat} (h : Per L n d) (hm : n ≤ m) : Per L m d := fun i hi => h i (by omega)
theorem Per.mul {L : Nat → Nat} {n d : Nat} (h : Per L n d) : ∀ k, Per L n (k * d)
  | 0 => fun i _ => by simp
  | k + 1 => fun i hi => by
    rw [Nat.add_mul, Nat.one_mul, ← Nat.add_assoc, h _ (by omega)]
    exact Per.mul h k i hi
theorem Per.sub {L : Nat → Nat} {n p q : Nat} (hp : Per L n p) (hq : Per L n q) (h : p ≤ q) : Per L n (q - p) := by
  intro i hi
  rw [← hp (i + (q - p)) (by omega)]
  have : i + (q - p) + p = i + q := by omega
  rw [this]
  exact hq i hi
theorem Per.gcd {L : Nat → Nat} {n : Nat} : ∀ (k p q : Nat), p + q ≤ k → Per L n p → Per L n q → Per L n (Nat.gcd p q)
  | 0, p, q, hk, hp, hq => by
    have e1 : p = 0 := by omega
    have e2 : q = 0 := by omega
    subst e1 e2
    exact hp
  | k + 1, p, q, hk, hp, hq => by
    by_cases hp0 : p = 0
    · subst hp0; rw [Nat.gcd_zero_left]; exact hq
    by_cases hq0 : q = 0
    · subst hq0; rw [Nat.gcd_zero_right]; exact hp
    by_cases h : p ≤ q
    · have := Per.gcd k p (q - p) (by omega) hp (hp.sub hq h)
      rwa [Nat.gcd_sub_self_right h] at this
    · have := Per.gcd k (p - q) q (by omega) (hq.sub hp (by omega)) hq
      rwa [Nat.gcd_sub_self_left (by omega)] at this
/-- an eventual period is one from where the word goes round on -/
theorem Per.early {L : Nat → Nat} {n m p d : Nat} (hp : Per L n p) (h0 : 0 < p) (hd : Per L m d) : Per L n d := by
  intro i hi
  have h1 := hp.mul m (i + d) (by omega)
  have h2 := hp.mul m i hi
  have hm : m ≤ m * p := Nat.le_mul_of_pos_right m h0
  have h3 := hd (i + m * p) (by omega)
  have e : i + m * p + d = i + d + m * p := by omega
  rw [e, h1, h2] at h3
  exact h3
/-- the least eventual period -/
def Least (L : Nat → Nat) (p : Nat) : Prop := ∀ d m, 0 < d → Per L m d → p ≤ d

theorem lat_perP {s l : List Nat} (h0 : 0 < l.length) : Per (lat s l) s.length l.length := by
  intro i hi
  unfold lat
  rw [if_neg (by omega), if_neg (by omega)]
  congr 1
  have : i + l.length - s.length = (i - s.length) + l.length := by omega
  rw [this, Nat.add_mod_right]
theorem lat_loopP {s l : List Nat} {j : Nat} (h : j < l.length) : lat s l (s.length + j) = l.getD j 0 := by
  unfold lat
  rw [if_neg (by omega)]
  congr 1
  rw [Nat.add_sub_cancel_left, Nat.mod_eq_of_lt h]
/-- two ways to write one word, both least, are one -/
structure LeastW (L : Nat → Nat) (s l : List Nat) : Prop where
  pos : 0 < l.length
  same : ∀ i, lat s l i = L i
  least : Least L l.length
  tight : ∀ h : 0 < s.length, s[s.length - 1]? ≠ l[l.length - 1]?
theorem leastW_len {L : Nat → Nat} {s l t m : List Nat} (h : LeastW L s l) (k : LeastW L t m) : l.length = m.length := by
  have h1 : Per L s.length l.length := fun i hi => by rw [← h.same, ← h.same]; exact lat_perP h.pos i hi
  have h2 : Per L t.length m.length := fun i hi => by rw [← k.same, ← k.same]; exact lat_perP k.pos i hi
  have a := h.least m.length t.length k.pos h2
  have b := k.least l.length s.length h.pos h1
  omega
theorem leastW_stem {L : Nat → Nat} {s l t m : List Nat} (h : LeastW L s l) (k : LeastW L t m) : t.length ≤ s.length := by
  apply Classical.byContradiction
  intro hlt
  have hl := leastW_len h k
  have hp := h.pos
  have ht : 0 < t.length := by omega
  apply k.tight ht
  have h1 : Per L s.length l.length := fun i hi => by rw [← h.same, ← h.same]; exact lat_perP h.pos i hi
  have e1 := h1 (t.length - 1) (by omega)
  have e2 : lat t m (t.length - 1) = t.getD (t.length - 1) 0 := by unfold lat; rw [if_pos (by omega)]
  have e3 : lat t m (t.length + (m.length - 1)) = m.getD (m.length - 1) 0 := lat_loopP (by omega)
  rw [← k.same, ← k.same, e2, show t.length - 1 + l.length = t.length + (m.length - 1) by omega, e3] at e1
  rw [List.getD_eq_getElem?_getD, List.getD_eq_getElem?_getD, List.getElem?_eq_getElem (by omega), List.getElem?_eq_getElem (by omega)] at e1
  rw [List.getElem?_eq_getElem (by omega), List.getElem?_eq_getElem (by omega)]
  simp only [Option.getD_some] at e1
  rw [e1]
theorem leastW_eq {L : Nat → Nat} {s l t m : List Nat} (h : LeastW L s l) (k : LeastW L t m) : s = t ∧ l = m := by
  have hl := leastW_len h k
  have hs : s.length = t.length := Nat.le_antisymm (leastW_stem k h) (leastW_stem h k)
  constructor
  · apply List.ext_getElem hs
    intro i h1 h2
    have e1 := h.same i
    have e2 := k.same i
    unfold lat at e1 e2
    rw [if_pos h1] at e1
    rw [if_pos h2] at e2
    rw [← e2] at e1
    rw [List.getD_eq_getElem?_getD, List.getD_eq_getElem?_getD, List.getElem?_eq_getElem h1, List.getElem?_eq_getElem h2] at e1
    exact e1
  · apply List.ext_getElem hl
    intro i h1 h2
    have e1 := h.same (s.length + i)
    have e2 := k.same (t.length + i)
    rw [lat_loopP h1] at e1
    rw [lat_loopP h2, ← hs] at e2
    rw [← e2] at e1
    rw [List.getD_eq_getElem?_getD, List.getD_eq_getElem?_getD, List.getElem?_eq_getElem h1, List.getElem?_eq_getElem h2] at e1
    exact e1

/- WHAT least COMPUTES -/
def turnsB (l : List Nat) (n : Nat) : Bool := (List.range l.length).all fun i => decide (i < n) || (l.getD i 0 == l.getD (i - n) 0)
/-- the first n from k on that fits -/
def perGo (l : List Nat) : Nat → Nat → List Nat
  | 0, _ => l
  | f + 1, n => if l.length % n = 0 ∧ turnsB l n = true then l.take n else perGo l f (n + 1)
def perL (l : List Nat) : List Nat := perGo l l.length 1
def rollGo : Nat → List Nat → List Nat → List Nat × List Nat
  | 0, s, l => (s, l)
  | f + 1, s, l => if 0 < s.length ∧ s.getD (s.length - 1) 0 = l.getD (l.length - 1) 0 then rollGo f (s.take (s.length - 1)) (l.getD (l.length - 1) 0 :: l.take (l.length - 1)) else (s, l)
def leastL (s l : List Nat) : List Nat × List Nat := rollGo s.length s (perL l)

theorem turns_per {s l : List Nat} {n : Nat} (hn : 0 < n) (hd : l.length % n = 0) (h0 : 0 < l.length) : turnsB l n = true ↔ Per (lat s l) s.length n := by
  have hnl : n ≤ l.length := Nat.le_of_dvd h0 (Nat.dvd_of_mod_eq_zero hd)
  constructor
  · intro h i hi
    unfold turnsB at h
    rw [List.all_eq_true] at h
    have hget : ∀ j, j < l.length → n ≤ j → l.getD j 0 = l.getD (j - n) 0 := by
      intro j hj hnj
      have := h j (List.mem_range.2 hj)
      simp only [Bool.or_eq_true, decide_eq_true_eq, beq_iff_eq] at this
      rcases this with h1 | h1
      · omega
      · exact h1
    -- by steps of n: a letter is that at the place's rest by n
    have hrest : ∀ j, j < l.length → l.getD j 0 = l.getD (j % n) 0 := by
      intro j
      induction j using Nat.strongRecOn with
      | _ j ih =>
        intro hj
        by_cases hjn : j < n
        · rw [Nat.mod_eq_of_lt hjn]
        · rw [hget j hj (by omega), ih (j - n) (by omega) (by omega), ← Nat.mod_eq_sub_mod (by omega)]
    unfold lat
    rw [if_neg (by omega), if_neg (by omega)]
    have hm1 : (i + n - s.length) % l.length < l.length := Nat.mod_lt _ h0
    have hm2 : (i - s.length) % l.length < l.length := Nat.mod_lt _ h0
    rw [hrest _ hm1, hrest _ hm2]
    congr 1
    have hdv : n ∣ l.length := Nat.dvd_of_mod_eq_zero hd
    rw [Nat.mod_mod_of_dvd _ hdv, Nat.mod_mod_of_dvd _ hdv]
    rw [show i + n - s.length = (i - s.length) + n by omega, Nat.add_mod_right]
  · intro h
    unfold turnsB
    rw [List.all_eq_true]
    intro i hi
    rw [List.mem_range] at hi
    simp only [Bool.or_eq_true, decide_eq_true_eq, beq_iff_eq]
    by_cases hin : i < n
    · exact .inl hin
    · right
      have := h (s.length + (i - n)) (by omega)
      rw [show s.length + (i - n) + n = s.length + i by omega, lat_loopP hi, lat_loopP (by omega)] at this
      exact this
theorem perGo_spec {s l : List Nat} (h0 : 0 < l.length) : ∀ (f n : Nat), 0 < n → n + f = l.length + 1 → (∀ d, 0 < d → d < n → ¬ (l.length % d = 0 ∧ turnsB l d = true)) →
    0 < (perGo l f n).length ∧ (∀ i, lat s (perGo l f n) i = lat s l i) ∧ Least (lat s l) (perGo l f n).length ∧ (perGo l f n).length ≤ l.length
  | 0, n, hn, hf, hno => by
    exfalso
    refine hno l.length h0 (by omega) ⟨Nat.mod_self _, ?_⟩
    rw [turns_per (s := s) h0 (Nat.mod_self _) h0]
    exact lat_perP h0
  | f + 1, n, hn, hf, hno => by
    by_cases hc : l.length % n = 0 ∧ turnsB l n = true
    · have e : perGo l (f + 1) n = l.take n := by rw [perGo, if_pos hc]
      have hper := (turns_per (s := s) hn hc.1 h0).1 hc.2
      have hdv : n ∣ l.length := Nat.dvd_of_mod_eq_zero hc.1
      have hnl : n ≤ l.length := Nat.le_of_dvd h0 hdv
      have hlen : (l.take n).length = n := by rw [List.length_take]; omega
      rw [e, hlen]
      refine ⟨hn, fun i => ?_, fun d m hd hm => ?_, hnl⟩
      · by_cases his : i < s.length
        · unfold lat; rw [if_pos his, if_pos his]
        · have hrest : ∀ q j, lat s l (s.length + (q * n + j)) = lat s l (s.length + j) := by
            intro q j
            have := hper.mul q (s.length + j) (by omega)
            rw [← this]; congr 1; omega
          have hlt : (i - s.length) % n < n := Nat.mod_lt _ hn
          have h1 : lat s (l.take n) i = (l.take n).getD ((i - s.length) % n) 0 := by unfold lat; rw [if_neg his, hlen]
          have h2 := hrest ((i - s.length) / n) ((i - s.length) % n)
          have hdm : (i - s.length) / n * n + (i - s.length) % n = i - s.length := by rw [Nat.mul_comm]; exact Nat.div_add_mod _ _
          rw [hdm, show s.length + (i - s.length) = i by omega, lat_loopP (by omega)] at h2
          rw [h1, h2, List.getD_eq_getElem?_getD, List.getElem?_take_of_lt hlt, ← List.getD_eq_getElem?_getD]
      · have hd' : Per (lat s l) s.length d := (lat_perP h0).early h0 hm
        have hg := Per.gcd _ d n (Nat.le_refl _) hd' hper
        have hgpos : 0 < Nat.gcd d n := Nat.gcd_pos_of_pos_left _ hd
        have hgl : l.length % Nat.gcd d n = 0 := Nat.mod_eq_zero_of_dvd (Nat.dvd_trans (Nat.gcd_dvd_right d n) hdv)
        have hgn : Nat.gcd d n ≤ n := Nat.le_of_dvd hn (Nat.gcd_dvd_right d n)
        have hgd : Nat.gcd d n ≤ d := Nat.le_of_dvd hd (Nat.gcd_dvd_left d n)
        have := hno (Nat.gcd d n) hgpos
        by_cases hlt : Nat.gcd d n < n
        · exact absurd ⟨hgl, (turns_per (s := s) hgpos hgl h0).2 hg⟩ (this hlt)
        · omega
    · have e : perGo l (f + 1) n = perGo l f (n + 1) := by rw [perGo, if_neg hc]
      rw [e]
      refine perGo_spec h0 f (n + 1) (by omega) (by omega) (fun d hd hdn => ?_)
      by_cases hde : d = n
      · subst hde; exact hc
      · exact hno d hd (by omega)
theorem lat_roll {s l : List Nat} (hs : 0 < s.length) (hl : 0 < l.length) (he : s.getD (s.length - 1) 0 = l.getD (l.length - 1) 0) (i : Nat) : lat (s.take (s.length - 1)) (l.getD (l.length - 1) 0 :: l.take (l.length - 1)) i = lat s l i := by
  have hls : (s.take (s.length - 1)).length = s.length - 1 := by rw [List.length_take]; omega
  have hll : (l.getD (l.length - 1) 0 :: l.take (l.length - 1)).length = l.length := by rw [List.length_cons, List.length_take]; omega
  unfold lat
  rw [hls, hll]
  by_cases h1 : i < s.length - 1
  · rw [if_pos h1, if_pos (by omega), List.getD_eq_getElem?_getD, List.getElem?_take_of_lt h1, ← List.getD_eq_getElem?_getD]
  · rw [if_neg h1]
    have hget : ∀ j, j < l.length → (l.getD (l.length - 1) 0 :: l.take (l.length - 1)).getD j 0 = if j = 0 then l.getD (l.length - 1) 0 else l.getD (j - 1) 0 := by
      intro j hj
      cases j with
      | zero => rfl
      | succ j =>
        rw [if_neg (by omega), List.getD_eq_getElem?_getD, List.getElem?_cons_succ, List.getElem?_take_of_lt (by omega), ← List.getD_eq_getElem?_getD]
        rfl
    by_cases h2 : i < s.length
    · have : i = s.length - 1 := by omega
      subst this
      rw [if_pos h2, Nat.sub_self, Nat.zero_mod, hget 0 hl, if_pos rfl, he]
    · rw [if_neg h2, hget _ (Nat.mod_lt _ hl)]
      have e : i - (s.length - 1) = (i - s.length) + 1 := by omega
      rw [e]
      have hm := Nat.mod_lt (i - s.length) hl
      rw [Nat.add_mod]
      by_cases h3 : (i - s.length) % l.length = l.length - 1
      · rw [h3]
        by_cases h1l : l.length = 1
        · rw [h1l]; simp
        · have : (l.length - 1 + 1 % l.length) % l.length = 0 := by rw [Nat.mod_eq_of_lt (show 1 < l.length by omega), show l.length - 1 + 1 = l.length by omega, Nat.mod_self]
          rw [this, if_pos rfl]
      · have h1l : 1 < l.length := by omega
        rw [Nat.mod_eq_of_lt h1l, Nat.mod_eq_of_lt (by omega), if_neg (by omega)]
        rfl
theorem rollGo_spec {L : Nat → Nat} : ∀ (f : Nat) (s l : List Nat), s.length ≤ f → 0 < l.length → (∀ i, lat s l i = L i) → Least L l.length → LeastW L (rollGo f s l).1 (rollGo f s l).2
  | 0, s, l, hf, h0, hs, hl => ⟨h0, hs, hl, fun h => by have h : 0 < s.length := h; omega⟩
  | f + 1, s, l, hf, h0, hs, hl => by
    by_cases hc : 0 < s.length ∧ s.getD (s.length - 1) 0 = l.getD (l.length - 1) 0
    · rw [rollGo, if_pos hc]
      have hll : (l.getD (l.length - 1) 0 :: l.take (l.length - 1)).length = l.length := by rw [List.length_cons, List.length_take]; omega
      refine rollGo_spec f _ _ (by rw [List.length_take]; omega) (by rw [hll]; exact h0) (fun i => ?_) (by rw [hll]; exact hl)
      rw [lat_roll hc.1 h0 hc.2]; exact hs i
    · rw [rollGo, if_neg hc]
      refine ⟨h0, hs, hl, fun h e => hc ⟨h, ?_⟩⟩
      rw [List.getD_eq_getElem?_getD, List.getD_eq_getElem?_getD, e]
theorem leastL_spec {s l : List Nat} (h0 : 0 < l.length) : LeastW (lat s l) (leastL s l).1 (leastL s l).2 := by
  have h := perGo_spec (s := s) h0 l.length 1 (by omega) (by omega) (fun d hd hd1 => by omega)
  exact rollGo_spec s.length s (perL l) (Nat.le_refl _) h.1 h.2.1 h.2.2.1
/-- one word, however it is written, has one least way to write it -/
theorem leastL_eq {s l t m : List Nat} (h0 : 0 < l.length) (h1 : 0 < m.length) (h : ∀ i, lat s l i = lat t m i) : leastL s l = leastL t m := by
  have a := leastL_spec (s := s) h0
  have b := leastL_spec (s := t) h1
  have e : lat s l = lat t m := funext h
  rw [e] at a
  have := leastW_eq a b
  exact Prod.ext this.1 this.2
/-- some letters of the loop are put into the stem -/
theorem lat_unroll {s l : List Nat} (h0 : 0 < l.length) {n : Nat} (hn : n ≤ l.length) (i : Nat) : lat (s ++ l.take n) (l.drop n ++ l.take n) i = lat s l i := by
  have hlen : (l.drop n ++ l.take n).length = l.length := by rw [List.length_append, List.length_drop, List.length_take]; omega
  have hst : (s ++ l.take n).length = s.length + n := by rw [List.length_append, List.length_take]; omega
  unfold lat
  rw [hst, hlen]
  by_cases h1 : i < s.length
  · rw [if_pos h1, if_pos (by omega), List.getD_eq_getElem?_getD, List.getElem?_append_left h1, ← List.getD_eq_getElem?_getD]
  · rw [if_neg h1]
    by_cases h2 : i < s.length + n
    · rw [if_pos h2, List.getD_eq_getElem?_getD, List.getElem?_append_right (by omega), List.getElem?_take_of_lt (by omega), ← List.getD_eq_getElem?_getD, Nat.mod_eq_of_lt (by omega)]
    · rw [if_neg h2]
      have hm := Nat.mod_lt (i - (s.length + n)) h0
      have e : i - s.length = (i - (s.length + n)) + n := by omega
      rw [e]
      generalize i - (s.length + n) = j at *
      have hj : (j + n) % l.length = (j % l.length + n) % l.length := (Nat.mod_add_mod j l.length n).symm
      rw [hj]
      generalize j % l.length = r at *
      by_cases h3 : r < l.length - n
      · rw [List.getD_eq_getElem?_getD, List.getElem?_append_left (by rw [List.length_drop]; exact h3), List.getElem?_drop, ← List.getD_eq_getElem?_getD, Nat.mod_eq_of_lt (by omega), Nat.add_comm]
      · rw [List.getD_eq_getElem?_getD, List.getElem?_append_right (by rw [List.length_drop]; omega), List.length_drop, List.getElem?_take_of_lt (by omega), ← List.getD_eq_getElem?_getD]
        rw [Nat.mod_eq_sub_mod (by omega), Nat.mod_eq_of_lt (by omega)]
        congr 1; omega
end Go.Proofs.Ytbphcblopoegcaa
/-
  What comes from some nodes of a graph: plain lists, no program in sight.
-/
set_option linter.unusedVariables false
set_option linter.unusedSimpArgs false
namespace Go.Proofs.Ytbphcblopoegcaa

abbrev Graph := List (List Int)
inductive Rch (g : Graph) (from' : List Int) : Nat → Prop
  | base {x : Int} : x ∈ from' → Rch g from' x.toNat
  | step {n : Nat} {x : Int} : Rch g from' n → x ∈ g.getD n [] → Rch g from' x.toNat
open Classical in
noncomputable def rchB (g : Graph) (from' : List Int) : List Bool := (List.range g.length).map fun n => decide (Rch g from' n)
theorem rchB_len (g : Graph) (f : List Int) : (rchB g f).length = g.length := by simp [rchB]
theorem rchB_get {g : Graph} {f : List Int} {n : Nat} (h : n < g.length) : (rchB g f)[n]? = some (@decide (Rch g f n) (Classical.propDecidable _)) := by
  simp [rchB, h]
theorem rchB_iff {g : Graph} {f : List Int} {n : Nat} (h : n < (rchB g f).length) : (rchB g f)[n] = true ↔ Rch g f n := by
  have h' : n < g.length := by rwa [rchB_len] at h
  simp [rchB]

/-- all its numbers are nodes -/
def okL (n : Nat) (l : List Int) : Prop := ∀ x ∈ l, 0 ≤ x ∧ x < n
def okG (g : Graph) : Prop := ∀ l ∈ g, okL g.length l
theorem okG_row {g : Graph} (h : okG g) (n : Nat) : okL g.length (g.getD n []) := by
  intro x hx
  by_cases hn : n < g.length
  · rw [List.getD_eq_getElem?_getD, List.getElem?_eq_getElem hn] at hx
    exact h _ (List.getElem_mem hn) x hx
  · rw [List.getD_eq_getElem?_getD, List.getElem?_eq_none (by omega)] at hx
    simp at hx

/-- what is still to be looked at -/
def pot : Graph → List Bool → Nat
  | l :: g, s :: r => (match s with | true => 0 | false => l.length + 1) + pot g r
  | _, _ => 0
theorem pot_set : ∀ (g : Graph) (seen : List Bool) (n : Nat), n < g.length → seen.length = g.length → seen.getD n true = false → pot g (seen.set n true) + (g.getD n []).length + 1 = pot g seen
  | [], _, n, h, _, _ => absurd h (by simp)
  | l :: g, [], n, _, h, _ => absurd h (by simp)
  | l :: g, s :: r, 0, _, _, h => by
    simp at h; subst h; simp [pot]; omega
  | l :: g, s :: r, n + 1, h1, h2, h3 => by
    have := pot_set g r n (by simpa using h1) (by simpa using h2) (by simpa using h3)
    simp only [List.set_cons_succ, pot, List.getD_cons_succ]
    omega
def edges (g : Graph) : Nat := (g.map List.length).sum
theorem pot_start : ∀ g : Graph, pot g (List.replicate g.length false) = edges g + g.length
  | [] => rfl
  | l :: g => by
    simp only [List.length_cons, List.replicate_succ, pot, pot_start g, edges, List.map_cons, List.sum_cons]
    omega

structure RInv (g : Graph) (f : List Int) (seen : List Bool) (todo : List Int) : Prop where
  len : seen.length = g.length
  ok : okL g.length todo
  sound : ∀ n, seen.getD n false = true → Rch g f n
  tsound : ∀ x ∈ todo, Rch g f x.toNat
  base : ∀ x ∈ f, seen.getD x.toNat false = true ∨ x ∈ todo
  clo : ∀ n, seen.getD n false = true → ∀ x ∈ g.getD n [], seen.getD x.toNat false = true ∨ x ∈ todo

theorem getD_set {l : List Bool} {n k : Nat} {b : Bool} (h : n < l.length) : (l.set n b).getD k false = if n = k then b else l.getD k false := by
  simp only [List.getD_eq_getElem?_getD, List.getElem?_set]
  split
  · subst_vars; simp [h]
  · rfl
theorem getD_rep {n k : Nat} : (List.replicate n false).getD k false = false := by
  simp only [List.getD_eq_getElem?_getD, List.getElem?_replicate]
  split <;> rfl
theorem RInv.start {g : Graph} {f : List Int} (hf : okL g.length f) : RInv g f (List.replicate g.length false) f where
  len := by simp
  ok := hf
  sound := fun n h => by rw [getD_rep] at h; cases h
  tsound := fun x hx => .base hx
  base := fun x hx => .inr hx
  clo := fun n h => by rw [getD_rep] at h; cases h
theorem RInv.pass {g : Graph} {f : List Int} {seen : List Bool} {todo : List Int} {x : Int} (h : RInv g f seen (todo ++ [x])) (hs : seen.getD x.toNat false = true) : RInv g f seen todo where
  len := h.len
  ok := fun y hy => h.ok y (by simp [hy])
  sound := h.sound
  tsound := fun y hy => h.tsound y (by simp [hy])
  base := fun y hy => by
    rcases h.base y hy with h1 | h1
    · exact .inl h1
    · rcases List.mem_append.1 h1 with h2 | h2
      · exact .inr h2
      · simp at h2; subst h2; exact .inl hs
  clo := fun n hn y hy => by
    rcases h.clo n hn y hy with h1 | h1
    · exact .inl h1
    · rcases List.mem_append.1 h1 with h2 | h2
      · exact .inr h2
      · simp at h2; subst h2; exact .inl hs
theorem RInv.mark {g : Graph} {f : List Int} {seen : List Bool} {todo : List Int} {x : Int} (hg : okG g) (h : RInv g f seen (todo ++ [x])) : RInv g f (seen.set x.toNat true) (todo ++ g.getD x.toNat []) := by
  have hx := h.ok x (by simp)
  have hlt : x.toNat < seen.length := by rw [h.len]; omega
  have key : ∀ y, seen.getD y.toNat false = true ∨ y ∈ todo ++ [x] → (seen.set x.toNat true).getD y.toNat false = true ∨ y ∈ todo ++ g.getD x.toNat [] := by
    intro y hy
    rw [getD_set hlt]
    rcases hy with h1 | h1
    · left; split
      · rfl
      · exact h1
    · rcases List.mem_append.1 h1 with h2 | h2
      · exact .inr (by simp [h2])
      · simp at h2; subst h2; left; simp
  refine ⟨by simpa using h.len, ?_, ?_, ?_, ?_, ?_⟩
  · intro y hy
    rcases List.mem_append.1 hy with h1 | h1
    · exact h.ok y (by simp [h1])
    · exact okG_row hg _ y h1
  · intro n hn
    rw [getD_set hlt] at hn
    split at hn
    · rename_i e; subst e; exact h.tsound x (by simp)
    · exact h.sound n hn
  · intro y hy
    rcases List.mem_append.1 hy with h1 | h1
    · exact h.tsound y (by simp [h1])
    · exact .step (h.tsound x (by simp)) h1
  · intro y hy; exact key y (h.base y hy)
  · intro n hn y hy
    rw [getD_set hlt] at hn
    split at hn
    · rename_i e; subst e; exact .inr (List.mem_append.2 (.inr hy))
    · exact key y (h.clo n hn y hy)
theorem RInv.done {g : Graph} {f : List Int} {seen : List Bool} (h : RInv g f seen []) : seen = rchB g f := by
  have all : ∀ n, Rch g f n → seen.getD n false = true := by
    intro n hn
    induction hn with
    | base hx => exact (h.base _ hx).resolve_right (by simp)
    | step _ hx ih => exact (h.clo _ ih _ hx).resolve_right (by simp)
  apply List.ext_getElem (by rw [h.len, rchB_len])
  intro n h1 h2
  have e1 : seen.getD n false = seen[n] := by simp [List.getD_eq_getElem?_getD, h1]
  rw [Bool.eq_iff_iff, rchB_iff h2, ← e1]
  exact ⟨h.sound n, all n⟩

/-- the search itself, to be run on small graphs -/
def dfs (g : Graph) : Nat → List Bool → List Int → List Bool
  | 0, seen, _ => seen
  | k + 1, seen, todo => match todo.reverse with
    | [] => seen
    | x :: r => match seen.getD x.toNat false with
      | true => dfs g k seen r.reverse
      | false => dfs g k (seen.set x.toNat true) (r.reverse ++ g.getD x.toNat [])
theorem dfs_eq {g : Graph} {f : List Int} (hg : okG g) : ∀ (k : Nat) (seen : List Bool) (todo : List Int), RInv g f seen todo → todo.length + pot g seen ≤ k → dfs g k seen todo = rchB g f := by
  intro k
  induction k with
  | zero =>
    intro seen todo h hk
    have : todo = [] := List.eq_nil_of_length_eq_zero (by omega)
    subst this
    exact h.done
  | succ k ih =>
    intro seen todo h hk
    unfold dfs
    split
    · rename_i he
      have : todo = [] := by simpa using he
      subst this
      exact h.done
    · rename_i x r he
      have ht : todo = r.reverse ++ [x] := by
        have := congrArg List.reverse he
        simpa using this
      subst ht
      have hx := h.ok x (by simp)
      split
      · rename_i hs
        exact ih _ _ (h.pass hs) (by simp at hk ⊢; omega)
      · rename_i hs
        have hxl : x.toNat < seen.length := by rw [h.len]; omega
        have hp := pot_set g seen x.toNat (by omega) h.len (by
          simp only [List.getD_eq_getElem?_getD, List.getElem?_eq_getElem hxl, Option.getD_some] at hs ⊢; exact hs)
        exact ih _ _ (RInv.mark hg h) (by simp only [List.length_append, List.length_cons, List.length_nil] at hk ⊢; omega)
theorem rchB_run {g : Graph} {f : List Int} (hg : okG g) (hf : okL g.length f) (k : Nat) (hk : f.length + edges g + g.length ≤ k) : rchB g f = dfs g k (List.replicate g.length false) f :=
  (dfs_eq hg k _ _ (RInv.start hf) (by rw [pot_start]; omega)).symm

/- WHAT THE LAW SAYS -/
theorem Rch.mono {g : Graph} {a b : List Int} (h : ∀ x ∈ a, x ∈ b) {n : Nat} (hn : Rch g a n) : Rch g b n := by
  induction hn with
  | base hx => exact .base (h _ hx)
  | step _ hx ih => exact .step ih hx
theorem Rch.app {g : Graph} {a b : List Int} {n : Nat} : Rch g (a ++ b) n ↔ Rch g a n ∨ Rch g b n := by
  constructor
  · intro h
    induction h with
    | base hx =>
      rcases List.mem_append.1 hx with h | h
      · exact .inl (.base h)
      · exact .inr (.base h)
    | step _ hx ih => exact ih.imp (fun h => .step h hx) (fun h => .step h hx)
  · rintro (h | h)
    · exact h.mono fun x hx => by simp [hx]
    · exact h.mono fun x hx => by simp [hx]

/- CHECKS -/
def oddB (n : Nat) (l : List Int) : Bool := l.any fun x => decide (x < 0 ∨ x ≥ n)
theorem oddB_false {n : Nat} {l : List Int} : oddB n l = false ↔ okL n l := by
  unfold oddB okL
  rw [List.any_eq_false]
  constructor
  · intro h x hx; have := h x hx; simp at this; omega
  · intro h x hx; have := h x hx; simp; omega
def chkG (g : Graph) : Int := match decide (g.length > 20000), g.any (oddB g.length) with
  | true, _ => 2
  | false, true => 1
  | false, false => 0
theorem chkG_ok {g : Graph} (h : chkG g = 0) : okG g ∧ g.length ≤ 20000 := by
  unfold chkG at h
  split at h
  · cases h
  · cases h
  · rename_i h1 h2
    simp at h1
    refine ⟨fun l hl => oddB_false.1 ?_, h1⟩
    rw [List.any_eq_false] at h2
    simpa using h2 l hl
end Go.Proofs.Ytbphcblopoegcaa
/-
  Package world: what Check, Good and Word compute; a path written otherwise. Plain part.
-/
set_option linter.unusedVariables false
set_option linter.unusedSimpArgs false
namespace Go.Proofs.Ytbphcblopoegcaa
open Go.RowKit

def chkN (n : Nat) (l : List Int) : Bool := decide (l.length = 0) || oddB n l
def chkWd (st : List Int) (nx : List (List Int)) (k : Nat) (fr : List (List Int)) : Int :=
  if nx.length > 600 ∨ fr.length > 80 then 2 else if k ≠ nx.length ∨ oddB nx.length st = true then 1 else if nx.any (chkN nx.length) = true then 1 else if fr.any (oddB nx.length) = true then 1 else 0
theorem chkWd_ok {st : List Int} {nx : List (List Int)} {k : Nat} {fr : List (List Int)} (h : chkWd st nx k fr = 0) : nx.length ≤ 600 ∧ fr.length ≤ 80 ∧ k = nx.length ∧ okL nx.length st ∧ (∀ l ∈ nx, 0 < l.length ∧ okL nx.length l) ∧ ∀ l ∈ fr, okL nx.length l := by
  unfold chkWd at h
  split at h
  · cases h
  split at h
  · cases h
  split at h
  · cases h
  split at h
  · cases h
  rename_i h1 h2 h3 h4
  refine ⟨by omega, by omega, ?_, ?_, ?_, ?_⟩
  · by_cases e : k = nx.length
    · exact e
    · exact absurd (.inl e) h2
  · rw [← oddB_false]
    cases e : oddB nx.length st
    · rfl
    · exact absurd (.inr e) h2
  · intro l hl
    have h3 : nx.any (chkN nx.length) = false := by simpa using h3
    rw [List.any_eq_false] at h3
    have := h3 l hl
    simp only [chkN, Bool.or_eq_true, decide_eq_true_eq, not_or, Bool.not_eq_true] at this
    exact ⟨by omega, oddB_false.1 this.2⟩
  · intro l hl
    have h4 : fr.any (oddB nx.length) = false := by simpa using h4
    rw [List.any_eq_false] at h4
    exact oddB_false.1 (by simpa using h4 l hl)

def toP (al l : List Int) (i : Nat) : Int := if i + 1 < al.length then al.getD (i + 1) 0 else l.getD 0 0
def stepB (nx : List (List Int)) (al l : List Int) (i : Nat) : Bool := (nx.getD (al.getD i 0).toNat []).contains (toP al l i)
def goodB (st : List Int) (nx fr : List (List Int)) (al l : List Int) : Bool :=
  st.contains (al.getD 0 0) && (List.range al.length).all (stepB nx al l) && fr.all (fun f => f.any (fun x => l.contains x))
def goodF (st : List Int) (nx : List (List Int)) (k : Nat) (fr : List (List Int)) (s l : List Int) : Bool × Int :=
  if chkWd st nx k fr ≠ 0 then (false, chkWd st nx k fr) else if s.length > 60000 ∨ l.length > 60000 - s.length then (false, 2)
  else if l.length = 0 ∨ oddB nx.length s = true ∨ oddB nx.length l = true then (false, 0) else (goodB st nx fr (s ++ l) l, 0)

/- paths as words -/
theorem int_nat {n : Nat} {l : List Int} (h : okL n l) : (l.map Int.toNat).map Int.ofNat = l := by
  rw [List.map_map]
  conv => rhs; rw [← List.map_id l]
  refine List.map_congr_left fun x hx => ?_
  have := h x hx
  show Int.ofNat x.toNat = x
  have h2 : (x.toNat : Int) = x := Int.toNat_of_nonneg (by omega)
  exact h2
theorem getD_nat {l : List Nat} {i : Nat} (h : i < l.length) : (l.map Int.ofNat).getD i 0 = ((l.getD i 0 : Nat) : Int) := by
  rw [List.getD_eq_getElem?_getD, List.getElem?_map, List.getElem?_eq_getElem h, List.getD_eq_getElem?_getD, List.getElem?_eq_getElem h]; rfl
theorem all_lat {s l : List Nat} {i : Nat} (h : i < (s ++ l).length) : (((s ++ l).map Int.ofNat).getD i 0) = (lat s l i : Int) := by
  rw [getD_nat h]
  unfold lat
  rw [List.length_append] at h
  by_cases h1 : i < s.length
  · rw [if_pos h1, List.getD_eq_getElem?_getD, List.getElem?_append_left h1, ← List.getD_eq_getElem?_getD]
  · rw [if_neg h1, List.getD_eq_getElem?_getD, List.getElem?_append_right (by omega), ← List.getD_eq_getElem?_getD, Nat.mod_eq_of_lt (by omega)]
def edgeB (nx : List (List Int)) (s l : List Nat) (i : Nat) : Bool := (nx.getD (lat s l i) []).contains ((lat s l (i + 1) : Nat) : Int)
theorem stepB_lat {nx : List (List Int)} {s l : List Nat} (h0 : 0 < l.length) {i : Nat} (h : i < (s ++ l).length) : stepB nx ((s ++ l).map Int.ofNat) (l.map Int.ofNat) i = edgeB nx s l i := by
  unfold stepB edgeB
  have e2 : toP ((s ++ l).map Int.ofNat) (l.map Int.ofNat) i = ((lat s l (i + 1) : Nat) : Int) := by
    unfold toP
    rw [List.length_map]
    by_cases h1 : i + 1 < (s ++ l).length
    · rw [if_pos h1, all_lat h1]
    · rw [if_neg h1, getD_nat h0]
      have e : i + 1 = s.length + l.length := by rw [List.length_append] at h h1; omega
      rw [e]
      unfold lat
      rw [if_neg (by omega), Nat.add_sub_cancel_left, Nat.mod_self]
  rw [e2, all_lat h]
  rfl
theorem edges_all {nx : List (List Int)} {s l : List Nat} (h0 : 0 < l.length) : (List.range ((s ++ l).map Int.ofNat).length).all (stepB nx ((s ++ l).map Int.ofNat) (l.map Int.ofNat)) = true ↔ ∀ i, edgeB nx s l i = true := by
  rw [List.all_eq_true, List.length_map]
  constructor
  · intro h i
    have hlt := Nat.mod_lt (i - s.length) h0
    have key : ∀ j, j < (s ++ l).length → edgeB nx s l j = true := fun j hj => by rw [← stepB_lat h0 hj]; exact h j (List.mem_range.2 hj)
    rw [List.length_append] at key
    by_cases h1 : i < s.length
    · exact key i (by omega)
    · have hj := key (s.length + (i - s.length) % l.length) (by omega)
      have one : ∀ k, s.length ≤ k → lat s l k = l.getD ((k - s.length) % l.length) 0 := fun k hk => by unfold lat; rw [if_neg (by omega)]
      unfold edgeB at hj ⊢
      rw [one _ (by omega), one _ (by omega)] at hj ⊢
      have e1 : (s.length + (i - s.length) % l.length - s.length) % l.length = (i - s.length) % l.length := by rw [Nat.add_sub_cancel_left, Nat.mod_mod]
      have e2 : (s.length + (i - s.length) % l.length + 1 - s.length) % l.length = (i + 1 - s.length) % l.length := by
        have : s.length + (i - s.length) % l.length + 1 - s.length = (i - s.length) % l.length + 1 := by omega
        rw [this]
        have : i + 1 - s.length = (i - s.length) + 1 := by omega
        rw [this, Nat.mod_add_mod]
      rw [e1, e2] at hj
      exact hj
  · intro h i hi
    rw [stepB_lat h0 (List.mem_range.1 hi)]
    exact h i
theorem toNat_app (s l : List Int) : (s ++ l).map Int.toNat = s.map Int.toNat ++ l.map Int.toNat := List.map_append
/-- a path unrolled goes the same way -/
theorem good_unroll {st : List Int} {nx fr : List (List Int)} {s l : List Int} (hs : okL nx.length s) (hl : okL nx.length l) (h0 : 0 < l.length) {n : Nat} (hn : n ≤ l.length) :
    goodB st nx fr ((s ++ l.take n) ++ (l.drop n ++ l.take n)) (l.drop n ++ l.take n) = goodB st nx fr (s ++ l) l := by
  have es := int_nat hs
  have el := int_nat hl
  generalize s.map Int.toNat = a at es
  generalize l.map Int.toNat = b at el
  subst es el
  rw [List.length_map] at h0 hn
  have h0' : 0 < (b.drop n ++ b.take n).length := by rw [List.length_append, List.length_drop, List.length_take]; omega
  rw [← List.map_take, ← List.map_drop, ← List.map_append, ← List.map_append, ← List.map_append, ← List.map_append]
  have e1 : (((a ++ b.take n) ++ (b.drop n ++ b.take n)).map Int.ofNat).getD 0 0 = ((a ++ b).map Int.ofNat).getD 0 0 := by
    rw [all_lat (by rw [List.length_append]; omega), all_lat (by rw [List.length_append]; omega), lat_unroll h0 hn]
  have e2 : (List.range (((a ++ b.take n) ++ (b.drop n ++ b.take n)).map Int.ofNat).length).all (stepB nx (((a ++ b.take n) ++ (b.drop n ++ b.take n)).map Int.ofNat) ((b.drop n ++ b.take n).map Int.ofNat))
      = (List.range ((a ++ b).map Int.ofNat).length).all (stepB nx ((a ++ b).map Int.ofNat) (b.map Int.ofNat)) := by
    rw [Bool.eq_iff_iff, edges_all h0', edges_all h0]
    have e : ∀ i, edgeB nx (a ++ b.take n) (b.drop n ++ b.take n) i = edgeB nx a b i := fun i => by unfold edgeB; rw [lat_unroll h0 hn, lat_unroll h0 hn]
    constructor
    · intro h i; rw [← e]; exact h i
    · intro h i; rw [e]; exact h i
  have e3 : ∀ x, ((b.drop n ++ b.take n).map Int.ofNat).contains x = (b.map Int.ofNat).contains x := fun x => by
    conv => rhs; rw [← List.take_append_drop n b]
    rw [Bool.eq_iff_iff, List.contains_iff_mem, List.contains_iff_mem, List.map_append, List.map_append, List.mem_append, List.mem_append]
    exact Or.comm
  unfold goodB
  rw [e1, e2]
  simp only [e3]
theorem okL_unroll {n k : Nat} {s l : List Int} (hs : okL k s) (hl : okL k l) : okL k (s ++ l.take n) ∧ okL k (l.drop n ++ l.take n) := by
  have ht : okL k (l.take n) := fun x hx => hl x (List.mem_of_mem_take hx)
  have hd : okL k (l.drop n) := fun x hx => hl x (List.mem_of_mem_drop hx)
  constructor
  · intro x hx
    rcases List.mem_append.1 hx with h | h
    · exact hs x h
    · exact ht x h
  · intro x hx
    rcases List.mem_append.1 hx with h | h
    · exact hd x h
    · exact ht x h
theorem goodF_unroll {st : List Int} {nx : List (List Int)} {k : Nat} {fr : List (List Int)} {s l : List Int} (h0 : 0 < l.length) (h60 : s.length + l.length ≤ 60) {n : Nat} (hn : n ≤ l.length) :
    goodF st nx k fr (s ++ l.take n) (l.drop n ++ l.take n) = goodF st nx k fr s l := by
  have e1 : (s ++ l.take n).length = s.length + n := by rw [List.length_append, List.length_take]; omega
  have e2 : (l.drop n ++ l.take n).length = l.length := by rw [List.length_append, List.length_drop, List.length_take]; omega
  unfold goodF
  by_cases hc : chkWd st nx k fr ≠ 0
  · rw [if_pos hc, if_pos hc]
  rw [if_neg hc, if_neg hc, e1, e2, if_neg (show ¬ (s.length + n > 60000 ∨ l.length > 60000 - (s.length + n)) by omega), if_neg (show ¬ (s.length > 60000 ∨ l.length > 60000 - s.length) by omega)]
  have eo : ∀ m : Nat, (oddB m (s ++ l.take n) = true ∨ oddB m (l.drop n ++ l.take n) = true) ↔ (oddB m s = true ∨ oddB m l = true) := by
    intro m
    have h1 : (oddB m s = false ∧ oddB m l = false) → (oddB m (s ++ l.take n) = false ∧ oddB m (l.drop n ++ l.take n) = false) := by
      rw [oddB_false, oddB_false, oddB_false, oddB_false]
      rintro ⟨a, b⟩; exact okL_unroll a b
    have h2 : (oddB m (s ++ l.take n) = false ∧ oddB m (l.drop n ++ l.take n) = false) → (oddB m s = false ∧ oddB m l = false) := by
      rw [oddB_false, oddB_false, oddB_false, oddB_false]
      rintro ⟨a, b⟩
      refine ⟨fun x hx => a x (List.mem_append_left _ hx), fun x hx => b x ?_⟩
      rw [← List.take_append_drop n l] at hx
      rcases List.mem_append.1 hx with h | h
      · exact List.mem_append_right _ h
      · exact List.mem_append_left _ h
    revert h1 h2
    cases oddB m s <;> cases oddB m l <;> cases oddB m (s ++ l.take n) <;> cases oddB m (l.drop n ++ l.take n) <;> simp
  by_cases h : l.length = 0 ∨ oddB nx.length s = true ∨ oddB nx.length l = true
  · rw [if_pos h, if_pos (h.imp id (eo _).2)]
  · rw [if_neg h, if_neg (fun h' => h (h'.imp id (eo _).1))]
    have hs : okL nx.length s := oddB_false.1 (by cases e : oddB nx.length s; rfl; exact absurd (.inr (.inl e)) h)
    have hl : okL nx.length l := oddB_false.1 (by cases e : oddB nx.length l; rfl; exact absurd (.inr (.inr e)) h)
    rw [good_unroll hs hl h0 hn]

/- words of paths -/
def labL (lb : List Nat) (l : List Int) : List Nat := l.map fun x => lb.getD x.toNat 0
def wordF (st : List Int) (nx : List (List Int)) (lb : List Nat) (fr : List (List Int)) (s l : List Int) : (List Nat × List Nat) × Int :=
  if chkWd st nx lb.length fr ≠ 0 then (([], []), chkWd st nx lb.length fr) else if l.length = 0 ∨ oddB nx.length s = true ∨ oddB nx.length l = true then (([], []), 1)
  else if chkW (labL lb s) (labL lb l) ≠ 0 then (([], []), chkW (labL lb s) (labL lb l)) else ((labL lb s, labL lb l), 0)
theorem wordF_ok {st : List Int} {nx : List (List Int)} {lb : List Nat} {fr : List (List Int)} {s l : List Int} (h : (wordF st nx lb fr s l).2 = 0) :
    (wordF st nx lb fr s l).1 = (labL lb s, labL lb l) ∧ chkW (labL lb s) (labL lb l) = 0 := by
  unfold wordF at h ⊢
  split at h
  · exact absurd h (by assumption)
  split at h
  · cases h
  split at h
  · exact absurd h (by assumption)
  rename_i h1 h2 h3
  rw [if_neg h1, if_neg h2, if_neg h3]
  exact ⟨rfl, by simpa using h3⟩
theorem labL_unroll {lb : List Nat} {s l : List Int} (n : Nat) : labL lb (s ++ l.take n) = labL lb s ++ (labL lb l).take n ∧ labL lb (l.drop n ++ l.take n) = (labL lb l).drop n ++ (labL lb l).take n := by
  unfold labL
  rw [List.map_append, List.map_append, List.map_take, List.map_drop]
  exact ⟨rfl, rfl⟩
end Go.Proofs.Ytbphcblopoegcaa
/-
  Results that lie in a variable; slices that are read, later on; slices cut with their capacity. Over any program.
-/
set_option linter.unusedVariables false
set_option linter.unusedSimpArgs false
namespace Go.Proofs.Ytbphcblopoegcaa
open Go.RowKit

theorem results_cell {fn : Func} {a : Nat} {t : TypeId} (h : fn.results = #[.cell a t]) (tmps : Array Value) (P : Program) (w : World) {p : Addr} {v : Value} (ha : tmps.getD a undef = .pointer (some p)) (hl : (loadVar t p).run P w = .ok v w) :
    (results fn tmps).run P w = .ok v w := by
  simp only [Array.getD_eq_getD_getElem?] at ha
  simp [results, h, ha, asAddr, hl]
theorem EX.retC {P : Program} {n : Nat} {σ : Sg} {w : World} {fn : Func} {a b : Nat} {t e : TypeId} {cells : List Value} {k : Nat} {R : Value → World → Prop} (hr : fn.results = #[.cell a t]) (ha : fnd σ a = some (.pointer (some ⟨b, 0, none⟩))) [hc : IsC P t k true] (hb : Blk w b e cells) (hk : lenL cells = k) (h : R (.agg cells.toArray) w) :
    EX (bodyPost P fn fun e w' => ∃ v, e = .returned v ∧ R v w') .ret n σ w := by
  unfold EX; intro ac hac
  refine bodyPost_ret (results_cell hr _ _ _ (hac.slot a _ ha) (v := .agg cells.toArray) ?_) hac.defers ⟨_, rfl, h⟩
  rw [lenL_eq] at hk
  have hld := run_loadCells_list (P := P) w ⟨b, 0, none⟩ cells (fun j u hu => by rw [WideShapes.add_plain, Nat.zero_add]; exact hb.cell hu)
  obtain ⟨i, dd, h1, h2, h3, h4⟩ := hc.ok
  have hagg : (isAgg t).run P w = .ok true w := by
    unfold isAgg
    rw [Sem.run_bind, run_underlying h3 w, ← h4]
    cases dd <;> rfl
  rw [hk] at hld
  simp [loadVar, hagg, sizeOf, typeInfo, h1, h2, hld]
theorem results_cell2 {fn : Func} {a u : Nat} {t : TypeId} (h : fn.results = #[.cell a t, .tmp u]) (tmps : Array Value) (P : Program) (w : World) {p : Addr} {v : Value} (ha : tmps.getD a undef = .pointer (some p)) (hl : (loadVar t p).run P w = .ok v w) :
    (results fn tmps).run P w = .ok (.tuple ⟨[v, tmps.getD u undef]⟩) w := by
  simp only [Array.getD_eq_getD_getElem?] at ha ⊢
  simp [results, h, ha, asAddr, hl]
theorem EX.retC2 {P : Program} {n : Nat} {σ : Sg} {w : World} {fn : Func} {a b u : Nat} {t e : TypeId} {cells : List Value} {k : Nat} {x : Value} {R : Value → World → Prop} (hr : fn.results = #[.cell a t, .tmp u]) (ha : fnd σ a = some (.pointer (some ⟨b, 0, none⟩))) (hu : fnd σ u = some x) [hc : IsC P t k true] (hb : Blk w b e cells) (hk : lenL cells = k) (h : R (.tuple ⟨[.agg cells.toArray, x]⟩) w) :
    EX (bodyPost P fn fun e w' => ∃ v, e = .returned v ∧ R v w') .ret n σ w := by
  unfold EX; intro ac hac
  refine bodyPost_ret (results_cell2 hr _ _ _ (hac.slot a _ ha) (v := .agg cells.toArray) ?_) hac.defers ⟨_, by rw [hac.slot u x hu], h⟩
  rw [lenL_eq] at hk
  have hld := run_loadCells_list (P := P) w ⟨b, 0, none⟩ cells (fun j u hu => by rw [WideShapes.add_plain, Nat.zero_add]; exact hb.cell hu)
  obtain ⟨i, dd, h1, h2, h3, h4⟩ := hc.ok
  have hagg : (isAgg t).run P w = .ok true w := by
    unfold isAgg
    rw [Sem.run_bind, run_underlying h3 w, ← h4]
    cases dd <;> rfl
  rw [hk] at hld
  simp [loadVar, hagg, sizeOf, typeInfo, h1, h2, hld]
theorem Sl.zero {α : Type} [Rep α] (w : World) (F : Nat → Prop) : Sl w F none 0 ([] : List α) := ⟨by simp, by simp [maxLen], fun _ => rfl, fun i hi => absurd hi (by simp)⟩
theorem Sl.up0 {α : Type} [Rep α] {w w' : World} {F : Nat → Prop} {ao : Option Addr} {cap : Nat} {xs : List α} (h : Sl w F ao cap xs) (hE : Ext w w') (hF : ∀ b, F b → b < w.heap.size) : Sl w' F ao cap xs := h.mono (fun b hb => hE.block b (hF b hb)) fun _ h => h
section
variable {P : Program} {Q : Exit → Act → World → Prop} {n : Nat} {σ : Sg} {w : World} {L rest : List Oper} {d : Nat} {ty : TypeId} {pos : String} {af : Array Edge} {g : Option (Nat × Bool)} {t e : TypeId} {α : Type} [Rep α] {F : Nat → Prop}
theorem run_cut3 {ao : Option Addr} {len cap k : Nat} {k1 k2 : IntKind} (w : World) [hs : IsS P t e] [ht : IsT P e α] (h : k ≤ cap) :
    (Instr.sliceAt t (.slice ao len cap) none (some (.int k1 (k : Int))) (some (.int k2 (k : Int)))).run P w = .ok (.slice ao k k) w := by
  have a2 : (k : Int) ≤ (cap : Int) := by omega
  have a3 : (0 : Int) ≤ (k : Int) := by omega
  simp only [Instr.sliceAt, Sem.run_bind, run_underlying hs.ok, Result.andThen_ok, Instr.slice, Instr.sliceBounds]
  simp [run_sizeOf (α := α), Instr.sliceBound, asIntOf, h, Addr.add_zero']
/-- x[:k:k] -/
theorem WL.cut3O {x y z : Operand} {v : Value} {xs : List α} {B : Nat} {k1 k2 : IntKind} {k : Nat} (hg : gd L σ ⟨some d, .slice t x none (some y) (some z), ty, pos, af, g⟩ = some true) (hd : Nat.ble (d + 1) n = true)
    (hx : ev σ x = some v) (hy : ev σ y = some (.int k1 (k : Int))) (hz : ev σ z = some (.int k2 (k : Int))) [hs : IsS P t e] [ht : IsT P e α] (hown : Own w B e F v xs) (hk : k ≤ xs.length)
    (h : ∀ v', Own w B e F v' (xs.take k) → v'.ownBlock = v.ownBlock → WL P L Q rest n ((d, v') :: σ) w) : WL P L Q (⟨some d, .slice t x none (some y) (some z), ty, pos, af, g⟩ :: rest) n σ w := by
  obtain ⟨ao, cap, rfl⟩ := hown.val
  have hle := hown.le rfl
  refine WL.run (v := .slice ao k k) hg hd (fun a ha => ?_) (h _ ?_ (by cases ao <;> rfl))
  · have := run_cut3 (P := P) (t := t) (e := e) (α := α) (ao := ao) (len := xs.length) (cap := cap) (k := k) (k1 := k1) (k2 := k2) w (by omega)
    simp [execOp, ha.ev hx, ha.ev hy, ha.ev hz, this]
  · rcases hown with ⟨h1, rfl⟩ | ⟨g', off, cp, cur, h1, ho⟩
    · obtain ⟨rfl, _, rfl⟩ := Value.slice.inj h1
      have : k = 0 := by simpa using hk
      subst this
      exact .inl ⟨rfl, by simp⟩
    · obtain ⟨rfl, _, rfl⟩ := Value.slice.inj h1
      have hlen : (xs.take k).length = k := by rw [List.length_take]; omega
      have hmul : k * sz α ≤ cap * sz α := Nat.mul_le_mul_right _ (by omega)
      refine .inr ⟨g', off, k, cur, by rw [hlen], ⟨ho.blk, ho.ge, ho.nF, by omega, by have := ho.mx; omega, by have := ho.fit; omega, ?_⟩⟩
      have := ho.el.take k hk
      rw [List.take_take, Nat.min_eq_left (Nat.mul_le_mul_right _ hk)] at this
      rw [hlen]; exact this
end
end Go.Proofs.Ytbphcblopoegcaa
