/-
  The types and functions of the program, as our walks ask for them.
-/
import Derived.Test.YthefpigolikmeaaPr
import Derived.Test.YthefpigolikmeaaHeld2
import Derived.Test.YthefpigolikmeaaProg
set_option linter.unusedVariables false
namespace Go.Proofs.Ythefpigolikmeaa

theorem mixed : Try.prog.follows .mixedOrders = true := by kernel_rfl
instance : IsT Try.prog 3 Int := IsT.of (by kernel_rfl) Try.underlying3 rfl
instance : IsZ Try.prog 3 (0 : Int) 8 := IsZ.of (z := .int .i64 0) (by kernel_rfl) (fun _ _ => rfl)
instance : IsC Try.prog 3 1 false := IsC.of (by kernel_rfl) Try.underlying3 rfl
instance : IsZC Try.prog 3 [.int .i64 0] := IsZC.of (z := .int .i64 0) (by kernel_rfl) rfl
instance : IsT Try.prog 4 Bool := IsT.of (by kernel_rfl) Try.underlying4 rfl
instance : IsZ Try.prog 4 false 1 := IsZ.of (z := .bool false) (by kernel_rfl) (fun _ _ => rfl)
instance : IsC Try.prog 4 1 false := IsC.of (by kernel_rfl) Try.underlying4 rfl
instance : IsZC Try.prog 4 [.bool false] := IsZC.of (z := .bool false) (by kernel_rfl) rfl
instance : IsT Try.prog 33 Nat := IsT.of (by kernel_rfl) Try.underlying33 rfl
instance : IsZ Try.prog 33 (0 : Nat) 8 := IsZ.of (z := .int .u64 0) (by kernel_rfl) (fun _ _ => ⟨rfl, by decide⟩)
instance : IsC Try.prog 33 1 false := IsC.of (by kernel_rfl) Try.underlying33 rfl
instance : IsZC Try.prog 33 [.int .u64 0] := IsZC.of (z := .int .u64 0) (by kernel_rfl) rfl
instance : IsT Try.prog 9 ByteArray := IsT.of (by kernel_rfl) Try.underlying9 rfl
instance : IsC Try.prog 9 1 false := IsC.of (by kernel_rfl) Try.underlying9 rfl
instance : IsZC Try.prog 9 [.string ⟨#[]⟩] := IsZC.of (z := .string ⟨#[]⟩) (by kernel_rfl) rfl
instance : IsT Try.prog 27 Int := IsT.of (by kernel_rfl) Try.underlying27 rfl
instance : IsZ Try.prog 27 (0 : Int) 8 := IsZ.of (z := .int .i64 0) (by kernel_rfl) (fun _ _ => rfl)
instance : IsC Try.prog 27 1 false := IsC.of (by kernel_rfl) Try.underlying27 rfl
instance : IsZC Try.prog 27 [.int .i64 0] := IsZC.of (z := .int .i64 0) (by kernel_rfl) rfl
instance : IsB Try.prog 4 := ⟨Try.underlying4⟩
instance : IsI Try.prog 3 .i64 := ⟨Try.underlying3⟩
instance : IsI Try.prog 33 .u64 := ⟨Try.underlying33⟩
instance : IsI Try.prog 5 .u8 := ⟨Try.underlying5⟩
instance : IsT Try.prog 22 (List Int) := IsT.of (by kernel_rfl) Try.underlying22 rfl
instance : IsS Try.prog 22 3 := ⟨Try.underlying22⟩
instance : IsZ Try.prog 22 ([] : List Int) 24 := IsZ.of (z := .slice none 0 0) (by kernel_rfl) (fun _ _ => ⟨none, 0, rfl, by simp, by simp [maxLen], fun _ => rfl, fun i hi => absurd hi (by simp)⟩)
instance : IsC Try.prog 22 1 false := IsC.of (by kernel_rfl) Try.underlying22 rfl
instance : IsZC Try.prog 22 [.slice none 0 0] := IsZC.of (z := .slice none 0 0) (by kernel_rfl) rfl
instance : IsT Try.prog 23 (List (List Int)) := IsT.of (by kernel_rfl) Try.underlying23 rfl
instance : IsS Try.prog 23 22 := ⟨Try.underlying23⟩
instance : IsZ Try.prog 23 ([] : List (List Int)) 24 := IsZ.of (z := .slice none 0 0) (by kernel_rfl) (fun _ _ => ⟨none, 0, rfl, by simp, by simp [maxLen], fun _ => rfl, fun i hi => absurd hi (by simp)⟩)
instance : IsC Try.prog 23 1 false := IsC.of (by kernel_rfl) Try.underlying23 rfl
instance : IsZC Try.prog 23 [.slice none 0 0] := IsZC.of (z := .slice none 0 0) (by kernel_rfl) rfl
instance : IsT Try.prog 68 (List Bool) := IsT.of (by kernel_rfl) Try.underlying68 rfl
instance : IsS Try.prog 68 4 := ⟨Try.underlying68⟩
instance : IsZ Try.prog 68 ([] : List Bool) 24 := IsZ.of (z := .slice none 0 0) (by kernel_rfl) (fun _ _ => ⟨none, 0, rfl, by simp, by simp [maxLen], fun _ => rfl, fun i hi => absurd hi (by simp)⟩)
instance : IsC Try.prog 68 1 false := IsC.of (by kernel_rfl) Try.underlying68 rfl
instance : IsZC Try.prog 68 [.slice none 0 0] := IsZC.of (z := .slice none 0 0) (by kernel_rfl) rfl
instance : IsT Try.prog 24 (List Nat) := IsT.of (by kernel_rfl) Try.underlying24 rfl
instance : IsS Try.prog 24 33 := ⟨Try.underlying24⟩
instance : IsZ Try.prog 24 ([] : List Nat) 24 := IsZ.of (z := .slice none 0 0) (by kernel_rfl) (fun _ _ => ⟨none, 0, rfl, by simp, by simp [maxLen], fun _ => rfl, fun i hi => absurd hi (by simp)⟩)
instance : IsC Try.prog 24 1 false := IsC.of (by kernel_rfl) Try.underlying24 rfl
instance : IsZC Try.prog 24 [.slice none 0 0] := IsZC.of (z := .slice none 0 0) (by kernel_rfl) rfl
instance : IsT Try.prog 209 (List Bool) := IsT.of (by kernel_rfl) Try.underlying209 rfl
instance : IsS Try.prog 209 4 := ⟨Try.underlying209⟩
instance : IsZ Try.prog 209 ([] : List Bool) 24 := IsZ.of (z := .slice none 0 0) (by kernel_rfl) (fun _ _ => ⟨none, 0, rfl, by simp, by simp [maxLen], fun _ => rfl, fun i hi => absurd hi (by simp)⟩)
instance : IsC Try.prog 209 1 false := IsC.of (by kernel_rfl) Try.underlying209 rfl
instance : IsZC Try.prog 209 [.slice none 0 0] := IsZC.of (z := .slice none 0 0) (by kernel_rfl) rfl
instance : IsT Try.prog 226 (List (List Bool)) := IsT.of (by kernel_rfl) Try.underlying226 rfl
instance : IsS Try.prog 226 209 := ⟨Try.underlying226⟩
instance : IsZ Try.prog 226 ([] : List (List Bool)) 24 := IsZ.of (z := .slice none 0 0) (by kernel_rfl) (fun _ _ => ⟨none, 0, rfl, by simp, by simp [maxLen], fun _ => rfl, fun i hi => absurd hi (by simp)⟩)
instance : IsC Try.prog 226 1 false := IsC.of (by kernel_rfl) Try.underlying226 rfl
instance : IsZC Try.prog 226 [.slice none 0 0] := IsZC.of (z := .slice none 0 0) (by kernel_rfl) rfl
instance : IsT Try.prog 77 (List Nat × List Nat) := IsT.of (by kernel_rfl) Try.underlying77 rfl
instance : IsC Try.prog 77 2 true := IsC.of (by kernel_rfl) Try.underlying77 rfl
instance : IsFd Try.prog 77 0 0 := IsFd.of (by kernel_rfl)
instance : IsFd Try.prog 77 1 1 := IsFd.of (by kernel_rfl)
instance : IsZC Try.prog 77 [.slice none 0 0, .slice none 0 0] := IsZC.of (z := .agg #[.slice none 0 0, .slice none 0 0]) (by kernel_rfl) rfl
instance : IsBd Try.prog 77 [(0, 1), (1, 1)] := IsBd.of (by kernel_rfl)
instance : IsT Try.prog 92 (Int × Int × Int × Int × Int × Int × Int) := IsT.of (by kernel_rfl) Try.underlying92 rfl
instance : IsC Try.prog 92 7 true := IsC.of (by kernel_rfl) Try.underlying92 rfl
instance : IsFd Try.prog 92 0 0 := IsFd.of (by kernel_rfl)
instance : IsFd Try.prog 92 1 1 := IsFd.of (by kernel_rfl)
instance : IsFd Try.prog 92 2 2 := IsFd.of (by kernel_rfl)
instance : IsFd Try.prog 92 3 3 := IsFd.of (by kernel_rfl)
instance : IsFd Try.prog 92 4 4 := IsFd.of (by kernel_rfl)
instance : IsFd Try.prog 92 5 5 := IsFd.of (by kernel_rfl)
instance : IsFd Try.prog 92 6 6 := IsFd.of (by kernel_rfl)
instance : IsZC Try.prog 92 [.int .i64 0, .int .i64 0, .int .i64 0, .int .i64 0, .int .i64 0, .int .i64 0, .int .i64 0] := IsZC.of (z := .agg #[.int .i64 0, .int .i64 0, .int .i64 0, .int .i64 0, .int .i64 0, .int .i64 0, .int .i64 0]) (by kernel_rfl) rfl
instance : IsBd Try.prog 92 [(0, 1), (1, 1), (2, 1), (3, 1), (4, 1), (5, 1), (6, 1)] := IsBd.of (by kernel_rfl)
instance : IsZ Try.prog 92 ((0, 0, 0, 0, 0, 0, 0) : (Int × Int × Int × Int × Int × Int × Int)) 56 := IsZ.of (z := .agg #[.int .i64 0, .int .i64 0, .int .i64 0, .int .i64 0, .int .i64 0, .int .i64 0, .int .i64 0]) (by kernel_rfl) (fun _ _ => rd_mk (rd_mkInt _ _ _) (rd_mk (rd_mkInt _ _ _) (rd_mk (rd_mkInt _ _ _) (rd_mk (rd_mkInt _ _ _) (rd_mk (rd_mkInt _ _ _) (rd_mk (rd_mkInt _ _ _) (rd_mkInt _ _ _)))))))
instance : IsT Try.prog 85 (Int × Int × Int × Int) := IsT.of (by kernel_rfl) Try.underlying85 rfl
instance : IsC Try.prog 85 4 true := IsC.of (by kernel_rfl) Try.underlying85 rfl
instance : IsFd Try.prog 85 0 0 := IsFd.of (by kernel_rfl)
instance : IsFd Try.prog 85 1 1 := IsFd.of (by kernel_rfl)
instance : IsFd Try.prog 85 2 2 := IsFd.of (by kernel_rfl)
instance : IsFd Try.prog 85 3 3 := IsFd.of (by kernel_rfl)
instance : IsZC Try.prog 85 [.int .i64 0, .int .i64 0, .int .i64 0, .int .i64 0] := IsZC.of (z := .agg #[.int .i64 0, .int .i64 0, .int .i64 0, .int .i64 0]) (by kernel_rfl) rfl
instance : IsBd Try.prog 85 [(0, 1), (1, 1), (2, 1), (3, 1)] := IsBd.of (by kernel_rfl)
instance : IsZ Try.prog 85 ((0, 0, 0, 0) : (Int × Int × Int × Int)) 32 := IsZ.of (z := .agg #[.int .i64 0, .int .i64 0, .int .i64 0, .int .i64 0]) (by kernel_rfl) (fun _ _ => rd_mk (rd_mkInt _ _ _) (rd_mk (rd_mkInt _ _ _) (rd_mk (rd_mkInt _ _ _) (rd_mkInt _ _ _))))
instance : IsT Try.prog 67 (List Int × List (List Int) × List Nat × List (List Int)) := IsT.of (by kernel_rfl) Try.underlying67 rfl
instance : IsC Try.prog 67 4 true := IsC.of (by kernel_rfl) Try.underlying67 rfl
instance : IsFd Try.prog 67 0 0 := IsFd.of (by kernel_rfl)
instance : IsFd Try.prog 67 1 1 := IsFd.of (by kernel_rfl)
instance : IsFd Try.prog 67 2 2 := IsFd.of (by kernel_rfl)
instance : IsFd Try.prog 67 3 3 := IsFd.of (by kernel_rfl)
instance : IsZC Try.prog 67 [.slice none 0 0, .slice none 0 0, .slice none 0 0, .slice none 0 0] := IsZC.of (z := .agg #[.slice none 0 0, .slice none 0 0, .slice none 0 0, .slice none 0 0]) (by kernel_rfl) rfl
instance : IsBd Try.prog 67 [(0, 1), (1, 1), (2, 1), (3, 1)] := IsBd.of (by kernel_rfl)
instance : IsT Try.prog 26 (List Int × List (List Int) × List Nat × List Nat × List (List Int)) := IsT.of (by kernel_rfl) Try.underlying26 rfl
instance : IsC Try.prog 26 5 true := IsC.of (by kernel_rfl) Try.underlying26 rfl
instance : IsFd Try.prog 26 0 0 := IsFd.of (by kernel_rfl)
instance : IsFd Try.prog 26 1 1 := IsFd.of (by kernel_rfl)
instance : IsFd Try.prog 26 2 2 := IsFd.of (by kernel_rfl)
instance : IsFd Try.prog 26 3 3 := IsFd.of (by kernel_rfl)
instance : IsFd Try.prog 26 4 4 := IsFd.of (by kernel_rfl)
instance : IsZC Try.prog 26 [.slice none 0 0, .slice none 0 0, .slice none 0 0, .slice none 0 0, .slice none 0 0] := IsZC.of (z := .agg #[.slice none 0 0, .slice none 0 0, .slice none 0 0, .slice none 0 0, .slice none 0 0]) (by kernel_rfl) rfl
instance : IsBd Try.prog 26 [(0, 1), (1, 1), (2, 1), (3, 1), (4, 1)] := IsBd.of (by kernel_rfl)
instance : IsT Try.prog 62 (ByteArray × Int) := IsT.of (by kernel_rfl) Try.underlying62 rfl
instance : IsC Try.prog 62 2 true := IsC.of (by kernel_rfl) Try.underlying62 rfl
instance : IsFd Try.prog 62 0 0 := IsFd.of (by kernel_rfl)
instance : IsFd Try.prog 62 1 1 := IsFd.of (by kernel_rfl)
instance : IsZC Try.prog 62 [.string ⟨#[]⟩, .int .i64 0] := IsZC.of (z := .agg #[.string ⟨#[]⟩, .int .i64 0]) (by kernel_rfl) rfl
instance : IsBd Try.prog 62 [(0, 1), (1, 1)] := IsBd.of (by kernel_rfl)
instance : IsZ Try.prog 62 ((⟨#[]⟩, 0) : (ByteArray × Int)) 24 := IsZ.of (z := .agg #[.string ⟨#[]⟩, .int .i64 0]) (by kernel_rfl) (fun _ _ => rd_mk (c1 := [.string ⟨#[]⟩]) (c2 := [.int .i64 0]) ⟨rfl, by decide⟩ (rd_mkInt _ _ _))
instance : IsT Try.prog 52 (Int × Int) := IsT.of (by kernel_rfl) Try.underlying52 rfl
instance : IsC Try.prog 52 2 true := IsC.of (by kernel_rfl) Try.underlying52 rfl
instance : IsFd Try.prog 52 0 0 := IsFd.of (by kernel_rfl)
instance : IsFd Try.prog 52 1 1 := IsFd.of (by kernel_rfl)
instance : IsZC Try.prog 52 [.int .i64 0, .int .i64 0] := IsZC.of (z := .agg #[.int .i64 0, .int .i64 0]) (by kernel_rfl) rfl
instance : IsBd Try.prog 52 [(0, 1), (1, 1)] := IsBd.of (by kernel_rfl)
instance : IsZ Try.prog 52 ((0, 0) : (Int × Int)) 16 := IsZ.of (z := .agg #[.int .i64 0, .int .i64 0]) (by kernel_rfl) (fun _ _ => rd_mk (rd_mkInt _ _ _) (rd_mkInt _ _ _))
instance : IsT Try.prog 44 (List (ByteArray × Int) × List (Int × Int)) := IsT.of (by kernel_rfl) Try.underlying44 rfl
instance : IsC Try.prog 44 2 true := IsC.of (by kernel_rfl) Try.underlying44 rfl
instance : IsFd Try.prog 44 0 0 := IsFd.of (by kernel_rfl)
instance : IsFd Try.prog 44 1 1 := IsFd.of (by kernel_rfl)
instance : IsZC Try.prog 44 [.slice none 0 0, .slice none 0 0] := IsZC.of (z := .agg #[.slice none 0 0, .slice none 0 0]) (by kernel_rfl) rfl
instance : IsBd Try.prog 44 [(0, 1), (1, 1)] := IsBd.of (by kernel_rfl)
instance : IsT Try.prog 60 (Int × Int × Int) := IsT.of (by kernel_rfl) Try.underlying60 rfl
instance : IsC Try.prog 60 3 true := IsC.of (by kernel_rfl) Try.underlying60 rfl
instance : IsFd Try.prog 60 0 0 := IsFd.of (by kernel_rfl)
instance : IsFd Try.prog 60 1 1 := IsFd.of (by kernel_rfl)
instance : IsFd Try.prog 60 2 2 := IsFd.of (by kernel_rfl)
instance : IsZC Try.prog 60 [.int .i64 0, .int .i64 0, .int .i64 0] := IsZC.of (z := .agg #[.int .i64 0, .int .i64 0, .int .i64 0]) (by kernel_rfl) rfl
instance : IsBd Try.prog 60 [(0, 1), (1, 1), (2, 1)] := IsBd.of (by kernel_rfl)
instance : IsZ Try.prog 60 ((0, 0, 0) : (Int × Int × Int)) 24 := IsZ.of (z := .agg #[.int .i64 0, .int .i64 0, .int .i64 0]) (by kernel_rfl) (fun _ _ => rd_mk (rd_mkInt _ _ _) (rd_mk (rd_mkInt _ _ _) (rd_mkInt _ _ _)))
instance : IsT Try.prog 119 (Int × Int) := IsT.of (by kernel_rfl) Try.underlying119 rfl
instance : IsC Try.prog 119 2 true := IsC.of (by kernel_rfl) Try.underlying119 rfl
instance : IsFd Try.prog 119 0 0 := IsFd.of (by kernel_rfl)
instance : IsFd Try.prog 119 1 1 := IsFd.of (by kernel_rfl)
instance : IsZC Try.prog 119 [.int .i64 0, .int .i64 0] := IsZC.of (z := .agg #[.int .i64 0, .int .i64 0]) (by kernel_rfl) rfl
instance : IsBd Try.prog 119 [(0, 1), (1, 1)] := IsBd.of (by kernel_rfl)
instance : IsZ Try.prog 119 ((0, 0) : (Int × Int)) 16 := IsZ.of (z := .agg #[.int .i64 0, .int .i64 0]) (by kernel_rfl) (fun _ _ => rd_mk (rd_mkInt _ _ _) (rd_mkInt _ _ _))
instance : IsC Try.prog 125 7 true := IsC.of (by kernel_rfl) Try.underlying125 rfl
instance : IsFd Try.prog 125 0 0 := IsFd.of (by kernel_rfl)
instance : IsFd Try.prog 125 1 1 := IsFd.of (by kernel_rfl)
instance : IsFd Try.prog 125 2 2 := IsFd.of (by kernel_rfl)
instance : IsZC Try.prog 125 [.map none, .slice none 0 0, .slice none 0 0, .slice none 0 0, .slice none 0 0, .slice none 0 0, .slice none 0 0] := IsZC.of (z := .agg #[.map none, .slice none 0 0, .slice none 0 0, .slice none 0 0, .slice none 0 0, .slice none 0 0, .slice none 0 0]) (by kernel_rfl) rfl
instance : IsBd Try.prog 125 [(0, 1), (1, 1), (2, 5)] := IsBd.of (by kernel_rfl)
instance : IsT Try.prog 159 (Int × Int) := IsT.of (by kernel_rfl) Try.underlying159 rfl
instance : IsC Try.prog 159 2 true := IsC.of (by kernel_rfl) Try.underlying159 rfl
instance : IsFd Try.prog 159 0 0 := IsFd.of (by kernel_rfl)
instance : IsFd Try.prog 159 1 1 := IsFd.of (by kernel_rfl)
instance : IsZC Try.prog 159 [.int .i64 0, .int .i64 0] := IsZC.of (z := .agg #[.int .i64 0, .int .i64 0]) (by kernel_rfl) rfl
instance : IsBd Try.prog 159 [(0, 1), (1, 1)] := IsBd.of (by kernel_rfl)
instance : IsZ Try.prog 159 ((0, 0) : (Int × Int)) 16 := IsZ.of (z := .agg #[.int .i64 0, .int .i64 0]) (by kernel_rfl) (fun _ _ => rd_mk (rd_mkInt _ _ _) (rd_mkInt _ _ _))
instance : IsT Try.prog 150 (Bool × Bool) := IsT.of (by kernel_rfl) Try.underlying150 rfl
instance : IsC Try.prog 150 2 true := IsC.of (by kernel_rfl) Try.underlying150 rfl
instance : IsFd Try.prog 150 0 0 := IsFd.of (by kernel_rfl)
instance : IsFd Try.prog 150 1 1 := IsFd.of (by kernel_rfl)
instance : IsZC Try.prog 150 [.bool false, .bool false] := IsZC.of (z := .agg #[.bool false, .bool false]) (by kernel_rfl) rfl
instance : IsBd Try.prog 150 [(0, 1), (1, 1)] := IsBd.of (by kernel_rfl)
instance : IsZ Try.prog 150 ((false, false) : (Bool × Bool)) 2 := IsZ.of (z := .agg #[.bool false, .bool false]) (by kernel_rfl) (fun _ _ => rd_mk (rd_mkBool _ _ _) (rd_mkBool _ _ _))
instance : IsC Try.prog 155 10 true := IsC.of (by kernel_rfl) Try.underlying155 rfl
instance : IsFd Try.prog 155 0 0 := IsFd.of (by kernel_rfl)
instance : IsFd Try.prog 155 1 7 := IsFd.of (by kernel_rfl)
instance : IsFd Try.prog 155 2 9 := IsFd.of (by kernel_rfl)
instance : IsZC Try.prog 155 [.int .i64 0, .int .i64 0, .int .i64 0, .int .i64 0, .int .i64 0, .int .i64 0, .int .i64 0, .slice none 0 0, .slice none 0 0, .int .i64 0] := IsZC.of (z := .agg #[.int .i64 0, .int .i64 0, .int .i64 0, .int .i64 0, .int .i64 0, .int .i64 0, .int .i64 0, .slice none 0 0, .slice none 0 0, .int .i64 0]) (by kernel_rfl) rfl
instance : IsBd Try.prog 155 [(0, 7), (7, 2), (9, 1)] := IsBd.of (by kernel_rfl)
instance : IsC Try.prog 217 7 true := IsC.of (by kernel_rfl) Try.underlying217 rfl
instance : IsFd Try.prog 217 0 0 := IsFd.of (by kernel_rfl)
instance : IsFd Try.prog 217 1 1 := IsFd.of (by kernel_rfl)
instance : IsFd Try.prog 217 2 2 := IsFd.of (by kernel_rfl)
instance : IsFd Try.prog 217 3 3 := IsFd.of (by kernel_rfl)
instance : IsFd Try.prog 217 4 4 := IsFd.of (by kernel_rfl)
instance : IsFd Try.prog 217 5 5 := IsFd.of (by kernel_rfl)
instance : IsFd Try.prog 217 6 6 := IsFd.of (by kernel_rfl)
instance : IsZC Try.prog 217 [.slice none 0 0, .slice none 0 0, .slice none 0 0, .slice none 0 0, .slice none 0 0, .int .i64 0, .int .i64 0] := IsZC.of (z := .agg #[.slice none 0 0, .slice none 0 0, .slice none 0 0, .slice none 0 0, .slice none 0 0, .int .i64 0, .int .i64 0]) (by kernel_rfl) rfl
instance : IsBd Try.prog 217 [(0, 1), (1, 1), (2, 1), (3, 1), (4, 1), (5, 1), (6, 1)] := IsBd.of (by kernel_rfl)
instance : IsT Try.prog 41 (List (ByteArray × Int)) := IsT.of (by kernel_rfl) Try.underlying41 rfl
instance : IsS Try.prog 41 62 := ⟨Try.underlying41⟩
instance : IsZ Try.prog 41 ([] : List (ByteArray × Int)) 24 := IsZ.of (z := .slice none 0 0) (by kernel_rfl) (fun _ _ => ⟨none, 0, rfl, by simp, by simp [maxLen], fun _ => rfl, fun i hi => absurd hi (by simp)⟩)
instance : IsC Try.prog 41 1 false := IsC.of (by kernel_rfl) Try.underlying41 rfl
instance : IsZC Try.prog 41 [.slice none 0 0] := IsZC.of (z := .slice none 0 0) (by kernel_rfl) rfl
instance : IsT Try.prog 42 (List (Int × Int)) := IsT.of (by kernel_rfl) Try.underlying42 rfl
instance : IsS Try.prog 42 52 := ⟨Try.underlying42⟩
instance : IsZ Try.prog 42 ([] : List (Int × Int)) 24 := IsZ.of (z := .slice none 0 0) (by kernel_rfl) (fun _ _ => ⟨none, 0, rfl, by simp, by simp [maxLen], fun _ => rfl, fun i hi => absurd hi (by simp)⟩)
instance : IsC Try.prog 42 1 false := IsC.of (by kernel_rfl) Try.underlying42 rfl
instance : IsZC Try.prog 42 [.slice none 0 0] := IsZC.of (z := .slice none 0 0) (by kernel_rfl) rfl
instance : IsT Try.prog 55 (List (Int × Int × Int)) := IsT.of (by kernel_rfl) Try.underlying55 rfl
instance : IsS Try.prog 55 60 := ⟨Try.underlying55⟩
instance : IsZ Try.prog 55 ([] : List (Int × Int × Int)) 24 := IsZ.of (z := .slice none 0 0) (by kernel_rfl) (fun _ _ => ⟨none, 0, rfl, by simp, by simp [maxLen], fun _ => rfl, fun i hi => absurd hi (by simp)⟩)
instance : IsC Try.prog 55 1 false := IsC.of (by kernel_rfl) Try.underlying55 rfl
instance : IsZC Try.prog 55 [.slice none 0 0] := IsZC.of (z := .slice none 0 0) (by kernel_rfl) rfl
instance : IsT Try.prog 120 (List (Int × Int)) := IsT.of (by kernel_rfl) Try.underlying120 rfl
instance : IsS Try.prog 120 119 := ⟨Try.underlying120⟩
instance : IsZ Try.prog 120 ([] : List (Int × Int)) 24 := IsZ.of (z := .slice none 0 0) (by kernel_rfl) (fun _ _ => ⟨none, 0, rfl, by simp, by simp [maxLen], fun _ => rfl, fun i hi => absurd hi (by simp)⟩)
instance : IsC Try.prog 120 1 false := IsC.of (by kernel_rfl) Try.underlying120 rfl
instance : IsZC Try.prog 120 [.slice none 0 0] := IsZC.of (z := .slice none 0 0) (by kernel_rfl) rfl
instance : IsT Try.prog 116 (List (List Bool)) := IsT.of (by kernel_rfl) Try.underlying116 rfl
instance : IsS Try.prog 116 68 := ⟨Try.underlying116⟩
instance : IsZ Try.prog 116 ([] : List (List Bool)) 24 := IsZ.of (z := .slice none 0 0) (by kernel_rfl) (fun _ _ => ⟨none, 0, rfl, by simp, by simp [maxLen], fun _ => rfl, fun i hi => absurd hi (by simp)⟩)
instance : IsC Try.prog 116 1 false := IsC.of (by kernel_rfl) Try.underlying116 rfl
instance : IsZC Try.prog 116 [.slice none 0 0] := IsZC.of (z := .slice none 0 0) (by kernel_rfl) rfl
instance : IsT Try.prog 156 (List (Int × Int)) := IsT.of (by kernel_rfl) Try.underlying156 rfl
instance : IsS Try.prog 156 159 := ⟨Try.underlying156⟩
instance : IsZ Try.prog 156 ([] : List (Int × Int)) 24 := IsZ.of (z := .slice none 0 0) (by kernel_rfl) (fun _ _ => ⟨none, 0, rfl, by simp, by simp [maxLen], fun _ => rfl, fun i hi => absurd hi (by simp)⟩)
instance : IsC Try.prog 156 1 false := IsC.of (by kernel_rfl) Try.underlying156 rfl
instance : IsZC Try.prog 156 [.slice none 0 0] := IsZC.of (z := .slice none 0 0) (by kernel_rfl) rfl
instance : IsT Try.prog 145 (List (Bool × Bool)) := IsT.of (by kernel_rfl) Try.underlying145 rfl
instance : IsS Try.prog 145 150 := ⟨Try.underlying145⟩
instance : IsZ Try.prog 145 ([] : List (Bool × Bool)) 24 := IsZ.of (z := .slice none 0 0) (by kernel_rfl) (fun _ _ => ⟨none, 0, rfl, by simp, by simp [maxLen], fun _ => rfl, fun i hi => absurd hi (by simp)⟩)
instance : IsC Try.prog 145 1 false := IsC.of (by kernel_rfl) Try.underlying145 rfl
instance : IsZC Try.prog 145 [.slice none 0 0] := IsZC.of (z := .slice none 0 0) (by kernel_rfl) rfl
instance : IsC Try.prog 123 1 false := IsC.of (by kernel_rfl) Try.underlying123 rfl
instance : IsC Try.prog 153 1 false := IsC.of (by kernel_rfl) Try.underlying153 rfl
instance : IsC Try.prog 215 1 false := IsC.of (by kernel_rfl) Try.underlying215 rfl
instance : IsC Try.prog 122 1 false := IsC.of (by kernel_rfl) Try.underlying122 rfl
instance : IsF Try.prog 116 := ⟨_, Try.func116, rfl, by decide⟩
instance : IsF Try.prog 67 := ⟨_, Try.func67, rfl, by decide⟩
instance : IsF Try.prog 115 := ⟨_, Try.func115, rfl, by decide⟩
instance : IsF Try.prog 104 := ⟨_, Try.func104, rfl, by decide⟩
instance : IsF Try.prog 97 := ⟨_, Try.func97, rfl, by decide⟩
instance : IsF Try.prog 145 := ⟨_, Try.func145, rfl, by decide⟩
instance : IsF Try.prog 146 := ⟨_, Try.func146, rfl, by decide⟩
instance : IsF Try.prog 98 := ⟨_, Try.func98, rfl, by decide⟩
instance : IsF Try.prog 96 := ⟨_, Try.func96, rfl, by decide⟩
instance : IsF Try.prog 184 := ⟨_, Try.func184, rfl, by decide⟩
instance : IsF Try.prog 185 := ⟨_, Try.func185, rfl, by decide⟩
instance : IsF Try.prog 165 := ⟨_, Try.func165, rfl, by decide⟩
instance : IsF Try.prog 48 := ⟨_, Try.func48, rfl, by decide⟩
instance : IsF Try.prog 162 := ⟨_, Try.func162, rfl, by decide⟩
instance : IsF Try.prog 50 := ⟨_, Try.func50, rfl, by decide⟩
instance : IsF Try.prog 21 := ⟨_, Try.func21, rfl, by decide⟩
instance : IsF Try.prog 31 := ⟨_, Try.func31, rfl, by decide⟩
instance : IsF Try.prog 118 := ⟨_, Try.func118, rfl, by decide⟩
instance : IsF Try.prog 36 := ⟨_, Try.func36, rfl, by decide⟩
instance : IsF Try.prog 44 := ⟨_, Try.func44, rfl, by decide⟩
instance : IsF Try.prog 64 := ⟨_, Try.func64, rfl, by decide⟩
instance : IsF Try.prog 38 := ⟨_, Try.func38, rfl, by decide⟩
instance : IsF Try.prog 69 := ⟨_, Try.func69, rfl, by decide⟩
instance : IsF Try.prog 41 := ⟨_, Try.func41, rfl, by decide⟩
instance : IsF Try.prog 28 := ⟨_, Try.func28, rfl, by decide⟩
instance : IsF Try.prog 70 := ⟨_, Try.func70, rfl, by decide⟩
instance : IsF Try.prog 35 := ⟨_, Try.func35, rfl, by decide⟩
instance : IsF Try.prog 71 := ⟨_, Try.func71, rfl, by decide⟩
instance : IsF Try.prog 78 := ⟨_, Try.func78, rfl, by decide⟩
instance : IsF Try.prog 163 := ⟨_, Try.func163, rfl, by decide⟩
instance : IsF Try.prog 80 := ⟨_, Try.func80, rfl, by decide⟩
instance : IsF Try.prog 85 := ⟨_, Try.func85, rfl, by decide⟩
instance : IsF Try.prog 114 := ⟨_, Try.func114, rfl, by decide⟩
instance : IsF Try.prog 81 := ⟨_, Try.func81, rfl, by decide⟩
instance : IsF Try.prog 52 := ⟨_, Try.func52, rfl, by decide⟩
instance : IsF Try.prog 170 := ⟨_, Try.func170, rfl, by decide⟩
instance : IsF Try.prog 143 := ⟨_, Try.func143, rfl, by decide⟩
instance : IsF Try.prog 94 := ⟨_, Try.func94, rfl, by decide⟩
instance : IsF Try.prog 46 := ⟨_, Try.func46, rfl, by decide⟩
instance : IsF Try.prog 56 := ⟨_, Try.func56, rfl, by decide⟩
instance : IsF Try.prog 102 := ⟨_, Try.func102, rfl, by decide⟩
instance : IsF Try.prog 103 := ⟨_, Try.func103, rfl, by decide⟩
instance : IsF Try.prog 105 := ⟨_, Try.func105, rfl, by decide⟩
instance : IsF Try.prog 106 := ⟨_, Try.func106, rfl, by decide⟩
instance : IsF Try.prog 57 := ⟨_, Try.func57, rfl, by decide⟩
instance : IsF Try.prog 108 := ⟨_, Try.func108, rfl, by decide⟩
instance : IsF Try.prog 109 := ⟨_, Try.func109, rfl, by decide⟩
instance : IsF Try.prog 129 := ⟨_, Try.func129, rfl, by decide⟩
instance : IsF Try.prog 15 := ⟨_, Try.func15, rfl, by decide⟩
instance : IsF Try.prog 66 := ⟨_, Try.func66, rfl, by decide⟩
instance : IsF Try.prog 88 := ⟨_, Try.func88, rfl, by decide⟩
instance : IsF Try.prog 65 := ⟨_, Try.func65, rfl, by decide⟩
instance : IsF Try.prog 107 := ⟨_, Try.func107, rfl, by decide⟩
instance : IsF Try.prog 158 := ⟨_, Try.func158, rfl, by decide⟩
instance : IsF Try.prog 128 := ⟨_, Try.func128, rfl, by decide⟩
instance : IsF Try.prog 130 := ⟨_, Try.func130, rfl, by decide⟩
instance : IsF Try.prog 131 := ⟨_, Try.func131, rfl, by decide⟩
instance : IsF Try.prog 89 := ⟨_, Try.func89, rfl, by decide⟩
instance : IsF Try.prog 49 := ⟨_, Try.func49, rfl, by decide⟩
instance : IsF Try.prog 140 := ⟨_, Try.func140, rfl, by decide⟩
instance : IsF Try.prog 91 := ⟨_, Try.func91, rfl, by decide⟩
instance : IsF Try.prog 136 := ⟨_, Try.func136, rfl, by decide⟩
instance : IsF Try.prog 134 := ⟨_, Try.func134, rfl, by decide⟩
instance : IsF Try.prog 135 := ⟨_, Try.func135, rfl, by decide⟩
instance : IsF Try.prog 92 := ⟨_, Try.func92, rfl, by decide⟩
instance : IsF Try.prog 137 := ⟨_, Try.func137, rfl, by decide⟩
instance : IsF Try.prog 139 := ⟨_, Try.func139, rfl, by decide⟩
instance : IsF Try.prog 141 := ⟨_, Try.func141, rfl, by decide⟩
instance : IsF Try.prog 142 := ⟨_, Try.func142, rfl, by decide⟩
instance : IsF Try.prog 133 := ⟨_, Try.func133, rfl, by decide⟩
instance : IsF Try.prog 90 := ⟨_, Try.func90, rfl, by decide⟩
instance : IsF Try.prog 138 := ⟨_, Try.func138, rfl, by decide⟩
instance : IsF Try.prog 95 := ⟨_, Try.func95, rfl, by decide⟩
instance : IsF Try.prog 54 := ⟨_, Try.func54, rfl, by decide⟩
instance : IsF Try.prog 53 := ⟨_, Try.func53, rfl, by decide⟩
instance : IsF Try.prog 152 := ⟨_, Try.func152, rfl, by decide⟩
instance : IsF Try.prog 154 := ⟨_, Try.func154, rfl, by decide⟩
instance : IsF Try.prog 99 := ⟨_, Try.func99, rfl, by decide⟩
instance : IsF Try.prog 155 := ⟨_, Try.func155, rfl, by decide⟩
instance : IsF Try.prog 147 := ⟨_, Try.func147, rfl, by decide⟩
instance : IsF Try.prog 148 := ⟨_, Try.func148, rfl, by decide⟩
instance : IsF Try.prog 150 := ⟨_, Try.func150, rfl, by decide⟩
instance : IsF Try.prog 149 := ⟨_, Try.func149, rfl, by decide⟩
instance : IsF Try.prog 144 := ⟨_, Try.func144, rfl, by decide⟩
instance : IsF Try.prog 171 := ⟨_, Try.func171, rfl, by decide⟩
instance : IsF Try.prog 153 := ⟨_, Try.func153, rfl, by decide⟩
instance : IsF Try.prog 151 := ⟨_, Try.func151, rfl, by decide⟩
instance : IsF Try.prog 172 := ⟨_, Try.func172, rfl, by decide⟩
instance : IsF Try.prog 173 := ⟨_, Try.func173, rfl, by decide⟩
instance : IsF Try.prog 175 := ⟨_, Try.func175, rfl, by decide⟩
instance : IsF Try.prog 176 := ⟨_, Try.func176, rfl, by decide⟩
instance : IsF Try.prog 177 := ⟨_, Try.func177, rfl, by decide⟩
instance : IsF Try.prog 178 := ⟨_, Try.func178, rfl, by decide⟩
instance : IsF Try.prog 174 := ⟨_, Try.func174, rfl, by decide⟩
instance : IsF Try.prog 113 := ⟨_, Try.func113, rfl, by decide⟩
instance : IsF Try.prog 61 := ⟨_, Try.func61, rfl, by decide⟩
instance : IsF Try.prog 58 := ⟨_, Try.func58, rfl, by decide⟩
instance : IsF Try.prog 62 := ⟨_, Try.func62, rfl, by decide⟩
instance : IsF Try.prog 110 := ⟨_, Try.func110, rfl, by decide⟩
instance : IsF Try.prog 159 := ⟨_, Try.func159, rfl, by decide⟩
instance : IsF Try.prog 183 := ⟨_, Try.func183, rfl, by decide⟩
instance : IsF Try.prog 111 := ⟨_, Try.func111, rfl, by decide⟩
instance : IsF Try.prog 161 := ⟨_, Try.func161, rfl, by decide⟩
instance : IsF Try.prog 112 := ⟨_, Try.func112, rfl, by decide⟩
instance : IsF Try.prog 160 := ⟨_, Try.func160, rfl, by decide⟩
instance : IsF Try.prog 132 := ⟨_, Try.func132, rfl, by decide⟩
instance : IsF Try.prog 86 := ⟨_, Try.func86, rfl, by decide⟩
instance : IsF Try.prog 101 := ⟨_, Try.func101, rfl, by decide⟩
instance : IsF Try.prog 87 := ⟨_, Try.func87, rfl, by decide⟩
instance : IsF Try.prog 169 := ⟨_, Try.func169, rfl, by decide⟩
instance : IsF Try.prog 157 := ⟨_, Try.func157, rfl, by decide⟩
instance : IsF Try.prog 127 := ⟨_, Try.func127, rfl, by decide⟩
instance : IsF Try.prog 182 := ⟨_, Try.func182, rfl, by decide⟩
instance : IsF Try.prog 180 := ⟨_, Try.func180, rfl, by decide⟩
instance : IsF Try.prog 168 := ⟨_, Try.func168, rfl, by decide⟩
instance : IsF Try.prog 181 := ⟨_, Try.func181, rfl, by decide⟩
instance : IsF Try.prog 100 := ⟨_, Try.func100, rfl, by decide⟩
instance : IsF Try.prog 156 := ⟨_, Try.func156, rfl, by decide⟩
instance : IsF Try.prog 179 := ⟨_, Try.func179, rfl, by decide⟩
instance : IsF Try.prog 29 := ⟨_, Try.func29, rfl, by decide⟩
instance : IsF Try.prog 30 := ⟨_, Try.func30, rfl, by decide⟩
instance : IsF Try.prog 117 := ⟨_, Try.func117, rfl, by decide⟩
instance : IsF Try.prog 26 := ⟨_, Try.func26, rfl, by decide⟩
instance : IsF Try.prog 75 := ⟨_, Try.func75, rfl, by decide⟩
instance : IsF Try.prog 76 := ⟨_, Try.func76, rfl, by decide⟩
instance : IsF Try.prog 72 := ⟨_, Try.func72, rfl, by decide⟩
instance : IsF Try.prog 74 := ⟨_, Try.func74, rfl, by decide⟩
instance : IsF Try.prog 119 := ⟨_, Try.func119, rfl, by decide⟩
instance : IsF Try.prog 73 := ⟨_, Try.func73, rfl, by decide⟩
instance : IsF Try.prog 120 := ⟨_, Try.func120, rfl, by decide⟩
instance : IsF Try.prog 77 := ⟨_, Try.func77, rfl, by decide⟩
instance : IsF Try.prog 123 := ⟨_, Try.func123, rfl, by decide⟩
instance : IsF Try.prog 125 := ⟨_, Try.func125, rfl, by decide⟩
instance : IsF Try.prog 121 := ⟨_, Try.func121, rfl, by decide⟩
instance : IsF Try.prog 164 := ⟨_, Try.func164, rfl, by decide⟩
instance : IsF Try.prog 122 := ⟨_, Try.func122, rfl, by decide⟩
instance : IsF Try.prog 167 := ⟨_, Try.func167, rfl, by decide⟩
instance : IsF Try.prog 34 := ⟨_, Try.func34, rfl, by decide⟩
instance : IsF Try.prog 79 := ⟨_, Try.func79, rfl, by decide⟩
instance : IsF Try.prog 10 := ⟨_, Try.func10, rfl, by decide⟩
instance : IsF Try.prog 3 := ⟨_, Try.func3, rfl, by decide⟩
instance : IsF Try.prog 22 := ⟨_, Try.func22, rfl, by decide⟩
instance : IsF Try.prog 23 := ⟨_, Try.func23, rfl, by decide⟩
instance : IsF Try.prog 11 := ⟨_, Try.func11, rfl, by decide⟩
instance : IsF Try.prog 7 := ⟨_, Try.func7, rfl, by decide⟩
instance : IsF Try.prog 8 := ⟨_, Try.func8, rfl, by decide⟩
instance : IsF Try.prog 9 := ⟨_, Try.func9, rfl, by decide⟩
instance : IsF Try.prog 14 := ⟨_, Try.func14, rfl, by decide⟩
instance : IsF Try.prog 13 := ⟨_, Try.func13, rfl, by decide⟩
instance : IsF Try.prog 12 := ⟨_, Try.func12, rfl, by decide⟩
instance : IsF Try.prog 4 := ⟨_, Try.func4, rfl, by decide⟩
instance : IsF Try.prog 32 := ⟨_, Try.func32, rfl, by decide⟩
instance : IsF Try.prog 33 := ⟨_, Try.func33, rfl, by decide⟩
instance : IsF Try.prog 5 := ⟨_, Try.func5, rfl, by decide⟩
instance : IsF Try.prog 37 := ⟨_, Try.func37, rfl, by decide⟩
instance : IsF Try.prog 6 := ⟨_, Try.func6, rfl, by decide⟩
instance : IsF Try.prog 43 := ⟨_, Try.func43, rfl, by decide⟩
instance : IsF Try.prog 45 := ⟨_, Try.func45, rfl, by decide⟩
instance : IsF Try.prog 20 := ⟨_, Try.func20, rfl, by decide⟩
instance : IsF Try.prog 63 := ⟨_, Try.func63, rfl, by decide⟩
instance : IsF Try.prog 16 := ⟨_, Try.func16, rfl, by decide⟩
instance : IsF Try.prog 17 := ⟨_, Try.func17, rfl, by decide⟩
instance : IsF Try.prog 18 := ⟨_, Try.func18, rfl, by decide⟩
instance : IsF Try.prog 24 := ⟨_, Try.func24, rfl, by decide⟩
instance : IsF Try.prog 25 := ⟨_, Try.func25, rfl, by decide⟩
instance : IsF Try.prog 27 := ⟨_, Try.func27, rfl, by decide⟩
instance : IsF Try.prog 60 := ⟨_, Try.func60, rfl, by decide⟩
instance : IsF Try.prog 55 := ⟨_, Try.func55, rfl, by decide⟩
instance : IsF Try.prog 40 := ⟨_, Try.func40, rfl, by decide⟩
instance : IsF Try.prog 47 := ⟨_, Try.func47, rfl, by decide⟩
instance : IsF Try.prog 59 := ⟨_, Try.func59, rfl, by decide⟩
instance : IsF Try.prog 51 := ⟨_, Try.func51, rfl, by decide⟩
instance : IsF Try.prog 19 := ⟨_, Try.func19, rfl, by decide⟩
instance : IsF Try.prog 68 := ⟨_, Try.func68, rfl, by decide⟩
instance : IsF Try.prog 42 := ⟨_, Try.func42, rfl, by decide⟩
instance : IsF Try.prog 84 := ⟨_, Try.func84, rfl, by decide⟩
instance : IsF Try.prog 39 := ⟨_, Try.func39, rfl, by decide⟩
instance : IsF Try.prog 82 := ⟨_, Try.func82, rfl, by decide⟩
instance : IsF Try.prog 124 := ⟨_, Try.func124, rfl, by decide⟩
instance : IsF Try.prog 166 := ⟨_, Try.func166, rfl, by decide⟩
instance : IsF Try.prog 83 := ⟨_, Try.func83, rfl, by decide⟩
instance : IsF Try.prog 126 := ⟨_, Try.func126, rfl, by decide⟩
end Go.Proofs.Ythefpigolikmeaa
