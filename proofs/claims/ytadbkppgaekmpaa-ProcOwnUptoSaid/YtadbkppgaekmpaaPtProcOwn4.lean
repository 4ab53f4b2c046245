import Derived.Test.YtadbkppgaekmpaaProg
import Derived.Test.YtadbkppgaekmpaaPtProcOwn3
/-
  The types and functions of the program, as our walks ask for them.
-/
set_option linter.unusedVariables false
namespace Go.Proofs.Ytadbkppgaekmpaa

theorem mixed : Try.prog.follows .mixedOrders = true := by kernel_rfl
instance : IsT Try.prog 3 Int := IsT.of (by kernel_rfl) Try.underlying3 rfl
instance : IsZ Try.prog 3 (0 : Int) 8 := IsZ.of (z := .int .i64 0) (by kernel_rfl) (fun _ _ => rfl)
instance : IsC Try.prog 3 1 false := IsC.of (by kernel_rfl) Try.underlying3 rfl
instance : IsZC Try.prog 3 [.int .i64 0] := IsZC.of (z := .int .i64 0) (by kernel_rfl) rfl
instance : IsT Try.prog 4 Bool := IsT.of (by kernel_rfl) Try.underlying4 rfl
instance : IsZ Try.prog 4 false 1 := IsZ.of (z := .bool false) (by kernel_rfl) (fun _ _ => rfl)
instance : IsC Try.prog 4 1 false := IsC.of (by kernel_rfl) Try.underlying4 rfl
instance : IsZC Try.prog 4 [.bool false] := IsZC.of (z := .bool false) (by kernel_rfl) rfl
instance : IsT Try.prog 33 Nat := IsT.of (by kernel_rfl) Try.underlying33 rfl
instance : IsZ Try.prog 33 (0 : Nat) 8 := IsZ.of (z := .int .u64 0) (by kernel_rfl) (fun _ _ => ⟨rfl, by decide⟩)
instance : IsC Try.prog 33 1 false := IsC.of (by kernel_rfl) Try.underlying33 rfl
instance : IsZC Try.prog 33 [.int .u64 0] := IsZC.of (z := .int .u64 0) (by kernel_rfl) rfl
instance : IsT Try.prog 9 ByteArray := IsT.of (by kernel_rfl) Try.underlying9 rfl
instance : IsC Try.prog 9 1 false := IsC.of (by kernel_rfl) Try.underlying9 rfl
instance : IsZC Try.prog 9 [.string ⟨#[]⟩] := IsZC.of (z := .string ⟨#[]⟩) (by kernel_rfl) rfl
instance : IsT Try.prog 27 Int := IsT.of (by kernel_rfl) Try.underlying27 rfl
instance : IsZ Try.prog 27 (0 : Int) 8 := IsZ.of (z := .int .i64 0) (by kernel_rfl) (fun _ _ => rfl)
instance : IsC Try.prog 27 1 false := IsC.of (by kernel_rfl) Try.underlying27 rfl
instance : IsZC Try.prog 27 [.int .i64 0] := IsZC.of (z := .int .i64 0) (by kernel_rfl) rfl
instance : IsB Try.prog 4 := ⟨Try.underlying4⟩
instance : IsI Try.prog 3 .i64 := ⟨Try.underlying3⟩
instance : IsI Try.prog 33 .u64 := ⟨Try.underlying33⟩
instance : IsI Try.prog 5 .u8 := ⟨Try.underlying5⟩
instance : IsT Try.prog 22 (List Int) := IsT.of (by kernel_rfl) Try.underlying22 rfl
instance : IsS Try.prog 22 3 := ⟨Try.underlying22⟩
instance : IsZ Try.prog 22 ([] : List Int) 24 := IsZ.of (z := .slice none 0 0) (by kernel_rfl) (fun _ _ => ⟨none, 0, rfl, by simp, by simp [maxLen], fun _ => rfl, fun i hi => absurd hi (by simp)⟩)
instance : IsC Try.prog 22 1 false := IsC.of (by kernel_rfl) Try.underlying22 rfl
instance : IsZC Try.prog 22 [.slice none 0 0] := IsZC.of (z := .slice none 0 0) (by kernel_rfl) rfl
instance : IsT Try.prog 23 (List (List Int)) := IsT.of (by kernel_rfl) Try.underlying23 rfl
instance : IsS Try.prog 23 22 := ⟨Try.underlying23⟩
instance : IsZ Try.prog 23 ([] : List (List Int)) 24 := IsZ.of (z := .slice none 0 0) (by kernel_rfl) (fun _ _ => ⟨none, 0, rfl, by simp, by simp [maxLen], fun _ => rfl, fun i hi => absurd hi (by simp)⟩)
instance : IsC Try.prog 23 1 false := IsC.of (by kernel_rfl) Try.underlying23 rfl
instance : IsZC Try.prog 23 [.slice none 0 0] := IsZC.of (z := .slice none 0 0) (by kernel_rfl) rfl
instance : IsT Try.prog 97 (List Bool) := IsT.of (by kernel_rfl) Try.underlying97 rfl
instance : IsS Try.prog 97 4 := ⟨Try.underlying97⟩
instance : IsZ Try.prog 97 ([] : List Bool) 24 := IsZ.of (z := .slice none 0 0) (by kernel_rfl) (fun _ _ => ⟨none, 0, rfl, by simp, by simp [maxLen], fun _ => rfl, fun i hi => absurd hi (by simp)⟩)
instance : IsC Try.prog 97 1 false := IsC.of (by kernel_rfl) Try.underlying97 rfl
instance : IsZC Try.prog 97 [.slice none 0 0] := IsZC.of (z := .slice none 0 0) (by kernel_rfl) rfl
instance : IsT Try.prog 24 (List Nat) := IsT.of (by kernel_rfl) Try.underlying24 rfl
instance : IsS Try.prog 24 33 := ⟨Try.underlying24⟩
instance : IsZ Try.prog 24 ([] : List Nat) 24 := IsZ.of (z := .slice none 0 0) (by kernel_rfl) (fun _ _ => ⟨none, 0, rfl, by simp, by simp [maxLen], fun _ => rfl, fun i hi => absurd hi (by simp)⟩)
instance : IsC Try.prog 24 1 false := IsC.of (by kernel_rfl) Try.underlying24 rfl
instance : IsZC Try.prog 24 [.slice none 0 0] := IsZC.of (z := .slice none 0 0) (by kernel_rfl) rfl
instance : IsT Try.prog 42 (List Nat × List Nat) := IsT.of (by kernel_rfl) Try.underlying42 rfl
instance : IsC Try.prog 42 2 true := IsC.of (by kernel_rfl) Try.underlying42 rfl
instance : IsFd Try.prog 42 0 0 := IsFd.of (by kernel_rfl)
instance : IsFd Try.prog 42 1 1 := IsFd.of (by kernel_rfl)
instance : IsZC Try.prog 42 [.slice none 0 0, .slice none 0 0] := IsZC.of (z := .agg #[.slice none 0 0, .slice none 0 0]) (by kernel_rfl) rfl
instance : IsBd Try.prog 42 [(0, 1), (1, 1)] := IsBd.of (by kernel_rfl)
instance : IsT Try.prog 101 (List Int × List Int) := IsT.of (by kernel_rfl) Try.underlying101 rfl
instance : IsC Try.prog 101 2 true := IsC.of (by kernel_rfl) Try.underlying101 rfl
instance : IsFd Try.prog 101 0 0 := IsFd.of (by kernel_rfl)
instance : IsFd Try.prog 101 1 1 := IsFd.of (by kernel_rfl)
instance : IsZC Try.prog 101 [.slice none 0 0, .slice none 0 0] := IsZC.of (z := .agg #[.slice none 0 0, .slice none 0 0]) (by kernel_rfl) rfl
instance : IsBd Try.prog 101 [(0, 1), (1, 1)] := IsBd.of (by kernel_rfl)
instance : IsT Try.prog 81 (List Int × List (List Int) × List Nat × List (List Int)) := IsT.of (by kernel_rfl) Try.underlying81 rfl
instance : IsC Try.prog 81 4 true := IsC.of (by kernel_rfl) Try.underlying81 rfl
instance : IsFd Try.prog 81 0 0 := IsFd.of (by kernel_rfl)
instance : IsFd Try.prog 81 1 1 := IsFd.of (by kernel_rfl)
instance : IsFd Try.prog 81 2 2 := IsFd.of (by kernel_rfl)
instance : IsFd Try.prog 81 3 3 := IsFd.of (by kernel_rfl)
instance : IsZC Try.prog 81 [.slice none 0 0, .slice none 0 0, .slice none 0 0, .slice none 0 0] := IsZC.of (z := .agg #[.slice none 0 0, .slice none 0 0, .slice none 0 0, .slice none 0 0]) (by kernel_rfl) rfl
instance : IsBd Try.prog 81 [(0, 1), (1, 1), (2, 1), (3, 1)] := IsBd.of (by kernel_rfl)
instance : IsT Try.prog 26 (List Int × List (List Int) × List Nat × List Nat × List (List Int)) := IsT.of (by kernel_rfl) Try.underlying26 rfl
instance : IsC Try.prog 26 5 true := IsC.of (by kernel_rfl) Try.underlying26 rfl
instance : IsFd Try.prog 26 0 0 := IsFd.of (by kernel_rfl)
instance : IsFd Try.prog 26 1 1 := IsFd.of (by kernel_rfl)
instance : IsFd Try.prog 26 2 2 := IsFd.of (by kernel_rfl)
instance : IsFd Try.prog 26 3 3 := IsFd.of (by kernel_rfl)
instance : IsFd Try.prog 26 4 4 := IsFd.of (by kernel_rfl)
instance : IsZC Try.prog 26 [.slice none 0 0, .slice none 0 0, .slice none 0 0, .slice none 0 0, .slice none 0 0] := IsZC.of (z := .agg #[.slice none 0 0, .slice none 0 0, .slice none 0 0, .slice none 0 0, .slice none 0 0]) (by kernel_rfl) rfl
instance : IsBd Try.prog 26 [(0, 1), (1, 1), (2, 1), (3, 1), (4, 1)] := IsBd.of (by kernel_rfl)
instance : IsT Try.prog 59 (ByteArray × Int) := IsT.of (by kernel_rfl) Try.underlying59 rfl
instance : IsC Try.prog 59 2 true := IsC.of (by kernel_rfl) Try.underlying59 rfl
instance : IsFd Try.prog 59 0 0 := IsFd.of (by kernel_rfl)
instance : IsFd Try.prog 59 1 1 := IsFd.of (by kernel_rfl)
instance : IsZC Try.prog 59 [.string ⟨#[]⟩, .int .i64 0] := IsZC.of (z := .agg #[.string ⟨#[]⟩, .int .i64 0]) (by kernel_rfl) rfl
instance : IsBd Try.prog 59 [(0, 1), (1, 1)] := IsBd.of (by kernel_rfl)
instance : IsZ Try.prog 59 ((⟨#[]⟩, 0) : (ByteArray × Int)) 24 := IsZ.of (z := .agg #[.string ⟨#[]⟩, .int .i64 0]) (by kernel_rfl) (fun _ _ => rd_mk (c1 := [.string ⟨#[]⟩]) (c2 := [.int .i64 0]) ⟨rfl, by decide⟩ (rd_mkInt _ _ _))
instance : IsT Try.prog 62 (Int × Int) := IsT.of (by kernel_rfl) Try.underlying62 rfl
instance : IsC Try.prog 62 2 true := IsC.of (by kernel_rfl) Try.underlying62 rfl
instance : IsFd Try.prog 62 0 0 := IsFd.of (by kernel_rfl)
instance : IsFd Try.prog 62 1 1 := IsFd.of (by kernel_rfl)
instance : IsZC Try.prog 62 [.int .i64 0, .int .i64 0] := IsZC.of (z := .agg #[.int .i64 0, .int .i64 0]) (by kernel_rfl) rfl
instance : IsBd Try.prog 62 [(0, 1), (1, 1)] := IsBd.of (by kernel_rfl)
instance : IsZ Try.prog 62 ((0, 0) : (Int × Int)) 16 := IsZ.of (z := .agg #[.int .i64 0, .int .i64 0]) (by kernel_rfl) (fun _ _ => rd_mk (rd_mkInt _ _ _) (rd_mkInt _ _ _))
instance : IsT Try.prog 53 (List (ByteArray × Int) × List (Int × Int)) := IsT.of (by kernel_rfl) Try.underlying53 rfl
instance : IsC Try.prog 53 2 true := IsC.of (by kernel_rfl) Try.underlying53 rfl
instance : IsFd Try.prog 53 0 0 := IsFd.of (by kernel_rfl)
instance : IsFd Try.prog 53 1 1 := IsFd.of (by kernel_rfl)
instance : IsZC Try.prog 53 [.slice none 0 0, .slice none 0 0] := IsZC.of (z := .agg #[.slice none 0 0, .slice none 0 0]) (by kernel_rfl) rfl
instance : IsBd Try.prog 53 [(0, 1), (1, 1)] := IsBd.of (by kernel_rfl)
instance : IsT Try.prog 92 (Int × Int × Int) := IsT.of (by kernel_rfl) Try.underlying92 rfl
instance : IsC Try.prog 92 3 true := IsC.of (by kernel_rfl) Try.underlying92 rfl
instance : IsFd Try.prog 92 0 0 := IsFd.of (by kernel_rfl)
instance : IsFd Try.prog 92 1 1 := IsFd.of (by kernel_rfl)
instance : IsFd Try.prog 92 2 2 := IsFd.of (by kernel_rfl)
instance : IsZC Try.prog 92 [.int .i64 0, .int .i64 0, .int .i64 0] := IsZC.of (z := .agg #[.int .i64 0, .int .i64 0, .int .i64 0]) (by kernel_rfl) rfl
instance : IsBd Try.prog 92 [(0, 1), (1, 1), (2, 1)] := IsBd.of (by kernel_rfl)
instance : IsZ Try.prog 92 ((0, 0, 0) : (Int × Int × Int)) 24 := IsZ.of (z := .agg #[.int .i64 0, .int .i64 0, .int .i64 0]) (by kernel_rfl) (fun _ _ => rd_mk (rd_mkInt _ _ _) (rd_mk (rd_mkInt _ _ _) (rd_mkInt _ _ _)))
instance : IsT Try.prog 77 (Int × Int) := IsT.of (by kernel_rfl) Try.underlying77 rfl
instance : IsC Try.prog 77 2 true := IsC.of (by kernel_rfl) Try.underlying77 rfl
instance : IsFd Try.prog 77 0 0 := IsFd.of (by kernel_rfl)
instance : IsFd Try.prog 77 1 1 := IsFd.of (by kernel_rfl)
instance : IsZC Try.prog 77 [.int .i64 0, .int .i64 0] := IsZC.of (z := .agg #[.int .i64 0, .int .i64 0]) (by kernel_rfl) rfl
instance : IsBd Try.prog 77 [(0, 1), (1, 1)] := IsBd.of (by kernel_rfl)
instance : IsZ Try.prog 77 ((0, 0) : (Int × Int)) 16 := IsZ.of (z := .agg #[.int .i64 0, .int .i64 0]) (by kernel_rfl) (fun _ _ => rd_mk (rd_mkInt _ _ _) (rd_mkInt _ _ _))
instance : IsT Try.prog 133 (Int × Int) := IsT.of (by kernel_rfl) Try.underlying133 rfl
instance : IsC Try.prog 133 2 true := IsC.of (by kernel_rfl) Try.underlying133 rfl
instance : IsFd Try.prog 133 0 0 := IsFd.of (by kernel_rfl)
instance : IsFd Try.prog 133 1 1 := IsFd.of (by kernel_rfl)
instance : IsZC Try.prog 133 [.int .i64 0, .int .i64 0] := IsZC.of (z := .agg #[.int .i64 0, .int .i64 0]) (by kernel_rfl) rfl
instance : IsBd Try.prog 133 [(0, 1), (1, 1)] := IsBd.of (by kernel_rfl)
instance : IsZ Try.prog 133 ((0, 0) : (Int × Int)) 16 := IsZ.of (z := .agg #[.int .i64 0, .int .i64 0]) (by kernel_rfl) (fun _ _ => rd_mk (rd_mkInt _ _ _) (rd_mkInt _ _ _))
instance : IsT Try.prog 67 (List (List Int) × List (List (Int × Int))) := IsT.of (by kernel_rfl) Try.underlying67 rfl
instance : IsC Try.prog 67 2 true := IsC.of (by kernel_rfl) Try.underlying67 rfl
instance : IsFd Try.prog 67 0 0 := IsFd.of (by kernel_rfl)
instance : IsFd Try.prog 67 1 1 := IsFd.of (by kernel_rfl)
instance : IsZC Try.prog 67 [.slice none 0 0, .slice none 0 0] := IsZC.of (z := .agg #[.slice none 0 0, .slice none 0 0]) (by kernel_rfl) rfl
instance : IsBd Try.prog 67 [(0, 1), (1, 1)] := IsBd.of (by kernel_rfl)
instance : IsT Try.prog 116 (Bool × List Int × List Int) := IsT.of (by kernel_rfl) Try.underlying116 rfl
instance : IsC Try.prog 116 3 true := IsC.of (by kernel_rfl) Try.underlying116 rfl
instance : IsFd Try.prog 116 0 0 := IsFd.of (by kernel_rfl)
instance : IsFd Try.prog 116 1 1 := IsFd.of (by kernel_rfl)
instance : IsFd Try.prog 116 2 2 := IsFd.of (by kernel_rfl)
instance : IsZC Try.prog 116 [.bool false, .slice none 0 0, .slice none 0 0] := IsZC.of (z := .agg #[.bool false, .slice none 0 0, .slice none 0 0]) (by kernel_rfl) rfl
instance : IsBd Try.prog 116 [(0, 1), (1, 1), (2, 1)] := IsBd.of (by kernel_rfl)
instance : IsT Try.prog 161 (Int × Int) := IsT.of (by kernel_rfl) Try.underlying161 rfl
instance : IsC Try.prog 161 2 true := IsC.of (by kernel_rfl) Try.underlying161 rfl
instance : IsFd Try.prog 161 0 0 := IsFd.of (by kernel_rfl)
instance : IsFd Try.prog 161 1 1 := IsFd.of (by kernel_rfl)
instance : IsZC Try.prog 161 [.int .i64 0, .int .i64 0] := IsZC.of (z := .agg #[.int .i64 0, .int .i64 0]) (by kernel_rfl) rfl
instance : IsBd Try.prog 161 [(0, 1), (1, 1)] := IsBd.of (by kernel_rfl)
instance : IsZ Try.prog 161 ((0, 0) : (Int × Int)) 16 := IsZ.of (z := .agg #[.int .i64 0, .int .i64 0]) (by kernel_rfl) (fun _ _ => rd_mk (rd_mkInt _ _ _) (rd_mkInt _ _ _))
instance : IsC Try.prog 139 7 true := IsC.of (by kernel_rfl) Try.underlying139 rfl
instance : IsFd Try.prog 139 0 0 := IsFd.of (by kernel_rfl)
instance : IsFd Try.prog 139 1 1 := IsFd.of (by kernel_rfl)
instance : IsFd Try.prog 139 2 2 := IsFd.of (by kernel_rfl)
instance : IsZC Try.prog 139 [.map none, .slice none 0 0, .slice none 0 0, .slice none 0 0, .slice none 0 0, .slice none 0 0, .slice none 0 0] := IsZC.of (z := .agg #[.map none, .slice none 0 0, .slice none 0 0, .slice none 0 0, .slice none 0 0, .slice none 0 0, .slice none 0 0]) (by kernel_rfl) rfl
instance : IsBd Try.prog 139 [(0, 1), (1, 1), (2, 5)] := IsBd.of (by kernel_rfl)
instance : IsC Try.prog 226 6 true := IsC.of (by kernel_rfl) Try.underlying226 rfl
instance : IsFd Try.prog 226 0 0 := IsFd.of (by kernel_rfl)
instance : IsFd Try.prog 226 1 4 := IsFd.of (by kernel_rfl)
instance : IsFd Try.prog 226 2 5 := IsFd.of (by kernel_rfl)
instance : IsZC Try.prog 226 [.slice none 0 0, .slice none 0 0, .slice none 0 0, .slice none 0 0, .slice none 0 0, .slice none 0 0] := IsZC.of (z := .agg #[.slice none 0 0, .slice none 0 0, .slice none 0 0, .slice none 0 0, .slice none 0 0, .slice none 0 0]) (by kernel_rfl) rfl
instance : IsBd Try.prog 226 [(0, 4), (4, 1), (5, 1)] := IsBd.of (by kernel_rfl)
instance : IsC Try.prog 170 10 true := IsC.of (by kernel_rfl) Try.underlying170 rfl
instance : IsFd Try.prog 170 0 0 := IsFd.of (by kernel_rfl)
instance : IsFd Try.prog 170 1 1 := IsFd.of (by kernel_rfl)
instance : IsFd Try.prog 170 2 3 := IsFd.of (by kernel_rfl)
instance : IsFd Try.prog 170 3 4 := IsFd.of (by kernel_rfl)
instance : IsFd Try.prog 170 4 5 := IsFd.of (by kernel_rfl)
instance : IsFd Try.prog 170 5 6 := IsFd.of (by kernel_rfl)
instance : IsZC Try.prog 170 [.slice none 0 0, .slice none 0 0, .slice none 0 0, .slice none 0 0, .slice none 0 0, .slice none 0 0, .slice none 0 0, .slice none 0 0, .slice none 0 0, .slice none 0 0] := IsZC.of (z := .agg #[.slice none 0 0, .slice none 0 0, .slice none 0 0, .slice none 0 0, .slice none 0 0, .slice none 0 0, .slice none 0 0, .slice none 0 0, .slice none 0 0, .slice none 0 0]) (by kernel_rfl) rfl
instance : IsBd Try.prog 170 [(0, 1), (1, 2), (3, 1), (4, 1), (5, 1), (6, 4)] := IsBd.of (by kernel_rfl)
instance : IsT Try.prog 193 (Int × Int) := IsT.of (by kernel_rfl) Try.underlying193 rfl
instance : IsC Try.prog 193 2 true := IsC.of (by kernel_rfl) Try.underlying193 rfl
instance : IsFd Try.prog 193 0 0 := IsFd.of (by kernel_rfl)
instance : IsFd Try.prog 193 1 1 := IsFd.of (by kernel_rfl)
instance : IsZC Try.prog 193 [.int .i64 0, .int .i64 0] := IsZC.of (z := .agg #[.int .i64 0, .int .i64 0]) (by kernel_rfl) rfl
instance : IsBd Try.prog 193 [(0, 1), (1, 1)] := IsBd.of (by kernel_rfl)
instance : IsZ Try.prog 193 ((0, 0) : (Int × Int)) 16 := IsZ.of (z := .agg #[.int .i64 0, .int .i64 0]) (by kernel_rfl) (fun _ _ => rd_mk (rd_mkInt _ _ _) (rd_mkInt _ _ _))
instance : IsC Try.prog 190 13 true := IsC.of (by kernel_rfl) Try.underlying190 rfl
instance : IsFd Try.prog 190 0 0 := IsFd.of (by kernel_rfl)
instance : IsFd Try.prog 190 1 4 := IsFd.of (by kernel_rfl)
instance : IsFd Try.prog 190 2 9 := IsFd.of (by kernel_rfl)
instance : IsFd Try.prog 190 3 10 := IsFd.of (by kernel_rfl)
instance : IsFd Try.prog 190 4 11 := IsFd.of (by kernel_rfl)
instance : IsFd Try.prog 190 5 12 := IsFd.of (by kernel_rfl)
instance : IsZC Try.prog 190 [.slice none 0 0, .slice none 0 0, .slice none 0 0, .slice none 0 0, .slice none 0 0, .slice none 0 0, .slice none 0 0, .slice none 0 0, .slice none 0 0, .map none, .slice none 0 0, .slice none 0 0, .slice none 0 0] := IsZC.of (z := .agg #[.slice none 0 0, .slice none 0 0, .slice none 0 0, .slice none 0 0, .slice none 0 0, .slice none 0 0, .slice none 0 0, .slice none 0 0, .slice none 0 0, .map none, .slice none 0 0, .slice none 0 0, .slice none 0 0]) (by kernel_rfl) rfl
instance : IsBd Try.prog 190 [(0, 4), (4, 5), (9, 1), (10, 1), (11, 1), (12, 1)] := IsBd.of (by kernel_rfl)
instance : IsC Try.prog 237 7 true := IsC.of (by kernel_rfl) Try.underlying237 rfl
instance : IsFd Try.prog 237 0 0 := IsFd.of (by kernel_rfl)
instance : IsFd Try.prog 237 1 1 := IsFd.of (by kernel_rfl)
instance : IsFd Try.prog 237 2 2 := IsFd.of (by kernel_rfl)
instance : IsFd Try.prog 237 3 3 := IsFd.of (by kernel_rfl)
instance : IsFd Try.prog 237 4 4 := IsFd.of (by kernel_rfl)
instance : IsFd Try.prog 237 5 5 := IsFd.of (by kernel_rfl)
instance : IsFd Try.prog 237 6 6 := IsFd.of (by kernel_rfl)
instance : IsZC Try.prog 237 [.slice none 0 0, .slice none 0 0, .slice none 0 0, .slice none 0 0, .slice none 0 0, .int .i64 0, .int .i64 0] := IsZC.of (z := .agg #[.slice none 0 0, .slice none 0 0, .slice none 0 0, .slice none 0 0, .slice none 0 0, .int .i64 0, .int .i64 0]) (by kernel_rfl) rfl
instance : IsBd Try.prog 237 [(0, 1), (1, 1), (2, 1), (3, 1), (4, 1), (5, 1), (6, 1)] := IsBd.of (by kernel_rfl)
instance : IsT Try.prog 50 (List (ByteArray × Int)) := IsT.of (by kernel_rfl) Try.underlying50 rfl
instance : IsS Try.prog 50 59 := ⟨Try.underlying50⟩
instance : IsZ Try.prog 50 ([] : List (ByteArray × Int)) 24 := IsZ.of (z := .slice none 0 0) (by kernel_rfl) (fun _ _ => ⟨none, 0, rfl, by simp, by simp [maxLen], fun _ => rfl, fun i hi => absurd hi (by simp)⟩)
instance : IsC Try.prog 50 1 false := IsC.of (by kernel_rfl) Try.underlying50 rfl
instance : IsZC Try.prog 50 [.slice none 0 0] := IsZC.of (z := .slice none 0 0) (by kernel_rfl) rfl
instance : IsT Try.prog 51 (List (Int × Int)) := IsT.of (by kernel_rfl) Try.underlying51 rfl
instance : IsS Try.prog 51 62 := ⟨Try.underlying51⟩
instance : IsZ Try.prog 51 ([] : List (Int × Int)) 24 := IsZ.of (z := .slice none 0 0) (by kernel_rfl) (fun _ _ => ⟨none, 0, rfl, by simp, by simp [maxLen], fun _ => rfl, fun i hi => absurd hi (by simp)⟩)
instance : IsC Try.prog 51 1 false := IsC.of (by kernel_rfl) Try.underlying51 rfl
instance : IsZC Try.prog 51 [.slice none 0 0] := IsZC.of (z := .slice none 0 0) (by kernel_rfl) rfl
instance : IsT Try.prog 86 (List (Int × Int × Int)) := IsT.of (by kernel_rfl) Try.underlying86 rfl
instance : IsS Try.prog 86 92 := ⟨Try.underlying86⟩
instance : IsZ Try.prog 86 ([] : List (Int × Int × Int)) 24 := IsZ.of (z := .slice none 0 0) (by kernel_rfl) (fun _ _ => ⟨none, 0, rfl, by simp, by simp [maxLen], fun _ => rfl, fun i hi => absurd hi (by simp)⟩)
instance : IsC Try.prog 86 1 false := IsC.of (by kernel_rfl) Try.underlying86 rfl
instance : IsZC Try.prog 86 [.slice none 0 0] := IsZC.of (z := .slice none 0 0) (by kernel_rfl) rfl
instance : IsT Try.prog 74 (List (Int × Int)) := IsT.of (by kernel_rfl) Try.underlying74 rfl
instance : IsS Try.prog 74 77 := ⟨Try.underlying74⟩
instance : IsZ Try.prog 74 ([] : List (Int × Int)) 24 := IsZ.of (z := .slice none 0 0) (by kernel_rfl) (fun _ _ => ⟨none, 0, rfl, by simp, by simp [maxLen], fun _ => rfl, fun i hi => absurd hi (by simp)⟩)
instance : IsC Try.prog 74 1 false := IsC.of (by kernel_rfl) Try.underlying74 rfl
instance : IsZC Try.prog 74 [.slice none 0 0] := IsZC.of (z := .slice none 0 0) (by kernel_rfl) rfl
instance : IsT Try.prog 65 (List (List (Int × Int))) := IsT.of (by kernel_rfl) Try.underlying65 rfl
instance : IsS Try.prog 65 74 := ⟨Try.underlying65⟩
instance : IsZ Try.prog 65 ([] : List (List (Int × Int))) 24 := IsZ.of (z := .slice none 0 0) (by kernel_rfl) (fun _ _ => ⟨none, 0, rfl, by simp, by simp [maxLen], fun _ => rfl, fun i hi => absurd hi (by simp)⟩)
instance : IsC Try.prog 65 1 false := IsC.of (by kernel_rfl) Try.underlying65 rfl
instance : IsZC Try.prog 65 [.slice none 0 0] := IsZC.of (z := .slice none 0 0) (by kernel_rfl) rfl
instance : IsT Try.prog 134 (List (Int × Int)) := IsT.of (by kernel_rfl) Try.underlying134 rfl
instance : IsS Try.prog 134 133 := ⟨Try.underlying134⟩
instance : IsZ Try.prog 134 ([] : List (Int × Int)) 24 := IsZ.of (z := .slice none 0 0) (by kernel_rfl) (fun _ _ => ⟨none, 0, rfl, by simp, by simp [maxLen], fun _ => rfl, fun i hi => absurd hi (by simp)⟩)
instance : IsC Try.prog 134 1 false := IsC.of (by kernel_rfl) Try.underlying134 rfl
instance : IsZC Try.prog 134 [.slice none 0 0] := IsZC.of (z := .slice none 0 0) (by kernel_rfl) rfl
instance : IsT Try.prog 188 (List (Int × Int)) := IsT.of (by kernel_rfl) Try.underlying188 rfl
instance : IsS Try.prog 188 193 := ⟨Try.underlying188⟩
instance : IsZ Try.prog 188 ([] : List (Int × Int)) 24 := IsZ.of (z := .slice none 0 0) (by kernel_rfl) (fun _ _ => ⟨none, 0, rfl, by simp, by simp [maxLen], fun _ => rfl, fun i hi => absurd hi (by simp)⟩)
instance : IsC Try.prog 188 1 false := IsC.of (by kernel_rfl) Try.underlying188 rfl
instance : IsZC Try.prog 188 [.slice none 0 0] := IsZC.of (z := .slice none 0 0) (by kernel_rfl) rfl
instance : IsT Try.prog 159 (List (Int × Int)) := IsT.of (by kernel_rfl) Try.underlying159 rfl
instance : IsS Try.prog 159 161 := ⟨Try.underlying159⟩
instance : IsZ Try.prog 159 ([] : List (Int × Int)) 24 := IsZ.of (z := .slice none 0 0) (by kernel_rfl) (fun _ _ => ⟨none, 0, rfl, by simp, by simp [maxLen], fun _ => rfl, fun i hi => absurd hi (by simp)⟩)
instance : IsC Try.prog 159 1 false := IsC.of (by kernel_rfl) Try.underlying159 rfl
instance : IsZC Try.prog 159 [.slice none 0 0] := IsZC.of (z := .slice none 0 0) (by kernel_rfl) rfl
instance : IsT Try.prog 130 (List (List Bool)) := IsT.of (by kernel_rfl) Try.underlying130 rfl
instance : IsS Try.prog 130 97 := ⟨Try.underlying130⟩
instance : IsZ Try.prog 130 ([] : List (List Bool)) 24 := IsZ.of (z := .slice none 0 0) (by kernel_rfl) (fun _ _ => ⟨none, 0, rfl, by simp, by simp [maxLen], fun _ => rfl, fun i hi => absurd hi (by simp)⟩)
instance : IsC Try.prog 130 1 false := IsC.of (by kernel_rfl) Try.underlying130 rfl
instance : IsZC Try.prog 130 [.slice none 0 0] := IsZC.of (z := .slice none 0 0) (by kernel_rfl) rfl
instance : IsC Try.prog 137 1 false := IsC.of (by kernel_rfl) Try.underlying137 rfl
instance : IsC Try.prog 181 1 false := IsC.of (by kernel_rfl) Try.underlying181 rfl
instance : IsC Try.prog 168 1 false := IsC.of (by kernel_rfl) Try.underlying168 rfl
instance : IsC Try.prog 186 1 false := IsC.of (by kernel_rfl) Try.underlying186 rfl
instance : IsC Try.prog 235 1 false := IsC.of (by kernel_rfl) Try.underlying235 rfl
instance : IsC Try.prog 136 1 false := IsC.of (by kernel_rfl) Try.underlying136 rfl
instance : IsC Try.prog 155 1 false := IsC.of (by kernel_rfl) Try.underlying155 rfl
instance : IsF Try.prog 131 := ⟨_, Try.func131, rfl, by decide⟩
instance : IsF Try.prog 68 := ⟨_, Try.func68, rfl, by decide⟩
instance : IsF Try.prog 130 := ⟨_, Try.func130, rfl, by decide⟩
instance : IsF Try.prog 78 := ⟨_, Try.func78, rfl, by decide⟩
instance : IsF Try.prog 166 := ⟨_, Try.func166, rfl, by decide⟩
instance : IsF Try.prog 111 := ⟨_, Try.func111, rfl, by decide⟩
instance : IsF Try.prog 114 := ⟨_, Try.func114, rfl, by decide⟩
instance : IsF Try.prog 171 := ⟨_, Try.func171, rfl, by decide⟩
instance : IsF Try.prog 117 := ⟨_, Try.func117, rfl, by decide⟩
instance : IsF Try.prog 173 := ⟨_, Try.func173, rfl, by decide⟩
instance : IsF Try.prog 174 := ⟨_, Try.func174, rfl, by decide⟩
instance : IsF Try.prog 175 := ⟨_, Try.func175, rfl, by decide⟩
instance : IsF Try.prog 113 := ⟨_, Try.func113, rfl, by decide⟩
instance : IsF Try.prog 168 := ⟨_, Try.func168, rfl, by decide⟩
instance : IsF Try.prog 169 := ⟨_, Try.func169, rfl, by decide⟩
instance : IsF Try.prog 170 := ⟨_, Try.func170, rfl, by decide⟩
instance : IsF Try.prog 118 := ⟨_, Try.func118, rfl, by decide⟩
instance : IsF Try.prog 115 := ⟨_, Try.func115, rfl, by decide⟩
instance : IsF Try.prog 163 := ⟨_, Try.func163, rfl, by decide⟩
instance : IsF Try.prog 199 := ⟨_, Try.func199, rfl, by decide⟩
instance : IsF Try.prog 160 := ⟨_, Try.func160, rfl, by decide⟩
instance : IsF Try.prog 155 := ⟨_, Try.func155, rfl, by decide⟩
instance : IsF Try.prog 194 := ⟨_, Try.func194, rfl, by decide⟩
instance : IsF Try.prog 151 := ⟨_, Try.func151, rfl, by decide⟩
instance : IsF Try.prog 159 := ⟨_, Try.func159, rfl, by decide⟩
instance : IsF Try.prog 158 := ⟨_, Try.func158, rfl, by decide⟩
instance : IsF Try.prog 157 := ⟨_, Try.func157, rfl, by decide⟩
instance : IsF Try.prog 195 := ⟨_, Try.func195, rfl, by decide⟩
instance : IsF Try.prog 196 := ⟨_, Try.func196, rfl, by decide⟩
instance : IsF Try.prog 207 := ⟨_, Try.func207, rfl, by decide⟩
instance : IsF Try.prog 208 := ⟨_, Try.func208, rfl, by decide⟩
instance : IsF Try.prog 107 := ⟨_, Try.func107, rfl, by decide⟩
instance : IsF Try.prog 152 := ⟨_, Try.func152, rfl, by decide⟩
instance : IsF Try.prog 153 := ⟨_, Try.func153, rfl, by decide⟩
instance : IsF Try.prog 156 := ⟨_, Try.func156, rfl, by decide⟩
instance : IsF Try.prog 162 := ⟨_, Try.func162, rfl, by decide⟩
instance : IsF Try.prog 154 := ⟨_, Try.func154, rfl, by decide⟩
instance : IsF Try.prog 193 := ⟨_, Try.func193, rfl, by decide⟩
instance : IsF Try.prog 198 := ⟨_, Try.func198, rfl, by decide⟩
instance : IsF Try.prog 210 := ⟨_, Try.func210, rfl, by decide⟩
instance : IsF Try.prog 108 := ⟨_, Try.func108, rfl, by decide⟩
instance : IsF Try.prog 161 := ⟨_, Try.func161, rfl, by decide⟩
instance : IsF Try.prog 164 := ⟨_, Try.func164, rfl, by decide⟩
instance : IsF Try.prog 97 := ⟨_, Try.func97, rfl, by decide⟩
instance : IsF Try.prog 98 := ⟨_, Try.func98, rfl, by decide⟩
instance : IsF Try.prog 96 := ⟨_, Try.func96, rfl, by decide⟩
instance : IsF Try.prog 95 := ⟨_, Try.func95, rfl, by decide⟩
instance : IsF Try.prog 94 := ⟨_, Try.func94, rfl, by decide⟩
instance : IsF Try.prog 200 := ⟨_, Try.func200, rfl, by decide⟩
instance : IsF Try.prog 201 := ⟨_, Try.func201, rfl, by decide⟩
instance : IsF Try.prog 167 := ⟨_, Try.func167, rfl, by decide⟩
instance : IsF Try.prog 144 := ⟨_, Try.func144, rfl, by decide⟩
instance : IsF Try.prog 143 := ⟨_, Try.func143, rfl, by decide⟩
instance : IsF Try.prog 183 := ⟨_, Try.func183, rfl, by decide⟩
instance : IsF Try.prog 61 := ⟨_, Try.func61, rfl, by decide⟩
instance : IsF Try.prog 134 := ⟨_, Try.func134, rfl, by decide⟩
instance : IsF Try.prog 19 := ⟨_, Try.func19, rfl, by decide⟩
instance : IsF Try.prog 120 := ⟨_, Try.func120, rfl, by decide⟩
instance : IsF Try.prog 186 := ⟨_, Try.func186, rfl, by decide⟩
instance : IsF Try.prog 64 := ⟨_, Try.func64, rfl, by decide⟩
instance : IsF Try.prog 65 := ⟨_, Try.func65, rfl, by decide⟩
instance : IsF Try.prog 70 := ⟨_, Try.func70, rfl, by decide⟩
instance : IsF Try.prog 92 := ⟨_, Try.func92, rfl, by decide⟩
instance : IsF Try.prog 49 := ⟨_, Try.func49, rfl, by decide⟩
instance : IsF Try.prog 36 := ⟨_, Try.func36, rfl, by decide⟩
instance : IsF Try.prog 71 := ⟨_, Try.func71, rfl, by decide⟩
instance : IsF Try.prog 93 := ⟨_, Try.func93, rfl, by decide⟩
instance : IsF Try.prog 91 := ⟨_, Try.func91, rfl, by decide⟩
instance : IsF Try.prog 90 := ⟨_, Try.func90, rfl, by decide⟩
instance : IsF Try.prog 72 := ⟨_, Try.func72, rfl, by decide⟩
instance : IsF Try.prog 44 := ⟨_, Try.func44, rfl, by decide⟩
instance : IsF Try.prog 204 := ⟨_, Try.func204, rfl, by decide⟩
instance : IsF Try.prog 128 := ⟨_, Try.func128, rfl, by decide⟩
instance : IsF Try.prog 129 := ⟨_, Try.func129, rfl, by decide⟩
instance : IsF Try.prog 172 := ⟨_, Try.func172, rfl, by decide⟩
instance : IsF Try.prog 25 := ⟨_, Try.func25, rfl, by decide⟩
instance : IsF Try.prog 26 := ⟨_, Try.func26, rfl, by decide⟩
instance : IsF Try.prog 76 := ⟨_, Try.func76, rfl, by decide⟩
instance : IsF Try.prog 77 := ⟨_, Try.func77, rfl, by decide⟩
instance : IsF Try.prog 79 := ⟨_, Try.func79, rfl, by decide⟩
instance : IsF Try.prog 80 := ⟨_, Try.func80, rfl, by decide⟩
instance : IsF Try.prog 27 := ⟨_, Try.func27, rfl, by decide⟩
instance : IsF Try.prog 82 := ⟨_, Try.func82, rfl, by decide⟩
instance : IsF Try.prog 83 := ⟨_, Try.func83, rfl, by decide⟩
instance : IsF Try.prog 135 := ⟨_, Try.func135, rfl, by decide⟩
instance : IsF Try.prog 13 := ⟨_, Try.func13, rfl, by decide⟩
instance : IsF Try.prog 67 := ⟨_, Try.func67, rfl, by decide⟩
instance : IsF Try.prog 75 := ⟨_, Try.func75, rfl, by decide⟩
instance : IsF Try.prog 66 := ⟨_, Try.func66, rfl, by decide⟩
instance : IsF Try.prog 81 := ⟨_, Try.func81, rfl, by decide⟩
instance : IsF Try.prog 138 := ⟨_, Try.func138, rfl, by decide⟩
instance : IsF Try.prog 133 := ⟨_, Try.func133, rfl, by decide⟩
instance : IsF Try.prog 136 := ⟨_, Try.func136, rfl, by decide⟩
instance : IsF Try.prog 137 := ⟨_, Try.func137, rfl, by decide⟩
instance : IsF Try.prog 149 := ⟨_, Try.func149, rfl, by decide⟩
instance : IsF Try.prog 191 := ⟨_, Try.func191, rfl, by decide⟩
instance : IsF Try.prog 206 := ⟨_, Try.func206, rfl, by decide⟩
instance : IsF Try.prog 54 := ⟨_, Try.func54, rfl, by decide⟩
instance : IsF Try.prog 116 := ⟨_, Try.func116, rfl, by decide⟩
instance : IsF Try.prog 99 := ⟨_, Try.func99, rfl, by decide⟩
instance : IsF Try.prog 32 := ⟨_, Try.func32, rfl, by decide⟩
instance : IsF Try.prog 33 := ⟨_, Try.func33, rfl, by decide⟩
instance : IsF Try.prog 86 := ⟨_, Try.func86, rfl, by decide⟩
instance : IsF Try.prog 139 := ⟨_, Try.func139, rfl, by decide⟩
instance : IsF Try.prog 182 := ⟨_, Try.func182, rfl, by decide⟩
instance : IsF Try.prog 87 := ⟨_, Try.func87, rfl, by decide⟩
instance : IsF Try.prog 142 := ⟨_, Try.func142, rfl, by decide⟩
instance : IsF Try.prog 88 := ⟨_, Try.func88, rfl, by decide⟩
instance : IsF Try.prog 140 := ⟨_, Try.func140, rfl, by decide⟩
instance : IsF Try.prog 47 := ⟨_, Try.func47, rfl, by decide⟩
instance : IsF Try.prog 48 := ⟨_, Try.func48, rfl, by decide⟩
instance : IsF Try.prog 106 := ⟨_, Try.func106, rfl, by decide⟩
instance : IsF Try.prog 105 := ⟨_, Try.func105, rfl, by decide⟩
instance : IsF Try.prog 73 := ⟨_, Try.func73, rfl, by decide⟩
instance : IsF Try.prog 74 := ⟨_, Try.func74, rfl, by decide⟩
instance : IsF Try.prog 132 := ⟨_, Try.func132, rfl, by decide⟩
instance : IsF Try.prog 181 := ⟨_, Try.func181, rfl, by decide⟩
instance : IsF Try.prog 123 := ⟨_, Try.func123, rfl, by decide⟩
instance : IsF Try.prog 177 := ⟨_, Try.func177, rfl, by decide⟩
instance : IsF Try.prog 202 := ⟨_, Try.func202, rfl, by decide⟩
instance : IsF Try.prog 100 := ⟨_, Try.func100, rfl, by decide⟩
instance : IsF Try.prog 141 := ⟨_, Try.func141, rfl, by decide⟩
instance : IsF Try.prog 185 := ⟨_, Try.func185, rfl, by decide⟩
instance : IsF Try.prog 28 := ⟨_, Try.func28, rfl, by decide⟩
instance : IsF Try.prog 146 := ⟨_, Try.func146, rfl, by decide⟩
instance : IsF Try.prog 147 := ⟨_, Try.func147, rfl, by decide⟩
instance : IsF Try.prog 84 := ⟨_, Try.func84, rfl, by decide⟩
instance : IsF Try.prog 145 := ⟨_, Try.func145, rfl, by decide⟩
instance : IsF Try.prog 187 := ⟨_, Try.func187, rfl, by decide⟩
instance : IsF Try.prog 85 := ⟨_, Try.func85, rfl, by decide⟩
instance : IsF Try.prog 58 := ⟨_, Try.func58, rfl, by decide⟩
instance : IsF Try.prog 59 := ⟨_, Try.func59, rfl, by decide⟩
instance : IsF Try.prog 179 := ⟨_, Try.func179, rfl, by decide⟩
instance : IsF Try.prog 124 := ⟨_, Try.func124, rfl, by decide⟩
instance : IsF Try.prog 125 := ⟨_, Try.func125, rfl, by decide⟩
instance : IsF Try.prog 178 := ⟨_, Try.func178, rfl, by decide⟩
instance : IsF Try.prog 126 := ⟨_, Try.func126, rfl, by decide⟩
instance : IsF Try.prog 122 := ⟨_, Try.func122, rfl, by decide⟩
instance : IsF Try.prog 41 := ⟨_, Try.func41, rfl, by decide⟩
instance : IsF Try.prog 188 := ⟨_, Try.func188, rfl, by decide⟩
instance : IsF Try.prog 148 := ⟨_, Try.func148, rfl, by decide⟩
instance : IsF Try.prog 112 := ⟨_, Try.func112, rfl, by decide⟩
instance : IsF Try.prog 150 := ⟨_, Try.func150, rfl, by decide⟩
instance : IsF Try.prog 197 := ⟨_, Try.func197, rfl, by decide⟩
instance : IsF Try.prog 209 := ⟨_, Try.func209, rfl, by decide⟩
instance : IsF Try.prog 189 := ⟨_, Try.func189, rfl, by decide⟩
instance : IsF Try.prog 205 := ⟨_, Try.func205, rfl, by decide⟩
instance : IsF Try.prog 190 := ⟨_, Try.func190, rfl, by decide⟩
instance : IsF Try.prog 192 := ⟨_, Try.func192, rfl, by decide⟩
instance : IsF Try.prog 34 := ⟨_, Try.func34, rfl, by decide⟩
instance : IsF Try.prog 184 := ⟨_, Try.func184, rfl, by decide⟩
instance : IsF Try.prog 89 := ⟨_, Try.func89, rfl, by decide⟩
instance : IsF Try.prog 43 := ⟨_, Try.func43, rfl, by decide⟩
instance : IsF Try.prog 101 := ⟨_, Try.func101, rfl, by decide⟩
instance : IsF Try.prog 4 := ⟨_, Try.func4, rfl, by decide⟩
instance : IsF Try.prog 3 := ⟨_, Try.func3, rfl, by decide⟩
instance : IsF Try.prog 20 := ⟨_, Try.func20, rfl, by decide⟩
instance : IsF Try.prog 21 := ⟨_, Try.func21, rfl, by decide⟩
instance : IsF Try.prog 5 := ⟨_, Try.func5, rfl, by decide⟩
instance : IsF Try.prog 9 := ⟨_, Try.func9, rfl, by decide⟩
instance : IsF Try.prog 10 := ⟨_, Try.func10, rfl, by decide⟩
instance : IsF Try.prog 6 := ⟨_, Try.func6, rfl, by decide⟩
instance : IsF Try.prog 11 := ⟨_, Try.func11, rfl, by decide⟩
instance : IsF Try.prog 7 := ⟨_, Try.func7, rfl, by decide⟩
instance : IsF Try.prog 45 := ⟨_, Try.func45, rfl, by decide⟩
instance : IsF Try.prog 8 := ⟨_, Try.func8, rfl, by decide⟩
instance : IsF Try.prog 52 := ⟨_, Try.func52, rfl, by decide⟩
instance : IsF Try.prog 53 := ⟨_, Try.func53, rfl, by decide⟩
instance : IsF Try.prog 104 := ⟨_, Try.func104, rfl, by decide⟩
instance : IsF Try.prog 103 := ⟨_, Try.func103, rfl, by decide⟩
instance : IsF Try.prog 24 := ⟨_, Try.func24, rfl, by decide⟩
instance : IsF Try.prog 18 := ⟨_, Try.func18, rfl, by decide⟩
instance : IsF Try.prog 51 := ⟨_, Try.func51, rfl, by decide⟩
instance : IsF Try.prog 38 := ⟨_, Try.func38, rfl, by decide⟩
instance : IsF Try.prog 37 := ⟨_, Try.func37, rfl, by decide⟩
instance : IsF Try.prog 46 := ⟨_, Try.func46, rfl, by decide⟩
instance : IsF Try.prog 102 := ⟨_, Try.func102, rfl, by decide⟩
instance : IsF Try.prog 62 := ⟨_, Try.func62, rfl, by decide⟩
instance : IsF Try.prog 14 := ⟨_, Try.func14, rfl, by decide⟩
instance : IsF Try.prog 15 := ⟨_, Try.func15, rfl, by decide⟩
instance : IsF Try.prog 16 := ⟨_, Try.func16, rfl, by decide⟩
instance : IsF Try.prog 31 := ⟨_, Try.func31, rfl, by decide⟩
instance : IsF Try.prog 30 := ⟨_, Try.func30, rfl, by decide⟩
instance : IsF Try.prog 22 := ⟨_, Try.func22, rfl, by decide⟩
instance : IsF Try.prog 23 := ⟨_, Try.func23, rfl, by decide⟩
instance : IsF Try.prog 39 := ⟨_, Try.func39, rfl, by decide⟩
instance : IsF Try.prog 29 := ⟨_, Try.func29, rfl, by decide⟩
instance : IsF Try.prog 55 := ⟨_, Try.func55, rfl, by decide⟩
instance : IsF Try.prog 42 := ⟨_, Try.func42, rfl, by decide⟩
instance : IsF Try.prog 60 := ⟨_, Try.func60, rfl, by decide⟩
instance : IsF Try.prog 17 := ⟨_, Try.func17, rfl, by decide⟩
instance : IsF Try.prog 69 := ⟨_, Try.func69, rfl, by decide⟩
instance : IsF Try.prog 35 := ⟨_, Try.func35, rfl, by decide⟩
instance : IsF Try.prog 40 := ⟨_, Try.func40, rfl, by decide⟩
instance : IsF Try.prog 50 := ⟨_, Try.func50, rfl, by decide⟩
instance : IsF Try.prog 109 := ⟨_, Try.func109, rfl, by decide⟩
instance : IsF Try.prog 110 := ⟨_, Try.func110, rfl, by decide⟩
instance : IsF Try.prog 165 := ⟨_, Try.func165, rfl, by decide⟩
instance : IsF Try.prog 63 := ⟨_, Try.func63, rfl, by decide⟩
instance : IsF Try.prog 56 := ⟨_, Try.func56, rfl, by decide⟩
instance : IsF Try.prog 121 := ⟨_, Try.func121, rfl, by decide⟩
instance : IsF Try.prog 127 := ⟨_, Try.func127, rfl, by decide⟩
instance : IsF Try.prog 57 := ⟨_, Try.func57, rfl, by decide⟩
instance : IsF Try.prog 180 := ⟨_, Try.func180, rfl, by decide⟩
instance : IsF Try.prog 203 := ⟨_, Try.func203, rfl, by decide⟩
instance : IsF Try.prog 119 := ⟨_, Try.func119, rfl, by decide⟩
instance : IsF Try.prog 176 := ⟨_, Try.func176, rfl, by decide⟩
end Go.Proofs.Ytadbkppgaekmpaa
/-
  Slices of slices that a call owns: the outer row holds slice headers, each inner row is owned by itself. Over any program, but for the instances at the end.
-/
set_option linter.unusedVariables false
set_option linter.unusedSimpArgs false
namespace Go.Proofs.Ytadbkppgaekmpaa
open Go.RowKit

/-- a value of one cell, as it is -/
structure Raw where
  v : Value
instance iNest1 : Rep Raw where
  sz := 1
  pos := by decide
  agg := false
  rd := fun _ _ cs x => cs = [x.v] ∧ x.v.oneCell' = true
  len := by intro w F cs x h; rw [h.1]; rfl
  one := by intro w F cs x h v hv; rw [h.1] at hv; simp at hv; subst hv; exact h.2
  szAgg := fun _ => rfl
  mono := fun h _ _ => h
instance iNest2 : Flat Raw := ⟨fun h => h⟩
theorem Rd.raw {w : World} {F : Nat → Prop} {v : Value} {x : Raw} (h : Rd w F v x) : v = x.v ∧ x.v.oneCell' = true := by
  obtain ⟨cs, e, h1, h2⟩ := h
  subst h1
  exact ⟨e, h2⟩
theorem Rd.mkRaw (w : World) (F : Nat → Prop) (v : Value) (h : v.oneCell' = true) : Rd w F v (⟨v⟩ : Raw) := ⟨[v], rfl, rfl, h⟩

section
variable {α : Type} [Rep α]
structure OwnN (w : World) (B : Nat) (eo ei : TypeId) (v : Value) (vs : List Raw) (xs : List (List α)) : Prop where
  out : Own w B eo Non v vs
  len : vs.length = xs.length
  inn : ∀ i (h : i < vs.length) (h' : i < xs.length), Own w B ei Non vs[i].v xs[i]
  dis : ∀ i j (hi : i < vs.length) (hj : j < vs.length), i ≠ j → ∀ g, vs[i].v.ownBlock = some g → vs[j].v.ownBlock = some g → False
  dio : ∀ i (hi : i < vs.length) g, vs[i].v.ownBlock = some g → v.ownBlock = some g → False
variable {w w' w'' : World} {B : Nat} {eo ei : TypeId} {v : Value} {vs : List Raw} {xs : List (List α)}
theorem OwnN.ext (h : OwnN w B eo ei v vs xs) (hE : Ext w w') : OwnN w' B eo ei v vs xs :=
  ⟨h.out.extN hE, h.len, fun i hi hi' => (h.inn i hi hi').extN hE, h.dis, h.dio⟩
theorem OwnN.low (h : OwnN w B eo ei v vs xs) {B' : Nat} (hB : B' ≤ B) : OwnN w B' eo ei v vs xs :=
  ⟨h.out.low hB, h.len, fun i hi hi' => (h.inn i hi hi').low hB, h.dis, h.dio⟩
/-- its blocks -/
def OwnN.blk (v : Value) (vs : List Raw) : Nat → Prop := fun b => v.ownBlock = some b ∨ ∃ x ∈ vs, x.v.ownBlock = some b
theorem OwnN.lt (h : OwnN w B eo ei v vs xs) : ∀ b, OwnN.blk v vs b → B ≤ b ∧ b < w.heap.size := by
  rintro b (hb | ⟨x, hx, hb⟩)
  · exact ⟨(h.out.lt b hb).1, (h.out.lt b hb).2.1⟩
  · obtain ⟨i, hi, rfl⟩ := List.mem_iff_getElem.1 hx
    have := (h.inn i hi (by rw [← h.len]; exact hi)).lt b hb
    exact ⟨this.1, this.2.1⟩
theorem OwnN.kept {row : Option Nat} (h : OwnN w B eo ei v vs xs) (hg : w.grownBy w' row) (hne : ∀ b, OwnN.blk v vs b → some b ≠ row) : OwnN w' B eo ei v vs xs :=
  ⟨h.out.keptN hg (fun g hg' => hne g (.inl hg')), h.len, fun i hi hi' => (h.inn i hi hi').keptN hg (fun g hg' => hne g (.inr ⟨_, List.getElem_mem hi, hg'⟩)), h.dis, h.dio⟩
theorem OwnN.nil : OwnN w B eo ei (.slice none 0 0) [] ([] : List (List α)) := ⟨Own.nil, rfl, fun i hi => absurd hi (by simp), fun i j hi => absurd hi (by simp), fun i hi => absurd hi (by simp)⟩
theorem OwnN.made {n : Nat} (h : Own w B eo Non v (List.replicate n (⟨.slice none 0 0⟩ : Raw))) : OwnN w B eo ei v (List.replicate n ⟨.slice none 0 0⟩) (List.replicate n ([] : List α)) := by
  refine ⟨h, by simp, fun i hi hi' => ?_, fun i j hi hj _ g hg => ?_, fun i hi g hg => ?_⟩
  · simp only [List.getElem_replicate]; exact Own.nil
  · simp only [List.getElem_replicate] at hg; simp [Value.ownBlock] at hg
  · simp only [List.getElem_replicate] at hg; simp [Value.ownBlock] at hg
/-- the outer row, behind a change of one inner row -/
theorem OwnN.mid (h : OwnN w B eo ei v vs xs) {i : Nat} (hi : i < vs.length) (hg : w.grownBy w' vs[i].v.ownBlock) : Own w' B eo Non v vs :=
  h.out.keptN hg (fun g hg' e => h.dio i hi g e.symm hg')
theorem OwnN.set (h : OwnN w B eo ei v vs xs) {i : Nat} (hi : i < vs.length) {v' : Value} {ys : List α} (hin : Own w' B ei Non v' ys) (hg : w.grownBy w' vs[i].v.ownBlock) (hnb : ∀ g, v'.ownBlock = some g → vs[i].v.ownBlock = some g ∨ w.heap.size ≤ g)
    (ho : Own w'' B eo Non v (vs.set i ⟨v'⟩)) (hg2 : w'.grownBy w'' v.ownBlock) : OwnN w'' B eo ei v (vs.set i ⟨v'⟩) (xs.set i ys) := by
  have hold : ∀ j (hj : j < vs.length), ∀ g, vs[j].v.ownBlock = some g → g < w.heap.size := fun j hj g hg => ((h.inn j hj (by rw [← h.len]; exact hj)).lt g hg).2.1
  have holdv : ∀ g, v.ownBlock = some g → g < w.heap.size := fun g hg => (h.out.lt g hg).2.1
  have hnv : ∀ g, v'.ownBlock = some g → v.ownBlock = some g → False := fun g h1 h2 => by
    rcases hnb g h1 with h3 | h3
    · exact h.dio i hi g h3 h2
    · have := holdv g h2; omega
  have hnj : ∀ j (hj : j < vs.length), j ≠ i → ∀ g, v'.ownBlock = some g → vs[j].v.ownBlock = some g → False := fun j hj hne g h1 h2 => by
    rcases hnb g h1 with h3 | h3
    · exact h.dis i j hi hj (Ne.symm hne) g h3 h2
    · have := hold j hj g h2; omega
  refine ⟨ho, by simp [h.len], fun j hj hj' => ?_, fun j k hj hk hne g h1 h2 => ?_, fun j hj g h1 h2 => ?_⟩
  · rw [List.length_set] at hj hj'
    rw [List.getElem_set, List.getElem_set]
    by_cases e : i = j
    · rw [if_pos e, if_pos e]
      exact hin.keptN hg2 (fun g hg e => hnv g hg e.symm)
    · rw [if_neg e, if_neg e]
      exact ((h.inn j hj hj').keptN hg (fun g hg' e2 => h.dis i j hi hj e g e2.symm hg')).keptN hg2 (fun g hg' e2 => h.dio j hj g hg' e2.symm)
  · rw [List.length_set] at hj hk
    rw [List.getElem_set] at h1 h2
    by_cases e1 : i = j
    · subst e1
      rw [if_pos rfl] at h1
      rw [if_neg hne] at h2
      exact hnj k hk (Ne.symm hne) g h1 h2
    · rw [if_neg e1] at h1
      by_cases e2 : i = k
      · rw [if_pos e2] at h2
        exact hnj j hj (Ne.symm e1) g h2 h1
      · rw [if_neg e2] at h2
        exact h.dis j k hj hk hne g h1 h2
  · rw [List.length_set] at hj
    rw [List.getElem_set] at h1
    by_cases e : i = j
    · rw [if_pos e] at h1; exact hnv g h1 h2
    · rw [if_neg e] at h1; exact h.dio j hj g h1 h2
/-- as one that is read -/
theorem OwnN.sl (h : OwnN w B eo ei v vs xs) : ∃ ao cap, v = .slice ao xs.length cap ∧ Sl w (OwnN.blk v vs) ao cap xs := by
  obtain ⟨ao, cap, e, hs⟩ := h.out.sl
  refine ⟨ao, cap, by rw [← h.len]; exact e, ⟨by rw [← h.len]; exact hs.le, hs.mx, hs.nil, fun i hi => ?_⟩⟩
  have hi' : i < vs.length := by rw [h.len]; exact hi
  obtain ⟨b, off, e1, hF, es, hc, hr⟩ := hs.el i hi'
  obtain ⟨rfl, h1⟩ := hr
  obtain ⟨io, ic, e2, hs2⟩ := (h.inn i hi' hi).sl
  refine ⟨b, off, e1, hF.elim (fun h => h.elim) .inl, [vs[i].v], hc, io, ic, by rw [e2], hs2.mono (fun _ _ => rfl) ?_⟩
  intro b hb
  exact hb.elim (fun h => h.elim) (fun hb => .inr ⟨_, List.getElem_mem hi', hb⟩)
theorem OwnN.rd (h : OwnN w B eo ei v vs xs) : Rd w (OwnN.blk v vs) v xs := by
  obtain ⟨ao, cap, rfl, hs⟩ := h.sl
  exact hs.rd
theorem OwnN.old (h : OwnN w B eo ei v vs xs) : Rd w (Old w) v xs := h.rd.mono (fun _ _ => rfl) fun b hb => (h.lt b hb).2
end
instance iNest3 : IsT Try.prog 22 Raw := IsT.of (by kernel_rfl) Try.underlying22 rfl
instance iNest4 : IsZ Try.prog 22 (⟨.slice none 0 0⟩ : Raw) 24 := IsZ.of (z := .slice none 0 0) (by kernel_rfl) (fun _ _ => ⟨rfl, rfl⟩)
end Go.Proofs.Ytadbkppgaekmpaa
/-
  Contracts of the generic functions of package slices, at the types where the program uses them.
-/
set_option linter.unusedVariables false
namespace Go.Proofs.Ytadbkppgaekmpaa
open Go.RowKit

/-- the place of the first one that is so; -1: none is -/
def idxOf {α : Type} (p : α → Bool) (xs : List α) : Int := match xs.findIdx? p with | some i => (i : Int) | none => -1
theorem idxOf_here {α : Type} {p : α → Bool} {xs : List α} {k : Nat} (hk : k < xs.length) (hn : ∀ j (h : j < xs.length), j < k → p xs[j] = false) (hp : p xs[k] = true) : idxOf p xs = k := by
  have : xs.findIdx? p = some k := by
    rw [List.findIdx?_eq_some_iff_getElem]
    exact ⟨hk, hp, fun j hj => by simp [hn j (by omega) hj]⟩
  simp [idxOf, this]
theorem idxOf_none {α : Type} {p : α → Bool} {xs : List α} (hn : ∀ j (h : j < xs.length), p xs[j] = false) : idxOf p xs = -1 := by
  have : xs.findIdx? p = none := by
    rw [List.findIdx?_eq_none_iff]
    intro x hx
    obtain ⟨j, hj, rfl⟩ := List.mem_iff_getElem.1 hx
    exact hn j hj
  simp [idxOf, this]
theorem idxOf_any {α : Type} (p : α → Bool) (xs : List α) : decide (idxOf p xs ≥ 0) = xs.any p := by
  unfold idxOf
  cases h : xs.findIdx? p with
  | none =>
    rw [List.findIdx?_eq_none_iff] at h
    have : xs.any p = false := by rw [List.any_eq_false]; intro x hx; simp [h x hx]
    rw [this]; rfl
  | some i =>
    obtain ⟨h1, h2, _⟩ := List.findIdx?_eq_some_iff_getElem.1 h
    have : xs.any p = true := List.any_eq_true.2 ⟨xs[i], List.getElem_mem _, h2⟩
    rw [this]; simp

theorem indexFunc_int (w0 : World) {ao : Option Addr} {cap : Nat} {xs : List Int} {fv : Value} (p : Int → Bool) (hs : Sl w0 (Old w0) ao cap xs)
    (hf : ∀ w, Ext w0 w → ∀ i (h : i < xs.length), FnV Try.prog fv [.int .i64 xs[i]] w fun v w' => v = .bool (p xs[i]) ∧ Ext w w') :
    Rt Try.prog 44 [.slice ao xs.length cap, fv].toArray w0 fun v w' => v = .int .i64 (idxOf p xs) ∧ Ext w0 w' := by
  have hm := hs.len63
  refine Rt.enter2 Try.func44 Try.ntmps44 rfl rfl ?_
  (repeat (first | (apply WL.pure; rfl; rfl; rfl) | (apply WL.nil) | (apply EX.thenN) | (apply CW.seq) | (apply CW.region) | (apply WL.lenS; rfl; rfl; rfl) | (apply CW.block)))
  refine CW.loop (S := Nat) (fun k => [(0, .slice ao xs.length cap), (1, fv), (7, .int .i64 xs.length), (8, .int .i64 k)])
    (fun k w => k ≤ xs.length ∧ Ext w0 w ∧ ∀ j (h : j < xs.length), j < k → p xs[j] = false) (fun k => xs.length - k) 0 (by repeat (first | exact trivial | refine ⟨rfl, ?_⟩)) ⟨by omega, Ext.refl _, by omega⟩ ?_
  rintro k w ⟨hk, hB, hn⟩
  (repeat (first | (apply WL.pure; rfl; rfl; rfl) | (apply WL.nil) | (apply EX.thenN) | (apply CW.seq) | (apply CW.region)))
  refine CW.cond rfl (fun h => ?_) (fun h => ?_)
  · simp at h
    (repeat (first | (apply WL.pure; rfl; rfl; rfl) | (apply WL.nil) | (apply EX.thenN) | (apply CW.seq) | (apply CW.region) | (apply CW.block) | (apply CW.skip)))
    refine WL.elemI rfl rfl rfl rfl rfl (hs.at hB) h rfl (fun _ => rfl) (fun q => ?_)
    refine WL.callF rfl rfl rfl rfl (hf w hB k h) ?_
    rintro v w' ⟨rfl, hB'⟩
    (repeat (first | (apply WL.nil) | (apply EX.thenN)))
    refine CW.cond rfl (fun h' => ?_) (fun h' => ?_)
    · (repeat (first | (apply WL.pure; rfl; rfl; rfl) | (apply WL.nil) | (apply EX.thenN) | (apply CW.seq) | (apply CW.region) | (apply CW.ret) | (apply EX.thenR) | (apply EX.inR)))
      refine EX.ret1 rfl rfl ⟨?_, hB.trans hB'⟩
      rw [idxOf_here h hn h']
    · (repeat (first | (apply WL.add; rfl; rfl; rfl; rfl; omega; omega) | (apply WL.pure; rfl; rfl; rfl) | (apply WL.nil) | (apply EX.thenN) | (apply CW.region) | (apply EX.inN) | (apply CW.skip)))
      refine EX.back (k + 1) (by repeat (first | exact trivial | refine ⟨rfl, ?_⟩)) ⟨h, hB.trans hB', ?_⟩ (by omega)
      intro j hj hlt
      by_cases e : j = k
      · subst e; exact h'
      · exact hn j hj (by omega)
  · simp at h
    (repeat (first | (apply WL.pure; rfl; rfl; rfl) | (apply WL.nil) | (apply EX.thenN) | (apply CW.seq) | (apply CW.region) | (apply CW.exit) | (apply EX.thenX) | (apply EX.inX) | (apply CW.ret)))
    refine EX.ret1 rfl rfl ⟨?_, hB⟩
    rw [idxOf_none (fun j hj => hn j hj (by omega))]

theorem containsFunc_int (w0 : World) {ao : Option Addr} {cap : Nat} {xs : List Int} {fv : Value} (p : Int → Bool) (hs : Sl w0 (Old w0) ao cap xs)
    (hf : ∀ w, Ext w0 w → ∀ i (h : i < xs.length), FnV Try.prog fv [.int .i64 xs[i]] w fun v w' => v = .bool (p xs[i]) ∧ Ext w w') :
    Rt Try.prog 120 [.slice ao xs.length cap, fv].toArray w0 fun v w' => v = .bool (xs.any p) ∧ Ext w0 w' := by
  refine Rt.enter2 Try.func120 Try.ntmps120 rfl rfl ?_
  (repeat (first | (apply WL.pure; rfl; rfl; rfl) | (apply WL.nil) | (apply EX.thenN) | (apply CW.seq) | (apply CW.region)))
  refine WL.call rfl rfl rfl (indexFunc_int w0 p hs hf) ?_
  rintro v w' ⟨rfl, hB⟩
  (repeat (first | (apply WL.pure; rfl; rfl; rfl) | (apply WL.nil) | (apply EX.thenN) | (apply CW.ret)))
  refine EX.ret1 rfl rfl ⟨?_, hB⟩
  rw [← idxOf_any]

/-- slices.Equal over lists whose elements are compared by one word -/
theorem equal_bool (w0 : World) {ao bo : Option Addr} {cap cap' : Nat} {xs ys : List Bool} (hs : Sl w0 (Old w0) ao cap xs) (ht : Sl w0 (Old w0) bo cap' ys) :
    Rt Try.prog 49 [.slice ao xs.length cap, .slice bo ys.length cap'].toArray w0 fun v w' => v = .bool (xs == ys) ∧ Ext w0 w' := by
  have hm := hs.len63
  refine Rt.enter2 Try.func49 Try.ntmps49 rfl rfl ?_
  (repeat (first | (apply WL.pure; rfl; rfl; rfl) | (apply WL.nil) | (apply EX.thenN) | (apply CW.seq) | (apply CW.region) | (apply WL.lenS; rfl; rfl; rfl)))
  refine CW.cond rfl (fun h => ?_) (fun h => ?_)
  · (repeat (first | (apply WL.pure; rfl; rfl; rfl) | (apply WL.nil) | (apply EX.thenN) | (apply CW.seq) | (apply CW.region) | (apply CW.ret) | (apply EX.thenR)))
    refine EX.ret1 rfl rfl ⟨?_, Ext.refl _⟩
    simp at h
    have : (xs == ys) = false := by rw [beq_eq_false_iff_ne]; intro e; exact h (by rw [e])
    rw [this]
  · simp at h
    (repeat (first | (apply WL.pure; rfl; rfl; rfl) | (apply WL.nil) | (apply EX.thenN) | (apply CW.seq) | (apply CW.region) | (apply WL.lenS; rfl; rfl; rfl) | (apply CW.block) | (apply CW.skip)))
    refine CW.loop (S := Nat) (fun k => [(0, .slice ao xs.length cap), (1, .slice bo ys.length cap'), (12, .int .i64 xs.length), (13, .int .i64 k)])
      (fun k w => k ≤ xs.length ∧ Ext w0 w ∧ ∀ j (h : j < xs.length) (h' : j < ys.length), j < k → xs[j] = ys[j]) (fun k => xs.length - k) 0 (by repeat (first | exact trivial | refine ⟨rfl, ?_⟩)) ⟨by omega, Ext.refl _, by omega⟩ ?_
    rintro k w ⟨hk, hB, hn⟩
    (repeat (first | (apply WL.pure; rfl; rfl; rfl) | (apply WL.nil) | (apply EX.thenN) | (apply CW.seq) | (apply CW.region)))
    refine CW.cond rfl (fun h1 => ?_) (fun h1 => ?_)
    · simp at h1
      (repeat (first | (apply WL.pure; rfl; rfl; rfl) | (apply QL.pure; rfl; rfl; rfl) | (apply WL.nil) | (apply EX.thenN) | (apply CW.seq) | (apply CW.region) | (apply CW.block) | (apply CW.skip) | (apply CW.draw; exact mixed; kernel_rfl)))
      refine QL.elemB rfl rfl rfl rfl rfl (fun _ h => h) (hs.up hB) h1 rfl (fun _ => rfl) (fun q => ?_)
      (repeat (apply QL.pure; rfl; rfl; rfl))
      refine QL.elemB rfl rfl rfl rfl rfl (fun _ h => h) (ht.up hB) (by omega) rfl (fun _ => rfl) (fun q' => ?_)
      (repeat (apply QL.neB; rfl; rfl; rfl; rfl))
      refine QL.nil (fun w1 hE => ?_)
      (repeat (apply EX.thenN))
      refine CW.cond rfl (fun h2 => ?_) (fun h2 => ?_)
      · (repeat (first | (apply WL.pure; rfl; rfl; rfl) | (apply WL.nil) | (apply EX.thenN) | (apply CW.seq) | (apply CW.region) | (apply CW.ret) | (apply EX.thenR) | (apply EX.inR)))
        refine EX.ret1 rfl rfl ⟨?_, hB.trans hE⟩
        simp at h2
        have : (xs == ys) = false := by rw [beq_eq_false_iff_ne]; intro e; subst e; exact h2 rfl
        rw [this]
      · simp at h2
        (repeat (first | (apply WL.add; rfl; rfl; rfl; rfl; omega; omega) | (apply WL.pure; rfl; rfl; rfl) | (apply WL.nil) | (apply EX.thenN) | (apply CW.region) | (apply EX.inN) | (apply CW.skip)))
        refine EX.back (k + 1) (by repeat (first | exact trivial | refine ⟨rfl, ?_⟩)) ⟨h1, hB.trans hE, ?_⟩ (by omega)
        intro j hj hj' hlt
        by_cases e : j = k
        · subst e; exact h2
        · exact hn j hj hj' (by omega)
    · simp at h1
      (repeat (first | (apply WL.pure; rfl; rfl; rfl) | (apply WL.nil) | (apply EX.thenN) | (apply CW.seq) | (apply CW.region) | (apply CW.exit) | (apply EX.thenX) | (apply EX.inX) | (apply CW.ret)))
      refine EX.ret1 rfl rfl ⟨?_, hB⟩
      have : (xs == ys) = true := by
        rw [beq_iff_eq]
        exact List.ext_getElem (by omega) fun j h1 h2 => hn j h1 h2 (by omega)
      rw [this]
end Go.Proofs.Ytadbkppgaekmpaa
/-
  Contracts of more of the generic functions of package slices, at the types where the program uses them.
-/
set_option linter.unusedVariables false
namespace Go.Proofs.Ytadbkppgaekmpaa
open Go.RowKit
theorem equal_int (w0 : World) {ao bo : Option Addr} {cap cap' : Nat} {xs ys : List Int} (hs : Sl w0 (Old w0) ao cap xs) (ht : Sl w0 (Old w0) bo cap' ys) :
    Rt Try.prog 36 [.slice ao xs.length cap, .slice bo ys.length cap'].toArray w0 fun v w' => v = .bool (xs == ys) ∧ Ext w0 w' := by
  have hm := hs.len63
  refine Rt.enter2 Try.func36 Try.ntmps36 rfl rfl ?_
  (repeat (first | (apply WL.pure; rfl; rfl; rfl) | (apply WL.nil) | (apply EX.thenN) | (apply CW.seq) | (apply CW.region) | (apply WL.lenS; rfl; rfl; rfl)))
  refine CW.cond rfl (fun h => ?_) (fun h => ?_)
  · (repeat (first | (apply WL.pure; rfl; rfl; rfl) | (apply WL.nil) | (apply EX.thenN) | (apply CW.seq) | (apply CW.region) | (apply CW.ret) | (apply EX.thenR)))
    refine EX.ret1 rfl rfl ⟨?_, Ext.refl _⟩
    simp at h
    have : (xs == ys) = false := by rw [beq_eq_false_iff_ne]; intro e; exact h (by rw [e])
    rw [this]
  · simp at h
    (repeat (first | (apply WL.pure; rfl; rfl; rfl) | (apply WL.nil) | (apply EX.thenN) | (apply CW.seq) | (apply CW.region) | (apply WL.lenS; rfl; rfl; rfl) | (apply CW.block) | (apply CW.skip)))
    refine CW.loop (S := Nat) (fun k => [(0, .slice ao xs.length cap), (1, .slice bo ys.length cap'), (12, .int .i64 xs.length), (13, .int .i64 k)])
      (fun k w => k ≤ xs.length ∧ Ext w0 w ∧ ∀ j (h : j < xs.length) (h' : j < ys.length), j < k → xs[j] = ys[j]) (fun k => xs.length - k) 0 (by repeat (first | exact trivial | refine ⟨rfl, ?_⟩)) ⟨by omega, Ext.refl _, by omega⟩ ?_
    rintro k w ⟨hk, hB, hn⟩
    (repeat (first | (apply WL.pure; rfl; rfl; rfl) | (apply WL.nil) | (apply EX.thenN) | (apply CW.seq) | (apply CW.region)))
    refine CW.cond rfl (fun h1 => ?_) (fun h1 => ?_)
    · simp at h1
      (repeat (first | (apply WL.pure; rfl; rfl; rfl) | (apply QL.pure; rfl; rfl; rfl) | (apply WL.nil) | (apply EX.thenN) | (apply CW.seq) | (apply CW.region) | (apply CW.block) | (apply CW.skip) | (apply CW.draw; exact mixed; kernel_rfl)))
      refine QL.elemI rfl rfl rfl rfl rfl (fun _ h => h) (hs.up hB) h1 rfl (fun _ => rfl) (fun q => ?_)
      (repeat (apply QL.pure; rfl; rfl; rfl))
      refine QL.elemI rfl rfl rfl rfl rfl (fun _ h => h) (ht.up hB) (by omega) rfl (fun _ => rfl) (fun q' => ?_)
      (repeat (apply QL.pure; rfl; rfl; rfl))
      refine QL.nil (fun w1 hE => ?_)
      (repeat (apply EX.thenN))
      refine CW.cond rfl (fun h2 => ?_) (fun h2 => ?_)
      · (repeat (first | (apply WL.pure; rfl; rfl; rfl) | (apply WL.nil) | (apply EX.thenN) | (apply CW.seq) | (apply CW.region) | (apply CW.ret) | (apply EX.thenR) | (apply EX.inR)))
        refine EX.ret1 rfl rfl ⟨?_, hB.trans hE⟩
        simp at h2
        have : (xs == ys) = false := by rw [beq_eq_false_iff_ne]; intro e; subst e; exact h2 rfl
        rw [this]
      · simp at h2
        (repeat (first | (apply WL.add; rfl; rfl; rfl; rfl; omega; omega) | (apply WL.pure; rfl; rfl; rfl) | (apply WL.nil) | (apply EX.thenN) | (apply CW.region) | (apply EX.inN) | (apply CW.skip)))
        refine EX.back (k + 1) (by repeat (first | exact trivial | refine ⟨rfl, ?_⟩)) ⟨h1, hB.trans hE, ?_⟩ (by omega)
        intro j hj hj' hlt
        by_cases e : j = k
        · subst e; exact h2
        · exact hn j hj hj' (by omega)
    · simp at h1
      (repeat (first | (apply WL.pure; rfl; rfl; rfl) | (apply WL.nil) | (apply EX.thenN) | (apply CW.seq) | (apply CW.region) | (apply CW.exit) | (apply EX.thenX) | (apply EX.inX) | (apply CW.ret)))
      refine EX.ret1 rfl rfl ⟨?_, hB⟩
      have : (xs == ys) = true := by
        rw [beq_iff_eq]
        exact List.ext_getElem (by omega) fun j h1 h2 => hn j h1 h2 (by omega)
      rw [this]
theorem equal_u64 (w0 : World) {ao bo : Option Addr} {cap cap' : Nat} {xs ys : List Nat} (hs : Sl w0 (Old w0) ao cap xs) (ht : Sl w0 (Old w0) bo cap' ys) :
    Rt Try.prog 71 [.slice ao xs.length cap, .slice bo ys.length cap'].toArray w0 fun v w' => v = .bool (xs == ys) ∧ Ext w0 w' := by
  have hm := hs.len63
  refine Rt.enter2 Try.func71 Try.ntmps71 rfl rfl ?_
  (repeat (first | (apply WL.pure; rfl; rfl; rfl) | (apply WL.nil) | (apply EX.thenN) | (apply CW.seq) | (apply CW.region) | (apply WL.lenS; rfl; rfl; rfl)))
  refine CW.cond rfl (fun h => ?_) (fun h => ?_)
  · (repeat (first | (apply WL.pure; rfl; rfl; rfl) | (apply WL.nil) | (apply EX.thenN) | (apply CW.seq) | (apply CW.region) | (apply CW.ret) | (apply EX.thenR)))
    refine EX.ret1 rfl rfl ⟨?_, Ext.refl _⟩
    simp at h
    have : (xs == ys) = false := by rw [beq_eq_false_iff_ne]; intro e; exact h (by rw [e])
    rw [this]
  · simp at h
    (repeat (first | (apply WL.pure; rfl; rfl; rfl) | (apply WL.nil) | (apply EX.thenN) | (apply CW.seq) | (apply CW.region) | (apply WL.lenS; rfl; rfl; rfl) | (apply CW.block) | (apply CW.skip)))
    refine CW.loop (S := Nat) (fun k => [(0, .slice ao xs.length cap), (1, .slice bo ys.length cap'), (12, .int .i64 xs.length), (13, .int .i64 k)])
      (fun k w => k ≤ xs.length ∧ Ext w0 w ∧ ∀ j (h : j < xs.length) (h' : j < ys.length), j < k → xs[j] = ys[j]) (fun k => xs.length - k) 0 (by repeat (first | exact trivial | refine ⟨rfl, ?_⟩)) ⟨by omega, Ext.refl _, by omega⟩ ?_
    rintro k w ⟨hk, hB, hn⟩
    (repeat (first | (apply WL.pure; rfl; rfl; rfl) | (apply WL.nil) | (apply EX.thenN) | (apply CW.seq) | (apply CW.region)))
    refine CW.cond rfl (fun h1 => ?_) (fun h1 => ?_)
    · simp at h1
      (repeat (first | (apply WL.pure; rfl; rfl; rfl) | (apply QL.pure; rfl; rfl; rfl) | (apply WL.nil) | (apply EX.thenN) | (apply CW.seq) | (apply CW.region) | (apply CW.block) | (apply CW.skip) | (apply CW.draw; exact mixed; kernel_rfl)))
      refine QL.elemN rfl rfl rfl rfl rfl (fun _ h => h) (hs.up hB) h1 (fun _ => rfl) (fun u q hu => ?_)
      obtain ⟨rfl, hu1⟩ := hu.u64
      (repeat (apply QL.pure; rfl; rfl; rfl))
      refine QL.elemN rfl rfl rfl rfl rfl (fun _ h => h) (ht.up hB) (show k < ys.length by omega) (fun _ => rfl) (fun u q' hu' => ?_)
      obtain ⟨rfl, hu2⟩ := hu'.u64
      (repeat (apply QL.pure; rfl; rfl; rfl))
      refine QL.nil (fun w1 hE => ?_)
      (repeat (apply EX.thenN))
      refine CW.cond rfl (fun h2 => ?_) (fun h2 => ?_)
      · (repeat (first | (apply WL.pure; rfl; rfl; rfl) | (apply WL.nil) | (apply EX.thenN) | (apply CW.seq) | (apply CW.region) | (apply CW.ret) | (apply EX.thenR) | (apply EX.inR)))
        refine EX.ret1 rfl rfl ⟨?_, hB.trans hE⟩
        simp [Int.ofNat_inj] at h2
        have : (xs == ys) = false := by rw [beq_eq_false_iff_ne]; intro e; subst e; exact h2 rfl
        rw [this]
      · simp [Int.ofNat_inj] at h2
        (repeat (first | (apply WL.add; rfl; rfl; rfl; rfl; omega; omega) | (apply WL.pure; rfl; rfl; rfl) | (apply WL.nil) | (apply EX.thenN) | (apply CW.region) | (apply EX.inN) | (apply CW.skip)))
        refine EX.back (k + 1) (by repeat (first | exact trivial | refine ⟨rfl, ?_⟩)) ⟨h1, hB.trans hE, ?_⟩ (by omega)
        intro j hj hj' hlt
        by_cases e : j = k
        · subst e; exact h2
        · exact hn j hj hj' (by omega)
    · simp at h1
      (repeat (first | (apply WL.pure; rfl; rfl; rfl) | (apply WL.nil) | (apply EX.thenN) | (apply CW.seq) | (apply CW.region) | (apply CW.exit) | (apply EX.thenX) | (apply EX.inX) | (apply CW.ret)))
      refine EX.ret1 rfl rfl ⟨?_, hB⟩
      have : (xs == ys) = true := by
        rw [beq_iff_eq]
        exact List.ext_getElem (by omega) fun j h1 h2 => hn j h1 h2 (by omega)
      rw [this]
theorem index_int (w0 : World) {ao : Option Addr} {cap : Nat} {xs : List Int} (x : Int) (hs : Sl w0 (Old w0) ao cap xs) :
    Rt Try.prog 129 [.slice ao xs.length cap, .int .i64 x].toArray w0 fun v w' => v = .int .i64 (idxOf (fun y => x == y) xs) ∧ Ext w0 w' := by
  have hm := hs.len63
  refine Rt.enter2 Try.func129 Try.ntmps129 rfl rfl ?_
  (repeat (first | (apply WL.pure; rfl; rfl; rfl) | (apply WL.nil) | (apply EX.thenN) | (apply CW.seq) | (apply CW.region) | (apply WL.lenS; rfl; rfl; rfl) | (apply CW.block)))
  refine CW.loop (S := Nat) (fun k => [(0, .slice ao xs.length cap), (1, .int .i64 x), (7, .int .i64 xs.length), (8, .int .i64 k)])
    (fun k w => k ≤ xs.length ∧ Ext w0 w ∧ ∀ j (h : j < xs.length), j < k → (x == xs[j]) = false) (fun k => xs.length - k) 0 (by repeat (first | exact trivial | refine ⟨rfl, ?_⟩)) ⟨by omega, Ext.refl _, by omega⟩ ?_
  rintro k w ⟨hk, hB, hn⟩
  (repeat (first | (apply WL.pure; rfl; rfl; rfl) | (apply WL.nil) | (apply EX.thenN) | (apply CW.seq) | (apply CW.region)))
  refine CW.cond rfl (fun h => ?_) (fun h => ?_)
  · simp at h
    (repeat (first | (apply WL.pure; rfl; rfl; rfl) | (apply WL.nil) | (apply EX.thenN) | (apply CW.seq) | (apply CW.region) | (apply CW.block) | (apply CW.skip)))
    refine WL.elemI rfl rfl rfl rfl rfl (hs.at hB) h rfl (fun _ => rfl) (fun q => ?_)
    (repeat (first | (apply WL.pure; rfl; rfl; rfl) | (apply WL.nil) | (apply EX.thenN)))
    refine CW.cond rfl (fun h' => ?_) (fun h' => ?_)
    · (repeat (first | (apply WL.pure; rfl; rfl; rfl) | (apply WL.nil) | (apply EX.thenN) | (apply CW.seq) | (apply CW.region) | (apply CW.ret) | (apply EX.thenR) | (apply EX.inR)))
      refine EX.ret1 rfl rfl ⟨?_, hB⟩
      rw [idxOf_here h hn h']
    · (repeat (first | (apply WL.add; rfl; rfl; rfl; rfl; omega; omega) | (apply WL.pure; rfl; rfl; rfl) | (apply WL.nil) | (apply EX.thenN) | (apply CW.region) | (apply EX.inN) | (apply CW.skip)))
      refine EX.back (k + 1) (by repeat (first | exact trivial | refine ⟨rfl, ?_⟩)) ⟨h, hB, ?_⟩ (by omega)
      intro j hj hlt
      by_cases e : j = k
      · subst e; exact h'
      · exact hn j hj (by omega)
  · simp at h
    (repeat (first | (apply WL.pure; rfl; rfl; rfl) | (apply WL.nil) | (apply EX.thenN) | (apply CW.seq) | (apply CW.region) | (apply CW.exit) | (apply EX.thenX) | (apply EX.inX) | (apply CW.ret)))
    refine EX.ret1 rfl rfl ⟨?_, hB⟩
    rw [idxOf_none (fun j hj => hn j hj (by omega))]
theorem contains_int (w0 : World) {ao : Option Addr} {cap : Nat} {xs : List Int} (x : Int) (hs : Sl w0 (Old w0) ao cap xs) :
    Rt Try.prog 65 [.slice ao xs.length cap, .int .i64 x].toArray w0 fun v w' => v = .bool (xs.contains x) ∧ Ext w0 w' := by
  refine Rt.enter2 Try.func65 Try.ntmps65 rfl rfl ?_
  (repeat (first | (apply WL.pure; rfl; rfl; rfl) | (apply WL.nil) | (apply EX.thenN) | (apply CW.seq) | (apply CW.region)))
  refine WL.call rfl rfl rfl (index_int w0 x hs) ?_
  rintro v w' ⟨rfl, hB⟩
  (repeat (first | (apply WL.pure; rfl; rfl; rfl) | (apply WL.nil) | (apply EX.thenN) | (apply CW.ret)))
  refine EX.ret1 rfl rfl ⟨?_, hB⟩
  rw [← List.any_beq, ← idxOf_any]
theorem equalFunc_ll (w0 : World) {ao bo : Option Addr} {cap cap' : Nat} {xs ys : List (List Int)} {fv : Value} (hs : Sl w0 (Old w0) ao cap xs) (ht : Sl w0 (Old w0) bo cap' ys)
    (hf : ∀ w, Ext w0 w → ∀ i (h : i < xs.length) (h' : i < ys.length) u u', Rd w (Old w0) u xs[i] → Rd w (Old w0) u' ys[i] → FnV Try.prog fv [u, u'] w fun v w' => v = .bool (xs[i] == ys[i]) ∧ Ext w w') :
    Rt Try.prog 70 [.slice ao xs.length cap, .slice bo ys.length cap', fv].toArray w0 fun v w' => v = .bool (xs == ys) ∧ Ext w0 w' := by
  have hm := hs.len63
  refine Rt.enter3 Try.func70 Try.ntmps70 rfl rfl ?_
  (repeat (first | (apply WL.pure; rfl; rfl; rfl) | (apply WL.nil) | (apply EX.thenN) | (apply CW.seq) | (apply CW.region) | (apply WL.lenS; rfl; rfl; rfl)))
  refine CW.cond rfl (fun h => ?_) (fun h => ?_)
  · (repeat (first | (apply WL.pure; rfl; rfl; rfl) | (apply WL.nil) | (apply EX.thenN) | (apply CW.seq) | (apply CW.region) | (apply CW.ret) | (apply EX.thenR)))
    refine EX.ret1 rfl rfl ⟨?_, Ext.refl _⟩
    simp at h
    have : (xs == ys) = false := by rw [beq_eq_false_iff_ne]; intro e; exact h (by rw [e])
    rw [this]
  · simp at h
    (repeat (first | (apply WL.pure; rfl; rfl; rfl) | (apply WL.nil) | (apply EX.thenN) | (apply CW.seq) | (apply CW.region) | (apply WL.lenS; rfl; rfl; rfl) | (apply CW.block) | (apply CW.skip)))
    refine CW.loop (S := Nat) (fun k => [(1, .slice bo ys.length cap'), (2, fv), (15, .slice ao xs.length cap), (16, .int .i64 xs.length), (17, .int .i64 k)])
      (fun k w => k ≤ xs.length ∧ Ext w0 w ∧ ∀ j (h : j < xs.length) (h' : j < ys.length), j < k → xs[j] = ys[j]) (fun k => xs.length - k) 0 (by repeat (first | exact trivial | refine ⟨rfl, ?_⟩)) ⟨by omega, Ext.refl _, by omega⟩ ?_
    rintro k w ⟨hk, hB, hn⟩
    (repeat (first | (apply WL.pure; rfl; rfl; rfl) | (apply WL.nil) | (apply EX.thenN) | (apply CW.seq) | (apply CW.region)))
    refine CW.cond rfl (fun h1 => ?_) (fun h1 => ?_)
    · simp at h1
      (repeat (first | (apply WL.pure; rfl; rfl; rfl) | (apply EX.thenN) | (apply CW.seq) | (apply CW.region) | (apply CW.block) | (apply CW.skip)))
      refine WL.elemN rfl rfl rfl rfl rfl (hs.at hB) h1 (fun _ => rfl) (fun u q hu => ?_)
      (repeat (first | (apply WL.pure; rfl; rfl; rfl) | (apply WL.nil) | (apply EX.thenN) | (apply CW.seq) | (apply CW.region)))
      refine WL.elemN rfl rfl rfl rfl rfl (ht.at hB) (show k < ys.length by omega) (fun _ => rfl) (fun u' q' hu' => ?_)
      (repeat (first | (apply WL.pure; rfl; rfl; rfl) | (apply WL.nil) | (apply EX.thenN) | (apply CW.seq) | (apply CW.region)))
      refine WL.callF rfl rfl rfl rfl (hf w hB k h1 (by omega) u u' hu hu') ?_
      rintro v w' ⟨rfl, hE⟩
      (repeat (first | (apply WL.pure; rfl; rfl; rfl) | (apply WL.nil) | (apply EX.thenN)))
      refine CW.cond rfl (fun h2 => ?_) (fun h2 => ?_)
      · (repeat (first | (apply WL.pure; rfl; rfl; rfl) | (apply WL.nil) | (apply EX.thenN) | (apply CW.seq) | (apply CW.region) | (apply CW.ret) | (apply EX.thenR) | (apply EX.inR)))
        refine EX.ret1 rfl rfl ⟨?_, hB.trans hE⟩
        simp at h2
        have : (xs == ys) = false := by rw [beq_eq_false_iff_ne]; intro e; subst e; exact h2 rfl
        rw [this]
      · simp at h2
        (repeat (first | (apply WL.add; rfl; rfl; rfl; rfl; omega; omega) | (apply WL.pure; rfl; rfl; rfl) | (apply WL.nil) | (apply EX.thenN) | (apply CW.region) | (apply EX.inN) | (apply CW.skip)))
        refine EX.back (k + 1) (by repeat (first | exact trivial | refine ⟨rfl, ?_⟩)) ⟨h1, hB.trans hE, ?_⟩ (by omega)
        intro j hj hj' hlt
        by_cases e : j = k
        · subst e; exact h2
        · exact hn j hj hj' (by omega)
    · simp at h1
      (repeat (first | (apply WL.pure; rfl; rfl; rfl) | (apply WL.nil) | (apply EX.thenN) | (apply CW.seq) | (apply CW.region) | (apply CW.exit) | (apply EX.thenX) | (apply EX.inX) | (apply CW.ret)))
      refine EX.ret1 rfl rfl ⟨?_, hB⟩
      have : (xs == ys) = true := by
        rw [beq_iff_eq]
        exact List.ext_getElem (by omega) fun j h1 h2 => hn j h1 h2 (by omega)
      rw [this]
theorem indexFunc_ll (w0 : World) {ao : Option Addr} {cap : Nat} {xs : List (List Int)} {fv : Value} (p : List Int → Bool) (hs : Sl w0 (Old w0) ao cap xs)
    (hf : ∀ w, Ext w0 w → ∀ i (h : i < xs.length) u, Rd w (Old w0) u xs[i] → FnV Try.prog fv [u] w fun v w' => v = .bool (p xs[i]) ∧ Ext w w') :
    Rt Try.prog 72 [.slice ao xs.length cap, fv].toArray w0 fun v w' => v = .int .i64 (idxOf p xs) ∧ Ext w0 w' := by
  have hm := hs.len63
  refine Rt.enter2 Try.func72 Try.ntmps72 rfl rfl ?_
  (repeat (first | (apply WL.pure; rfl; rfl; rfl) | (apply WL.nil) | (apply EX.thenN) | (apply CW.seq) | (apply CW.region) | (apply WL.lenS; rfl; rfl; rfl) | (apply CW.block)))
  refine CW.loop (S := Nat) (fun k => [(0, .slice ao xs.length cap), (1, fv), (7, .int .i64 xs.length), (8, .int .i64 k)])
    (fun k w => k ≤ xs.length ∧ Ext w0 w ∧ ∀ j (h : j < xs.length), j < k → p xs[j] = false) (fun k => xs.length - k) 0 (by repeat (first | exact trivial | refine ⟨rfl, ?_⟩)) ⟨by omega, Ext.refl _, by omega⟩ ?_
  rintro k w ⟨hk, hB, hn⟩
  (repeat (first | (apply WL.pure; rfl; rfl; rfl) | (apply WL.nil) | (apply EX.thenN) | (apply CW.seq) | (apply CW.region)))
  refine CW.cond rfl (fun h => ?_) (fun h => ?_)
  · simp at h
    (repeat (first | (apply WL.pure; rfl; rfl; rfl) | (apply WL.nil) | (apply EX.thenN) | (apply CW.seq) | (apply CW.region) | (apply CW.block) | (apply CW.skip)))
    refine WL.elemN rfl rfl rfl rfl rfl (hs.at hB) h (fun _ => rfl) (fun u q hu => ?_)
    refine WL.callF rfl rfl rfl rfl (hf w hB k h u hu) ?_
    rintro v w' ⟨rfl, hB'⟩
    (repeat (first | (apply WL.nil) | (apply EX.thenN)))
    refine CW.cond rfl (fun h' => ?_) (fun h' => ?_)
    · (repeat (first | (apply WL.pure; rfl; rfl; rfl) | (apply WL.nil) | (apply EX.thenN) | (apply CW.seq) | (apply CW.region) | (apply CW.ret) | (apply EX.thenR) | (apply EX.inR)))
      refine EX.ret1 rfl rfl ⟨?_, hB.trans hB'⟩
      rw [idxOf_here h hn h']
    · (repeat (first | (apply WL.add; rfl; rfl; rfl; rfl; omega; omega) | (apply WL.pure; rfl; rfl; rfl) | (apply WL.nil) | (apply EX.thenN) | (apply CW.region) | (apply EX.inN) | (apply CW.skip)))
      refine EX.back (k + 1) (by repeat (first | exact trivial | refine ⟨rfl, ?_⟩)) ⟨h, hB.trans hB', ?_⟩ (by omega)
      intro j hj hlt
      by_cases e : j = k
      · subst e; exact h'
      · exact hn j hj (by omega)
  · simp at h
    (repeat (first | (apply WL.pure; rfl; rfl; rfl) | (apply WL.nil) | (apply EX.thenN) | (apply CW.seq) | (apply CW.region) | (apply CW.exit) | (apply EX.thenX) | (apply EX.inX) | (apply CW.ret)))
    refine EX.ret1 rfl rfl ⟨?_, hB⟩
    rw [idxOf_none (fun j hj => hn j hj (by omega))]

theorem containsFunc_ll (w0 : World) {ao : Option Addr} {cap : Nat} {xs : List (List Int)} {fv : Value} (p : List Int → Bool) (hs : Sl w0 (Old w0) ao cap xs)
    (hf : ∀ w, Ext w0 w → ∀ i (h : i < xs.length) u, Rd w (Old w0) u xs[i] → FnV Try.prog fv [u] w fun v w' => v = .bool (p xs[i]) ∧ Ext w w') :
    Rt Try.prog 19 [.slice ao xs.length cap, fv].toArray w0 fun v w' => v = .bool (xs.any p) ∧ Ext w0 w' := by
  refine Rt.enter2 Try.func19 Try.ntmps19 rfl rfl ?_
  (repeat (first | (apply WL.pure; rfl; rfl; rfl) | (apply WL.nil) | (apply EX.thenN) | (apply CW.seq) | (apply CW.region)))
  refine WL.call rfl rfl rfl (indexFunc_ll w0 p hs hf) ?_
  rintro v w' ⟨rfl, hB⟩
  (repeat (first | (apply WL.pure; rfl; rfl; rfl) | (apply WL.nil) | (apply EX.thenN) | (apply CW.ret)))
  refine EX.ret1 rfl rfl ⟨?_, hB⟩
  rw [← idxOf_any]

theorem indexFunc_raw (w0 : World) {ao : Option Addr} {cap : Nat} {xs : List (Raw)} {fv : Value} (p : Raw → Bool) (hs : Sl w0 (Old w0) ao cap xs)
    (hf : ∀ w, Ext w0 w → ∀ i (h : i < xs.length) u, Rd w (Old w0) u xs[i] → FnV Try.prog fv [u] w fun v w' => v = .bool (p xs[i]) ∧ Ext w w') :
    Rt Try.prog 72 [.slice ao xs.length cap, fv].toArray w0 fun v w' => v = .int .i64 (idxOf p xs) ∧ Ext w0 w' := by
  have hm := hs.len63
  refine Rt.enter2 Try.func72 Try.ntmps72 rfl rfl ?_
  (repeat (first | (apply WL.pure; rfl; rfl; rfl) | (apply WL.nil) | (apply EX.thenN) | (apply CW.seq) | (apply CW.region) | (apply WL.lenS; rfl; rfl; rfl) | (apply CW.block)))
  refine CW.loop (S := Nat) (fun k => [(0, .slice ao xs.length cap), (1, fv), (7, .int .i64 xs.length), (8, .int .i64 k)])
    (fun k w => k ≤ xs.length ∧ Ext w0 w ∧ ∀ j (h : j < xs.length), j < k → p xs[j] = false) (fun k => xs.length - k) 0 (by repeat (first | exact trivial | refine ⟨rfl, ?_⟩)) ⟨by omega, Ext.refl _, by omega⟩ ?_
  rintro k w ⟨hk, hB, hn⟩
  (repeat (first | (apply WL.pure; rfl; rfl; rfl) | (apply WL.nil) | (apply EX.thenN) | (apply CW.seq) | (apply CW.region)))
  refine CW.cond rfl (fun h => ?_) (fun h => ?_)
  · simp at h
    (repeat (first | (apply WL.pure; rfl; rfl; rfl) | (apply WL.nil) | (apply EX.thenN) | (apply CW.seq) | (apply CW.region) | (apply CW.block) | (apply CW.skip)))
    refine WL.elemN rfl rfl rfl rfl rfl (hs.at hB) h (fun _ => rfl) (fun u q hu => ?_)
    refine WL.callF rfl rfl rfl rfl (hf w hB k h u hu) ?_
    rintro v w' ⟨rfl, hB'⟩
    (repeat (first | (apply WL.nil) | (apply EX.thenN)))
    refine CW.cond rfl (fun h' => ?_) (fun h' => ?_)
    · (repeat (first | (apply WL.pure; rfl; rfl; rfl) | (apply WL.nil) | (apply EX.thenN) | (apply CW.seq) | (apply CW.region) | (apply CW.ret) | (apply EX.thenR) | (apply EX.inR)))
      refine EX.ret1 rfl rfl ⟨?_, hB.trans hB'⟩
      rw [idxOf_here h hn h']
    · (repeat (first | (apply WL.add; rfl; rfl; rfl; rfl; omega; omega) | (apply WL.pure; rfl; rfl; rfl) | (apply WL.nil) | (apply EX.thenN) | (apply CW.region) | (apply EX.inN) | (apply CW.skip)))
      refine EX.back (k + 1) (by repeat (first | exact trivial | refine ⟨rfl, ?_⟩)) ⟨h, hB.trans hB', ?_⟩ (by omega)
      intro j hj hlt
      by_cases e : j = k
      · subst e; exact h'
      · exact hn j hj (by omega)
  · simp at h
    (repeat (first | (apply WL.pure; rfl; rfl; rfl) | (apply WL.nil) | (apply EX.thenN) | (apply CW.seq) | (apply CW.region) | (apply CW.exit) | (apply EX.thenX) | (apply EX.inX) | (apply CW.ret)))
    refine EX.ret1 rfl rfl ⟨?_, hB⟩
    rw [idxOf_none (fun j hj => hn j hj (by omega))]

theorem containsFunc_raw (w0 : World) {ao : Option Addr} {cap : Nat} {xs : List (Raw)} {fv : Value} (p : Raw → Bool) (hs : Sl w0 (Old w0) ao cap xs)
    (hf : ∀ w, Ext w0 w → ∀ i (h : i < xs.length) u, Rd w (Old w0) u xs[i] → FnV Try.prog fv [u] w fun v w' => v = .bool (p xs[i]) ∧ Ext w w') :
    Rt Try.prog 19 [.slice ao xs.length cap, fv].toArray w0 fun v w' => v = .bool (xs.any p) ∧ Ext w0 w' := by
  refine Rt.enter2 Try.func19 Try.ntmps19 rfl rfl ?_
  (repeat (first | (apply WL.pure; rfl; rfl; rfl) | (apply WL.nil) | (apply EX.thenN) | (apply CW.seq) | (apply CW.region)))
  refine WL.call rfl rfl rfl (indexFunc_raw w0 p hs hf) ?_
  rintro v w' ⟨rfl, hB⟩
  (repeat (first | (apply WL.pure; rfl; rfl; rfl) | (apply WL.nil) | (apply EX.thenN) | (apply CW.ret)))
  refine EX.ret1 rfl rfl ⟨?_, hB⟩
  rw [← idxOf_any]

end Go.Proofs.Ytadbkppgaekmpaa
