import Derived.Test.YtljcnopekjinjaaProg
import Derived.DeepKeys4
import Derived.Maps.Keyed
import Derived.Test.YtljcnopekjinjaaPtSoundEnds3
/-
  The types and functions of the program, as our walks ask for them.
-/
set_option linter.unusedVariables false
namespace Go.Proofs.Ytljcnopekjinjaa

theorem mixed : Try.prog.follows .mixedOrders = true := by kernel_rfl
instance : IsT Try.prog 3 Int := IsT.of (by kernel_rfl) Try.underlying3 rfl
instance : IsZ Try.prog 3 (0 : Int) 8 := IsZ.of (z := .int .i64 0) (by kernel_rfl) (fun _ _ => rfl)
instance : IsC Try.prog 3 1 false := IsC.of (by kernel_rfl) Try.underlying3 rfl
instance : IsZC Try.prog 3 [.int .i64 0] := IsZC.of (z := .int .i64 0) (by kernel_rfl) rfl
instance : IsT Try.prog 4 Bool := IsT.of (by kernel_rfl) Try.underlying4 rfl
instance : IsZ Try.prog 4 false 1 := IsZ.of (z := .bool false) (by kernel_rfl) (fun _ _ => rfl)
instance : IsC Try.prog 4 1 false := IsC.of (by kernel_rfl) Try.underlying4 rfl
instance : IsZC Try.prog 4 [.bool false] := IsZC.of (z := .bool false) (by kernel_rfl) rfl
instance : IsT Try.prog 86 Nat := IsT.of (by kernel_rfl) Try.underlying86 rfl
instance : IsZ Try.prog 86 (0 : Nat) 8 := IsZ.of (z := .int .u64 0) (by kernel_rfl) (fun _ _ => ⟨rfl, by decide⟩)
instance : IsC Try.prog 86 1 false := IsC.of (by kernel_rfl) Try.underlying86 rfl
instance : IsZC Try.prog 86 [.int .u64 0] := IsZC.of (z := .int .u64 0) (by kernel_rfl) rfl
instance : IsT Try.prog 9 ByteArray := IsT.of (by kernel_rfl) Try.underlying9 rfl
instance : IsC Try.prog 9 1 false := IsC.of (by kernel_rfl) Try.underlying9 rfl
instance : IsZC Try.prog 9 [.string ⟨#[]⟩] := IsZC.of (z := .string ⟨#[]⟩) (by kernel_rfl) rfl
instance : IsT Try.prog 27 Int := IsT.of (by kernel_rfl) Try.underlying27 rfl
instance : IsZ Try.prog 27 (0 : Int) 8 := IsZ.of (z := .int .i64 0) (by kernel_rfl) (fun _ _ => rfl)
instance : IsC Try.prog 27 1 false := IsC.of (by kernel_rfl) Try.underlying27 rfl
instance : IsZC Try.prog 27 [.int .i64 0] := IsZC.of (z := .int .i64 0) (by kernel_rfl) rfl
instance : IsB Try.prog 4 := ⟨Try.underlying4⟩
instance : IsI Try.prog 3 .i64 := ⟨Try.underlying3⟩
instance : IsI Try.prog 86 .u64 := ⟨Try.underlying86⟩
instance : IsI Try.prog 5 .u8 := ⟨Try.underlying5⟩
instance : IsT Try.prog 26 (List Int) := IsT.of (by kernel_rfl) Try.underlying26 rfl
instance : IsS Try.prog 26 3 := ⟨Try.underlying26⟩
instance : IsZ Try.prog 26 ([] : List Int) 24 := IsZ.of (z := .slice none 0 0) (by kernel_rfl) (fun _ _ => ⟨none, 0, rfl, by simp, by simp [maxLen], fun _ => rfl, fun i hi => absurd hi (by simp)⟩)
instance : IsC Try.prog 26 1 false := IsC.of (by kernel_rfl) Try.underlying26 rfl
instance : IsZC Try.prog 26 [.slice none 0 0] := IsZC.of (z := .slice none 0 0) (by kernel_rfl) rfl
instance : IsT Try.prog 32 (List (List Int)) := IsT.of (by kernel_rfl) Try.underlying32 rfl
instance : IsS Try.prog 32 26 := ⟨Try.underlying32⟩
instance : IsZ Try.prog 32 ([] : List (List Int)) 24 := IsZ.of (z := .slice none 0 0) (by kernel_rfl) (fun _ _ => ⟨none, 0, rfl, by simp, by simp [maxLen], fun _ => rfl, fun i hi => absurd hi (by simp)⟩)
instance : IsC Try.prog 32 1 false := IsC.of (by kernel_rfl) Try.underlying32 rfl
instance : IsZC Try.prog 32 [.slice none 0 0] := IsZC.of (z := .slice none 0 0) (by kernel_rfl) rfl
instance : IsT Try.prog 55 (List Bool) := IsT.of (by kernel_rfl) Try.underlying55 rfl
instance : IsS Try.prog 55 4 := ⟨Try.underlying55⟩
instance : IsZ Try.prog 55 ([] : List Bool) 24 := IsZ.of (z := .slice none 0 0) (by kernel_rfl) (fun _ _ => ⟨none, 0, rfl, by simp, by simp [maxLen], fun _ => rfl, fun i hi => absurd hi (by simp)⟩)
instance : IsC Try.prog 55 1 false := IsC.of (by kernel_rfl) Try.underlying55 rfl
instance : IsZC Try.prog 55 [.slice none 0 0] := IsZC.of (z := .slice none 0 0) (by kernel_rfl) rfl
instance : IsT Try.prog 81 (List Nat) := IsT.of (by kernel_rfl) Try.underlying81 rfl
instance : IsS Try.prog 81 86 := ⟨Try.underlying81⟩
instance : IsZ Try.prog 81 ([] : List Nat) 24 := IsZ.of (z := .slice none 0 0) (by kernel_rfl) (fun _ _ => ⟨none, 0, rfl, by simp, by simp [maxLen], fun _ => rfl, fun i hi => absurd hi (by simp)⟩)
instance : IsC Try.prog 81 1 false := IsC.of (by kernel_rfl) Try.underlying81 rfl
instance : IsZC Try.prog 81 [.slice none 0 0] := IsZC.of (z := .slice none 0 0) (by kernel_rfl) rfl
instance : IsT Try.prog 97 (List Int × List Int) := IsT.of (by kernel_rfl) Try.underlying97 rfl
instance : IsC Try.prog 97 2 true := IsC.of (by kernel_rfl) Try.underlying97 rfl
instance : IsFd Try.prog 97 0 0 := IsFd.of (by kernel_rfl)
instance : IsFd Try.prog 97 1 1 := IsFd.of (by kernel_rfl)
instance : IsZC Try.prog 97 [.slice none 0 0, .slice none 0 0] := IsZC.of (z := .agg #[.slice none 0 0, .slice none 0 0]) (by kernel_rfl) rfl
instance : IsBd Try.prog 97 [(0, 1), (1, 1)] := IsBd.of (by kernel_rfl)
instance : IsT Try.prog 83 (List Int × List (List Int) × List Nat × List (List Int)) := IsT.of (by kernel_rfl) Try.underlying83 rfl
instance : IsC Try.prog 83 4 true := IsC.of (by kernel_rfl) Try.underlying83 rfl
instance : IsFd Try.prog 83 0 0 := IsFd.of (by kernel_rfl)
instance : IsFd Try.prog 83 1 1 := IsFd.of (by kernel_rfl)
instance : IsFd Try.prog 83 2 2 := IsFd.of (by kernel_rfl)
instance : IsFd Try.prog 83 3 3 := IsFd.of (by kernel_rfl)
instance : IsZC Try.prog 83 [.slice none 0 0, .slice none 0 0, .slice none 0 0, .slice none 0 0] := IsZC.of (z := .agg #[.slice none 0 0, .slice none 0 0, .slice none 0 0, .slice none 0 0]) (by kernel_rfl) rfl
instance : IsBd Try.prog 83 [(0, 1), (1, 1), (2, 1), (3, 1)] := IsBd.of (by kernel_rfl)
instance : IsT Try.prog 67 (ByteArray × Int) := IsT.of (by kernel_rfl) Try.underlying67 rfl
instance : IsC Try.prog 67 2 true := IsC.of (by kernel_rfl) Try.underlying67 rfl
instance : IsFd Try.prog 67 0 0 := IsFd.of (by kernel_rfl)
instance : IsFd Try.prog 67 1 1 := IsFd.of (by kernel_rfl)
instance : IsZC Try.prog 67 [.string ⟨#[]⟩, .int .i64 0] := IsZC.of (z := .agg #[.string ⟨#[]⟩, .int .i64 0]) (by kernel_rfl) rfl
instance : IsBd Try.prog 67 [(0, 1), (1, 1)] := IsBd.of (by kernel_rfl)
instance : IsZ Try.prog 67 ((⟨#[]⟩, 0) : (ByteArray × Int)) 24 := IsZ.of (z := .agg #[.string ⟨#[]⟩, .int .i64 0]) (by kernel_rfl) (fun _ _ => rd_mk (c1 := [.string ⟨#[]⟩]) (c2 := [.int .i64 0]) ⟨rfl, by decide⟩ (rd_mkInt _ _ _))
instance : IsT Try.prog 70 (Int × Int) := IsT.of (by kernel_rfl) Try.underlying70 rfl
instance : IsC Try.prog 70 2 true := IsC.of (by kernel_rfl) Try.underlying70 rfl
instance : IsFd Try.prog 70 0 0 := IsFd.of (by kernel_rfl)
instance : IsFd Try.prog 70 1 1 := IsFd.of (by kernel_rfl)
instance : IsZC Try.prog 70 [.int .i64 0, .int .i64 0] := IsZC.of (z := .agg #[.int .i64 0, .int .i64 0]) (by kernel_rfl) rfl
instance : IsBd Try.prog 70 [(0, 1), (1, 1)] := IsBd.of (by kernel_rfl)
instance : IsZ Try.prog 70 ((0, 0) : (Int × Int)) 16 := IsZ.of (z := .agg #[.int .i64 0, .int .i64 0]) (by kernel_rfl) (fun _ _ => rd_mk (rd_mkInt _ _ _) (rd_mkInt _ _ _))
instance : IsT Try.prog 25 (List (ByteArray × Int) × List (Int × Int)) := IsT.of (by kernel_rfl) Try.underlying25 rfl
instance : IsC Try.prog 25 2 true := IsC.of (by kernel_rfl) Try.underlying25 rfl
instance : IsFd Try.prog 25 0 0 := IsFd.of (by kernel_rfl)
instance : IsFd Try.prog 25 1 1 := IsFd.of (by kernel_rfl)
instance : IsZC Try.prog 25 [.slice none 0 0, .slice none 0 0] := IsZC.of (z := .agg #[.slice none 0 0, .slice none 0 0]) (by kernel_rfl) rfl
instance : IsBd Try.prog 25 [(0, 1), (1, 1)] := IsBd.of (by kernel_rfl)
instance : IsT Try.prog 92 (Int × Int × Int) := IsT.of (by kernel_rfl) Try.underlying92 rfl
instance : IsC Try.prog 92 3 true := IsC.of (by kernel_rfl) Try.underlying92 rfl
instance : IsFd Try.prog 92 0 0 := IsFd.of (by kernel_rfl)
instance : IsFd Try.prog 92 1 1 := IsFd.of (by kernel_rfl)
instance : IsFd Try.prog 92 2 2 := IsFd.of (by kernel_rfl)
instance : IsZC Try.prog 92 [.int .i64 0, .int .i64 0, .int .i64 0] := IsZC.of (z := .agg #[.int .i64 0, .int .i64 0, .int .i64 0]) (by kernel_rfl) rfl
instance : IsBd Try.prog 92 [(0, 1), (1, 1), (2, 1)] := IsBd.of (by kernel_rfl)
instance : IsZ Try.prog 92 ((0, 0, 0) : (Int × Int × Int)) 24 := IsZ.of (z := .agg #[.int .i64 0, .int .i64 0, .int .i64 0]) (by kernel_rfl) (fun _ _ => rd_mk (rd_mkInt _ _ _) (rd_mk (rd_mkInt _ _ _) (rd_mkInt _ _ _)))
instance : IsT Try.prog 54 (Int × Int) := IsT.of (by kernel_rfl) Try.underlying54 rfl
instance : IsC Try.prog 54 2 true := IsC.of (by kernel_rfl) Try.underlying54 rfl
instance : IsFd Try.prog 54 0 0 := IsFd.of (by kernel_rfl)
instance : IsFd Try.prog 54 1 1 := IsFd.of (by kernel_rfl)
instance : IsZC Try.prog 54 [.int .i64 0, .int .i64 0] := IsZC.of (z := .agg #[.int .i64 0, .int .i64 0]) (by kernel_rfl) rfl
instance : IsBd Try.prog 54 [(0, 1), (1, 1)] := IsBd.of (by kernel_rfl)
instance : IsZ Try.prog 54 ((0, 0) : (Int × Int)) 16 := IsZ.of (z := .agg #[.int .i64 0, .int .i64 0]) (by kernel_rfl) (fun _ _ => rd_mk (rd_mkInt _ _ _) (rd_mkInt _ _ _))
instance : IsT Try.prog 48 (List (List Int) × List (List (Int × Int))) := IsT.of (by kernel_rfl) Try.underlying48 rfl
instance : IsC Try.prog 48 2 true := IsC.of (by kernel_rfl) Try.underlying48 rfl
instance : IsFd Try.prog 48 0 0 := IsFd.of (by kernel_rfl)
instance : IsFd Try.prog 48 1 1 := IsFd.of (by kernel_rfl)
instance : IsZC Try.prog 48 [.slice none 0 0, .slice none 0 0] := IsZC.of (z := .agg #[.slice none 0 0, .slice none 0 0]) (by kernel_rfl) rfl
instance : IsBd Try.prog 48 [(0, 1), (1, 1)] := IsBd.of (by kernel_rfl)
instance : IsT Try.prog 41 (List Int × Int × Int × List Int × List Int) := IsT.of (by kernel_rfl) Try.underlying41 rfl
instance : IsC Try.prog 41 5 true := IsC.of (by kernel_rfl) Try.underlying41 rfl
instance : IsFd Try.prog 41 0 0 := IsFd.of (by kernel_rfl)
instance : IsFd Try.prog 41 1 1 := IsFd.of (by kernel_rfl)
instance : IsFd Try.prog 41 2 2 := IsFd.of (by kernel_rfl)
instance : IsFd Try.prog 41 3 3 := IsFd.of (by kernel_rfl)
instance : IsFd Try.prog 41 4 4 := IsFd.of (by kernel_rfl)
instance : IsZC Try.prog 41 [.slice none 0 0, .int .i64 0, .int .i64 0, .slice none 0 0, .slice none 0 0] := IsZC.of (z := .agg #[.slice none 0 0, .int .i64 0, .int .i64 0, .slice none 0 0, .slice none 0 0]) (by kernel_rfl) rfl
instance : IsBd Try.prog 41 [(0, 1), (1, 1), (2, 1), (3, 1), (4, 1)] := IsBd.of (by kernel_rfl)
instance : IsT Try.prog 112 (Int × Int) := IsT.of (by kernel_rfl) Try.underlying112 rfl
instance : IsC Try.prog 112 2 true := IsC.of (by kernel_rfl) Try.underlying112 rfl
instance : IsFd Try.prog 112 0 0 := IsFd.of (by kernel_rfl)
instance : IsFd Try.prog 112 1 1 := IsFd.of (by kernel_rfl)
instance : IsZC Try.prog 112 [.int .i64 0, .int .i64 0] := IsZC.of (z := .agg #[.int .i64 0, .int .i64 0]) (by kernel_rfl) rfl
instance : IsBd Try.prog 112 [(0, 1), (1, 1)] := IsBd.of (by kernel_rfl)
instance : IsZ Try.prog 112 ((0, 0) : (Int × Int)) 16 := IsZ.of (z := .agg #[.int .i64 0, .int .i64 0]) (by kernel_rfl) (fun _ _ => rd_mk (rd_mkInt _ _ _) (rd_mkInt _ _ _))
instance : IsC Try.prog 193 7 true := IsC.of (by kernel_rfl) Try.underlying193 rfl
instance : IsFd Try.prog 193 0 0 := IsFd.of (by kernel_rfl)
instance : IsFd Try.prog 193 1 1 := IsFd.of (by kernel_rfl)
instance : IsFd Try.prog 193 2 2 := IsFd.of (by kernel_rfl)
instance : IsFd Try.prog 193 3 3 := IsFd.of (by kernel_rfl)
instance : IsFd Try.prog 193 4 4 := IsFd.of (by kernel_rfl)
instance : IsFd Try.prog 193 5 5 := IsFd.of (by kernel_rfl)
instance : IsFd Try.prog 193 6 6 := IsFd.of (by kernel_rfl)
instance : IsZC Try.prog 193 [.slice none 0 0, .slice none 0 0, .slice none 0 0, .slice none 0 0, .slice none 0 0, .int .i64 0, .int .i64 0] := IsZC.of (z := .agg #[.slice none 0 0, .slice none 0 0, .slice none 0 0, .slice none 0 0, .slice none 0 0, .int .i64 0, .int .i64 0]) (by kernel_rfl) rfl
instance : IsBd Try.prog 193 [(0, 1), (1, 1), (2, 1), (3, 1), (4, 1), (5, 1), (6, 1)] := IsBd.of (by kernel_rfl)
instance : IsT Try.prog 22 (List (ByteArray × Int)) := IsT.of (by kernel_rfl) Try.underlying22 rfl
instance : IsS Try.prog 22 67 := ⟨Try.underlying22⟩
instance : IsZ Try.prog 22 ([] : List (ByteArray × Int)) 24 := IsZ.of (z := .slice none 0 0) (by kernel_rfl) (fun _ _ => ⟨none, 0, rfl, by simp, by simp [maxLen], fun _ => rfl, fun i hi => absurd hi (by simp)⟩)
instance : IsC Try.prog 22 1 false := IsC.of (by kernel_rfl) Try.underlying22 rfl
instance : IsZC Try.prog 22 [.slice none 0 0] := IsZC.of (z := .slice none 0 0) (by kernel_rfl) rfl
instance : IsT Try.prog 23 (List (Int × Int)) := IsT.of (by kernel_rfl) Try.underlying23 rfl
instance : IsS Try.prog 23 70 := ⟨Try.underlying23⟩
instance : IsZ Try.prog 23 ([] : List (Int × Int)) 24 := IsZ.of (z := .slice none 0 0) (by kernel_rfl) (fun _ _ => ⟨none, 0, rfl, by simp, by simp [maxLen], fun _ => rfl, fun i hi => absurd hi (by simp)⟩)
instance : IsC Try.prog 23 1 false := IsC.of (by kernel_rfl) Try.underlying23 rfl
instance : IsZC Try.prog 23 [.slice none 0 0] := IsZC.of (z := .slice none 0 0) (by kernel_rfl) rfl
instance : IsT Try.prog 87 (List (Int × Int × Int)) := IsT.of (by kernel_rfl) Try.underlying87 rfl
instance : IsS Try.prog 87 92 := ⟨Try.underlying87⟩
instance : IsZ Try.prog 87 ([] : List (Int × Int × Int)) 24 := IsZ.of (z := .slice none 0 0) (by kernel_rfl) (fun _ _ => ⟨none, 0, rfl, by simp, by simp [maxLen], fun _ => rfl, fun i hi => absurd hi (by simp)⟩)
instance : IsC Try.prog 87 1 false := IsC.of (by kernel_rfl) Try.underlying87 rfl
instance : IsZC Try.prog 87 [.slice none 0 0] := IsZC.of (z := .slice none 0 0) (by kernel_rfl) rfl
instance : IsT Try.prog 52 (List (Int × Int)) := IsT.of (by kernel_rfl) Try.underlying52 rfl
instance : IsS Try.prog 52 54 := ⟨Try.underlying52⟩
instance : IsZ Try.prog 52 ([] : List (Int × Int)) 24 := IsZ.of (z := .slice none 0 0) (by kernel_rfl) (fun _ _ => ⟨none, 0, rfl, by simp, by simp [maxLen], fun _ => rfl, fun i hi => absurd hi (by simp)⟩)
instance : IsC Try.prog 52 1 false := IsC.of (by kernel_rfl) Try.underlying52 rfl
instance : IsZC Try.prog 52 [.slice none 0 0] := IsZC.of (z := .slice none 0 0) (by kernel_rfl) rfl
instance : IsT Try.prog 46 (List (List (Int × Int))) := IsT.of (by kernel_rfl) Try.underlying46 rfl
instance : IsS Try.prog 46 52 := ⟨Try.underlying46⟩
instance : IsZ Try.prog 46 ([] : List (List (Int × Int))) 24 := IsZ.of (z := .slice none 0 0) (by kernel_rfl) (fun _ _ => ⟨none, 0, rfl, by simp, by simp [maxLen], fun _ => rfl, fun i hi => absurd hi (by simp)⟩)
instance : IsC Try.prog 46 1 false := IsC.of (by kernel_rfl) Try.underlying46 rfl
instance : IsZC Try.prog 46 [.slice none 0 0] := IsZC.of (z := .slice none 0 0) (by kernel_rfl) rfl
instance : IsT Try.prog 110 (List (Int × Int)) := IsT.of (by kernel_rfl) Try.underlying110 rfl
instance : IsS Try.prog 110 112 := ⟨Try.underlying110⟩
instance : IsZ Try.prog 110 ([] : List (Int × Int)) 24 := IsZ.of (z := .slice none 0 0) (by kernel_rfl) (fun _ _ => ⟨none, 0, rfl, by simp, by simp [maxLen], fun _ => rfl, fun i hi => absurd hi (by simp)⟩)
instance : IsC Try.prog 110 1 false := IsC.of (by kernel_rfl) Try.underlying110 rfl
instance : IsZC Try.prog 110 [.slice none 0 0] := IsZC.of (z := .slice none 0 0) (by kernel_rfl) rfl
instance : IsT Try.prog 181 (List (List Bool)) := IsT.of (by kernel_rfl) Try.underlying181 rfl
instance : IsS Try.prog 181 55 := ⟨Try.underlying181⟩
instance : IsZ Try.prog 181 ([] : List (List Bool)) 24 := IsZ.of (z := .slice none 0 0) (by kernel_rfl) (fun _ _ => ⟨none, 0, rfl, by simp, by simp [maxLen], fun _ => rfl, fun i hi => absurd hi (by simp)⟩)
instance : IsC Try.prog 181 1 false := IsC.of (by kernel_rfl) Try.underlying181 rfl
instance : IsZC Try.prog 181 [.slice none 0 0] := IsZC.of (z := .slice none 0 0) (by kernel_rfl) rfl
instance : IsC Try.prog 191 1 false := IsC.of (by kernel_rfl) Try.underlying191 rfl
instance : IsC Try.prog 106 1 false := IsC.of (by kernel_rfl) Try.underlying106 rfl
instance : IsF Try.prog 124 := ⟨_, Try.func124, rfl, by decide⟩
instance : IsF Try.prog 119 := ⟨_, Try.func119, rfl, by decide⟩
instance : IsF Try.prog 129 := ⟨_, Try.func129, rfl, by decide⟩
instance : IsF Try.prog 115 := ⟨_, Try.func115, rfl, by decide⟩
instance : IsF Try.prog 123 := ⟨_, Try.func123, rfl, by decide⟩
instance : IsF Try.prog 122 := ⟨_, Try.func122, rfl, by decide⟩
instance : IsF Try.prog 121 := ⟨_, Try.func121, rfl, by decide⟩
instance : IsF Try.prog 130 := ⟨_, Try.func130, rfl, by decide⟩
instance : IsF Try.prog 102 := ⟨_, Try.func102, rfl, by decide⟩
instance : IsF Try.prog 116 := ⟨_, Try.func116, rfl, by decide⟩
instance : IsF Try.prog 117 := ⟨_, Try.func117, rfl, by decide⟩
instance : IsF Try.prog 120 := ⟨_, Try.func120, rfl, by decide⟩
instance : IsF Try.prog 118 := ⟨_, Try.func118, rfl, by decide⟩
instance : IsF Try.prog 128 := ⟨_, Try.func128, rfl, by decide⟩
instance : IsF Try.prog 72 := ⟨_, Try.func72, rfl, by decide⟩
instance : IsF Try.prog 73 := ⟨_, Try.func73, rfl, by decide⟩
instance : IsF Try.prog 71 := ⟨_, Try.func71, rfl, by decide⟩
instance : IsF Try.prog 70 := ⟨_, Try.func70, rfl, by decide⟩
instance : IsF Try.prog 69 := ⟨_, Try.func69, rfl, by decide⟩
instance : IsF Try.prog 136 := ⟨_, Try.func136, rfl, by decide⟩
instance : IsF Try.prog 137 := ⟨_, Try.func137, rfl, by decide⟩
instance : IsF Try.prog 134 := ⟨_, Try.func134, rfl, by decide⟩
instance : IsF Try.prog 85 := ⟨_, Try.func85, rfl, by decide⟩
instance : IsF Try.prog 84 := ⟨_, Try.func84, rfl, by decide⟩
instance : IsF Try.prog 106 := ⟨_, Try.func106, rfl, by decide⟩
instance : IsF Try.prog 44 := ⟨_, Try.func44, rfl, by decide⟩
instance : IsF Try.prog 15 := ⟨_, Try.func15, rfl, by decide⟩
instance : IsF Try.prog 13 := ⟨_, Try.func13, rfl, by decide⟩
instance : IsF Try.prog 111 := ⟨_, Try.func111, rfl, by decide⟩
instance : IsF Try.prog 99 := ⟨_, Try.func99, rfl, by decide⟩
instance : IsF Try.prog 82 := ⟨_, Try.func82, rfl, by decide⟩
instance : IsF Try.prog 66 := ⟨_, Try.func66, rfl, by decide⟩
instance : IsF Try.prog 78 := ⟨_, Try.func78, rfl, by decide⟩
instance : IsF Try.prog 11 := ⟨_, Try.func11, rfl, by decide⟩
instance : IsF Try.prog 20 := ⟨_, Try.func20, rfl, by decide⟩
instance : IsF Try.prog 40 := ⟨_, Try.func40, rfl, by decide⟩
instance : IsF Try.prog 125 := ⟨_, Try.func125, rfl, by decide⟩
instance : IsF Try.prog 88 := ⟨_, Try.func88, rfl, by decide⟩
instance : IsF Try.prog 105 := ⟨_, Try.func105, rfl, by decide⟩
instance : IsF Try.prog 48 := ⟨_, Try.func48, rfl, by decide⟩
instance : IsF Try.prog 113 := ⟨_, Try.func113, rfl, by decide⟩
instance : IsF Try.prog 126 := ⟨_, Try.func126, rfl, by decide⟩
instance : IsF Try.prog 131 := ⟨_, Try.func131, rfl, by decide⟩
instance : IsF Try.prog 49 := ⟨_, Try.func49, rfl, by decide⟩
instance : IsF Try.prog 25 := ⟨_, Try.func25, rfl, by decide⟩
instance : IsF Try.prog 30 := ⟨_, Try.func30, rfl, by decide⟩
instance : IsF Try.prog 12 := ⟨_, Try.func12, rfl, by decide⟩
instance : IsF Try.prog 59 := ⟨_, Try.func59, rfl, by decide⟩
instance : IsF Try.prog 92 := ⟨_, Try.func92, rfl, by decide⟩
instance : IsF Try.prog 109 := ⟨_, Try.func109, rfl, by decide⟩
instance : IsF Try.prog 60 := ⟨_, Try.func60, rfl, by decide⟩
instance : IsF Try.prog 95 := ⟨_, Try.func95, rfl, by decide⟩
instance : IsF Try.prog 63 := ⟨_, Try.func63, rfl, by decide⟩
instance : IsF Try.prog 93 := ⟨_, Try.func93, rfl, by decide⟩
instance : IsF Try.prog 79 := ⟨_, Try.func79, rfl, by decide⟩
instance : IsF Try.prog 101 := ⟨_, Try.func101, rfl, by decide⟩
instance : IsF Try.prog 100 := ⟨_, Try.func100, rfl, by decide⟩
instance : IsF Try.prog 74 := ⟨_, Try.func74, rfl, by decide⟩
instance : IsF Try.prog 94 := ⟨_, Try.func94, rfl, by decide⟩
instance : IsF Try.prog 110 := ⟨_, Try.func110, rfl, by decide⟩
instance : IsF Try.prog 26 := ⟨_, Try.func26, rfl, by decide⟩
instance : IsF Try.prog 97 := ⟨_, Try.func97, rfl, by decide⟩
instance : IsF Try.prog 98 := ⟨_, Try.func98, rfl, by decide⟩
instance : IsF Try.prog 61 := ⟨_, Try.func61, rfl, by decide⟩
instance : IsF Try.prog 96 := ⟨_, Try.func96, rfl, by decide⟩
instance : IsF Try.prog 112 := ⟨_, Try.func112, rfl, by decide⟩
instance : IsF Try.prog 62 := ⟨_, Try.func62, rfl, by decide⟩
instance : IsF Try.prog 38 := ⟨_, Try.func38, rfl, by decide⟩
instance : IsF Try.prog 56 := ⟨_, Try.func56, rfl, by decide⟩
instance : IsF Try.prog 22 := ⟨_, Try.func22, rfl, by decide⟩
instance : IsF Try.prog 132 := ⟨_, Try.func132, rfl, by decide⟩
instance : IsF Try.prog 51 := ⟨_, Try.func51, rfl, by decide⟩
instance : IsF Try.prog 89 := ⟨_, Try.func89, rfl, by decide⟩
instance : IsF Try.prog 108 := ⟨_, Try.func108, rfl, by decide⟩
instance : IsF Try.prog 57 := ⟨_, Try.func57, rfl, by decide⟩
instance : IsF Try.prog 91 := ⟨_, Try.func91, rfl, by decide⟩
instance : IsF Try.prog 58 := ⟨_, Try.func58, rfl, by decide⟩
instance : IsF Try.prog 87 := ⟨_, Try.func87, rfl, by decide⟩
instance : IsF Try.prog 17 := ⟨_, Try.func17, rfl, by decide⟩
instance : IsF Try.prog 90 := ⟨_, Try.func90, rfl, by decide⟩
instance : IsF Try.prog 53 := ⟨_, Try.func53, rfl, by decide⟩
instance : IsF Try.prog 50 := ⟨_, Try.func50, rfl, by decide⟩
instance : IsF Try.prog 86 := ⟨_, Try.func86, rfl, by decide⟩
instance : IsF Try.prog 54 := ⟨_, Try.func54, rfl, by decide⟩
instance : IsF Try.prog 52 := ⟨_, Try.func52, rfl, by decide⟩
instance : IsF Try.prog 19 := ⟨_, Try.func19, rfl, by decide⟩
instance : IsF Try.prog 9 := ⟨_, Try.func9, rfl, by decide⟩
instance : IsF Try.prog 107 := ⟨_, Try.func107, rfl, by decide⟩
instance : IsF Try.prog 47 := ⟨_, Try.func47, rfl, by decide⟩
instance : IsF Try.prog 39 := ⟨_, Try.func39, rfl, by decide⟩
instance : IsF Try.prog 75 := ⟨_, Try.func75, rfl, by decide⟩
instance : IsF Try.prog 34 := ⟨_, Try.func34, rfl, by decide⟩
instance : IsF Try.prog 29 := ⟨_, Try.func29, rfl, by decide⟩
instance : IsF Try.prog 35 := ⟨_, Try.func35, rfl, by decide⟩
instance : IsF Try.prog 10 := ⟨_, Try.func10, rfl, by decide⟩
instance : IsF Try.prog 23 := ⟨_, Try.func23, rfl, by decide⟩
instance : IsF Try.prog 76 := ⟨_, Try.func76, rfl, by decide⟩
instance : IsF Try.prog 18 := ⟨_, Try.func18, rfl, by decide⟩
instance : IsF Try.prog 55 := ⟨_, Try.func55, rfl, by decide⟩
instance : IsF Try.prog 80 := ⟨_, Try.func80, rfl, by decide⟩
instance : IsF Try.prog 103 := ⟨_, Try.func103, rfl, by decide⟩
instance : IsF Try.prog 114 := ⟨_, Try.func114, rfl, by decide⟩
instance : IsF Try.prog 45 := ⟨_, Try.func45, rfl, by decide⟩
instance : IsF Try.prog 83 := ⟨_, Try.func83, rfl, by decide⟩
instance : IsF Try.prog 127 := ⟨_, Try.func127, rfl, by decide⟩
instance : IsF Try.prog 133 := ⟨_, Try.func133, rfl, by decide⟩
instance : IsF Try.prog 135 := ⟨_, Try.func135, rfl, by decide⟩
instance : IsF Try.prog 81 := ⟨_, Try.func81, rfl, by decide⟩
instance : IsF Try.prog 104 := ⟨_, Try.func104, rfl, by decide⟩
end Go.Proofs.Ytljcnopekjinjaa
/-
  Slices of slices that a call owns: the outer row holds slice headers, each inner row is owned by itself. Over any program, but for the instances at the end.
-/
set_option linter.unusedVariables false
set_option linter.unusedSimpArgs false
namespace Go.Proofs.Ytljcnopekjinjaa
open Go.RowKit

/-- a value of one cell, as it is -/
structure Raw where
  v : Value
instance iNest1 : Rep Raw where
  sz := 1
  pos := by decide
  agg := false
  rd := fun _ _ cs x => cs = [x.v] ∧ x.v.oneCell' = true
  len := by intro w F cs x h; rw [h.1]; rfl
  one := by intro w F cs x h v hv; rw [h.1] at hv; simp at hv; subst hv; exact h.2
  szAgg := fun _ => rfl
  mono := fun h _ _ => h
instance iNest2 : Flat Raw := ⟨fun h => h⟩
theorem Rd.raw {w : World} {F : Nat → Prop} {v : Value} {x : Raw} (h : Rd w F v x) : v = x.v ∧ x.v.oneCell' = true := by
  obtain ⟨cs, e, h1, h2⟩ := h
  subst h1
  exact ⟨e, h2⟩
theorem Rd.mkRaw (w : World) (F : Nat → Prop) (v : Value) (h : v.oneCell' = true) : Rd w F v (⟨v⟩ : Raw) := ⟨[v], rfl, rfl, h⟩

section
variable {α : Type} [Rep α]
structure OwnN (w : World) (B : Nat) (eo ei : TypeId) (v : Value) (vs : List Raw) (xs : List (List α)) : Prop where
  out : Own w B eo Non v vs
  len : vs.length = xs.length
  inn : ∀ i (h : i < vs.length) (h' : i < xs.length), Own w B ei Non vs[i].v xs[i]
  dis : ∀ i j (hi : i < vs.length) (hj : j < vs.length), i ≠ j → ∀ g, vs[i].v.ownBlock = some g → vs[j].v.ownBlock = some g → False
  dio : ∀ i (hi : i < vs.length) g, vs[i].v.ownBlock = some g → v.ownBlock = some g → False
variable {w w' w'' : World} {B : Nat} {eo ei : TypeId} {v : Value} {vs : List Raw} {xs : List (List α)}
theorem OwnN.ext (h : OwnN w B eo ei v vs xs) (hE : Ext w w') : OwnN w' B eo ei v vs xs :=
  ⟨h.out.extN hE, h.len, fun i hi hi' => (h.inn i hi hi').extN hE, h.dis, h.dio⟩
theorem OwnN.low (h : OwnN w B eo ei v vs xs) {B' : Nat} (hB : B' ≤ B) : OwnN w B' eo ei v vs xs :=
  ⟨h.out.low hB, h.len, fun i hi hi' => (h.inn i hi hi').low hB, h.dis, h.dio⟩
/-- its blocks -/
def OwnN.blk (v : Value) (vs : List Raw) : Nat → Prop := fun b => v.ownBlock = some b ∨ ∃ x ∈ vs, x.v.ownBlock = some b
theorem OwnN.lt (h : OwnN w B eo ei v vs xs) : ∀ b, OwnN.blk v vs b → B ≤ b ∧ b < w.heap.size := by
  rintro b (hb | ⟨x, hx, hb⟩)
  · exact ⟨(h.out.lt b hb).1, (h.out.lt b hb).2.1⟩
  · obtain ⟨i, hi, rfl⟩ := List.mem_iff_getElem.1 hx
    have := (h.inn i hi (by rw [← h.len]; exact hi)).lt b hb
    exact ⟨this.1, this.2.1⟩
theorem OwnN.kept {row : Option Nat} (h : OwnN w B eo ei v vs xs) (hg : w.grownBy w' row) (hne : ∀ b, OwnN.blk v vs b → some b ≠ row) : OwnN w' B eo ei v vs xs :=
  ⟨h.out.keptN hg (fun g hg' => hne g (.inl hg')), h.len, fun i hi hi' => (h.inn i hi hi').keptN hg (fun g hg' => hne g (.inr ⟨_, List.getElem_mem hi, hg'⟩)), h.dis, h.dio⟩
theorem OwnN.nil : OwnN w B eo ei (.slice none 0 0) [] ([] : List (List α)) := ⟨Own.nil, rfl, fun i hi => absurd hi (by simp), fun i j hi => absurd hi (by simp), fun i hi => absurd hi (by simp)⟩
theorem OwnN.made {n : Nat} (h : Own w B eo Non v (List.replicate n (⟨.slice none 0 0⟩ : Raw))) : OwnN w B eo ei v (List.replicate n ⟨.slice none 0 0⟩) (List.replicate n ([] : List α)) := by
  refine ⟨h, by simp, fun i hi hi' => ?_, fun i j hi hj _ g hg => ?_, fun i hi g hg => ?_⟩
  · simp only [List.getElem_replicate]; exact Own.nil
  · simp only [List.getElem_replicate] at hg; simp [Value.ownBlock] at hg
  · simp only [List.getElem_replicate] at hg; simp [Value.ownBlock] at hg
/-- the outer row, behind a change of one inner row -/
theorem OwnN.mid (h : OwnN w B eo ei v vs xs) {i : Nat} (hi : i < vs.length) (hg : w.grownBy w' vs[i].v.ownBlock) : Own w' B eo Non v vs :=
  h.out.keptN hg (fun g hg' e => h.dio i hi g e.symm hg')
theorem OwnN.set (h : OwnN w B eo ei v vs xs) {i : Nat} (hi : i < vs.length) {v' : Value} {ys : List α} (hin : Own w' B ei Non v' ys) (hg : w.grownBy w' vs[i].v.ownBlock) (hnb : ∀ g, v'.ownBlock = some g → vs[i].v.ownBlock = some g ∨ w.heap.size ≤ g)
    (ho : Own w'' B eo Non v (vs.set i ⟨v'⟩)) (hg2 : w'.grownBy w'' v.ownBlock) : OwnN w'' B eo ei v (vs.set i ⟨v'⟩) (xs.set i ys) := by
  have hold : ∀ j (hj : j < vs.length), ∀ g, vs[j].v.ownBlock = some g → g < w.heap.size := fun j hj g hg => ((h.inn j hj (by rw [← h.len]; exact hj)).lt g hg).2.1
  have holdv : ∀ g, v.ownBlock = some g → g < w.heap.size := fun g hg => (h.out.lt g hg).2.1
  have hnv : ∀ g, v'.ownBlock = some g → v.ownBlock = some g → False := fun g h1 h2 => by
    rcases hnb g h1 with h3 | h3
    · exact h.dio i hi g h3 h2
    · have := holdv g h2; omega
  have hnj : ∀ j (hj : j < vs.length), j ≠ i → ∀ g, v'.ownBlock = some g → vs[j].v.ownBlock = some g → False := fun j hj hne g h1 h2 => by
    rcases hnb g h1 with h3 | h3
    · exact h.dis i j hi hj (Ne.symm hne) g h3 h2
    · have := hold j hj g h2; omega
  refine ⟨ho, by simp [h.len], fun j hj hj' => ?_, fun j k hj hk hne g h1 h2 => ?_, fun j hj g h1 h2 => ?_⟩
  · rw [List.length_set] at hj hj'
    rw [List.getElem_set, List.getElem_set]
    by_cases e : i = j
    · rw [if_pos e, if_pos e]
      exact hin.keptN hg2 (fun g hg e => hnv g hg e.symm)
    · rw [if_neg e, if_neg e]
      exact ((h.inn j hj hj').keptN hg (fun g hg' e2 => h.dis i j hi hj e g e2.symm hg')).keptN hg2 (fun g hg' e2 => h.dio j hj g hg' e2.symm)
  · rw [List.length_set] at hj hk
    rw [List.getElem_set] at h1 h2
    by_cases e1 : i = j
    · subst e1
      rw [if_pos rfl] at h1
      rw [if_neg hne] at h2
      exact hnj k hk (Ne.symm hne) g h1 h2
    · rw [if_neg e1] at h1
      by_cases e2 : i = k
      · rw [if_pos e2] at h2
        exact hnj j hj (Ne.symm e1) g h2 h1
      · rw [if_neg e2] at h2
        exact h.dis j k hj hk hne g h1 h2
  · rw [List.length_set] at hj
    rw [List.getElem_set] at h1
    by_cases e : i = j
    · rw [if_pos e] at h1; exact hnv g h1 h2
    · rw [if_neg e] at h1; exact h.dio j hj g h1 h2
/-- as one that is read -/
theorem OwnN.sl (h : OwnN w B eo ei v vs xs) : ∃ ao cap, v = .slice ao xs.length cap ∧ Sl w (OwnN.blk v vs) ao cap xs := by
  obtain ⟨ao, cap, e, hs⟩ := h.out.sl
  refine ⟨ao, cap, by rw [← h.len]; exact e, ⟨by rw [← h.len]; exact hs.le, hs.mx, hs.nil, fun i hi => ?_⟩⟩
  have hi' : i < vs.length := by rw [h.len]; exact hi
  obtain ⟨b, off, e1, hF, es, hc, hr⟩ := hs.el i hi'
  obtain ⟨rfl, h1⟩ := hr
  obtain ⟨io, ic, e2, hs2⟩ := (h.inn i hi' hi).sl
  refine ⟨b, off, e1, hF.elim (fun h => h.elim) .inl, [vs[i].v], hc, io, ic, by rw [e2], hs2.mono (fun _ _ => rfl) ?_⟩
  intro b hb
  exact hb.elim (fun h => h.elim) (fun hb => .inr ⟨_, List.getElem_mem hi', hb⟩)
theorem OwnN.rd (h : OwnN w B eo ei v vs xs) : Rd w (OwnN.blk v vs) v xs := by
  obtain ⟨ao, cap, rfl, hs⟩ := h.sl
  exact hs.rd
theorem OwnN.old (h : OwnN w B eo ei v vs xs) : Rd w (Old w) v xs := h.rd.mono (fun _ _ => rfl) fun b hb => (h.lt b hb).2
end
instance iNest3 : IsT Try.prog 26 Raw := IsT.of (by kernel_rfl) Try.underlying26 rfl
instance iNest4 : IsZ Try.prog 26 (⟨.slice none 0 0⟩ : Raw) 24 := IsZ.of (z := .slice none 0 0) (by kernel_rfl) (fun _ _ => ⟨rfl, rfl⟩)
end Go.Proofs.Ytljcnopekjinjaa
/-
  An element that is read in a drawn region when nothing else may come.
-/
set_option linter.unusedVariables false
set_option linter.unusedSimpArgs false
namespace Go.Proofs.Ytljcnopekjinjaa
open Go.RowKit
section
variable {P : Program} {Q : Exit → Act → World → Prop} {n : Nat} {σ : Sg} {wc : World} {L : List Oper} {S : World → Prop} {rest : List (Nat × Bool)} {i j d d' : Nat} {ty : TypeId} {pos : String} {af : Array Edge} {g : Option (Nat × Bool)} {ty' : TypeId} {pos' : String} {af' : Array Edge} {g' : Option (Nat × Bool)} {t e : TypeId} {x ix : Operand}
variable {α : Type} [Rep α] {F : Nat → Prop}
theorem HL.elemM {ao : Option Addr} {cap : Nat} {xs : List α} {k : Nat} {kd : IntKind} (hS : S wc)
    (ho1 : nthO L i = some ⟨some d, .indexAddr t x ix, ty, pos, af, g⟩) (ho2 : nthO L j = some ⟨some d', .load e (.tmp d), ty', pos', af', g'⟩)
    (hg : gd L σ ⟨some d, .indexAddr t x ix, ty, pos, af, g⟩ = some true) (hd : Nat.ble (d + 1) n = true) (hd' : Nat.ble (d' + 1) n = true)
    (hx : ev σ x = some (.slice ao xs.length cap)) (hi : ev σ ix = some (.int kd (k : Int))) [hs : IsS P t e] [ht : IsT P e α] (hsl : Sl wc F ao cap xs) (h1 : k < xs.length)
    (hg' : ∀ p, gd L ((d, .pointer p) :: σ) ⟨some d', .load e (.tmp d), ty', pos', af', g'⟩ = some true)
    (h : ∀ u p, Rd wc F u xs[k] → HL P L S Q rest n ((d', u) :: (d, .pointer p) :: σ) wc) :
    HL P L S Q ((i, false) :: (j, false) :: rest) n σ wc := by
  obtain ⟨b, off, rfl, hFb, es, hc, hr⟩ := hsl.el k h1
  refine HL.mut ho1 (WL.idx (α := α) hg hd hx hi (by omega) (by omega) (WL.nil (EX.mut hS ?_)))
  refine HL.mut ho2 (WL.load (α := α) (hg' _) hd' fnd_cons_eq (by simpa using hc) hr (WL.nil (EX.mut hS ?_)))
  exact h _ _ ⟨es, rfl, hr⟩
end
end Go.Proofs.Ytljcnopekjinjaa
/-
  Maps from a key to its number, made by the call: the keys as a list, in the order in which they came. Over any program.
-/
set_option linter.unusedVariables false
set_option linter.unusedSimpArgs false
namespace Go.Proofs.Ytljcnopekjinjaa
open Go.RowKit

/-- a map type, its key's type and its element's type -/
class IsM (P : Program) (t : TypeId) (k e : outParam TypeId) : Prop where
  ok : P.underlying t = some (.map k e)
/-- keys of which the model's order is whole -/
class IsKy (P : Program) (k : TypeId) : Prop where
  ok : WideMaps.KeyLaw P k
theorem IsKy.of {P : Program} {k : TypeId} {d : TypeDesc} (hl : laidOutB P = true) {m : Nat} (hm : Nat.ble (m + 1) 10000 = true) (hrow : Nat.ble (k + 1) P.types.size = true) (hk : P.keyTypeAt m k = true) (hu : P.underlying k = some d) (hd : aggD d = true) : IsKy P k :=
  ⟨deep_law_laid hl (Nat.le_of_ble_eq_true hm) (Nat.lt_of_succ_le (Nat.le_of_ble_eq_true hrow)) hk (by
    rw [hu]; cases d <;> first | rfl | (cases hd))⟩
/-- a type whose zero value is the number 0 -/
class IsZ0 (P : Program) (e : TypeId) : Prop where
  ok : (P.info? e).map (fun i => i.zero) = some (some (.int .i64 0))
/-- v is a key of type k -/
def KeyV (P : Program) (k : TypeId) (v : Value) : Prop := ∃ l, keyOf P k v = some l
/-- block b is a map that holds the keys ks, each with its number -/
def NumM (P : Program) (k : TypeId) (w : World) (b : Nat) (ks : List Value) : Prop :=
  ∃ (es : Array MapEntry) (clock : Nat), w.heap[b]? = some (.map es clock) ∧ es.toList.map (·.key) = ks ∧ (∀ (i : Nat) (e : MapEntry), es.toList[i]? = some e → e.val = .int .i64 (i : Int)) ∧ (∀ x ∈ ks, KeyV P k x) ∧ ks.Nodup
section
variable {P : Program} {k : TypeId} {w w' : World} {b : Nat} {ks : List Value}
theorem NumM.lt (h : NumM P k w b ks) : b < w.heap.size := by
  obtain ⟨es, clock, hb, _⟩ := h
  exact (Array.getElem?_eq_some_iff.1 hb).1
theorem NumM.at (h : NumM P k w b ks) (hb : w'.heap[b]? = w.heap[b]?) : NumM P k w' b ks := by
  obtain ⟨es, clock, h1, h2⟩ := h
  exact ⟨es, clock, hb.trans h1, h2⟩
theorem NumM.ext (h : NumM P k w b ks) (hE : Ext w w') : NumM P k w' b ks := h.at (hE.block b h.lt)
theorem NumM.kept {row : Option Nat} (h : NumM P k w b ks) (hg : w.grownBy w' row) (hne : some b ≠ row) : NumM P k w' b ks := h.at (hg.block b h.lt hne)
theorem NumM.made (w : World) : NumM P k (w.alloc (.map #[] 0)) w.heap.size [] :=
  ⟨#[], 0, heap_alloc_new w _, rfl, fun i e h => by simp at h, fun x h => by simp at h, List.Pairwise.nil⟩
theorem run_num {t e : TypeId} {x : Value} [ht : IsM P t k e] [hk : IsKy P k] [hz : IsZ0 P e] (h : NumM P k w b ks) (hx : KeyV P k x) :
    (x ∉ ks ∧ (Instr.lookup t (.map (some b)) x true).run P w = .ok (.tuple #[.int .i64 0, .bool false]) w) ∨
    ∃ (j : Nat) (hj : j < ks.length), ks[j] = x ∧ (Instr.lookup t (.map (some b)) x true).run P w = .ok (.tuple #[.int .i64 (j : Int), .bool true]) w := by
  obtain ⟨es, clock, hb, hes, hv, hks, hnd⟩ := h
  obtain ⟨l, hx⟩ := hx
  obtain ⟨i, h1, h2⟩ := Option.map_eq_some_iff.1 hz.ok
  have hzr : (zeroValue e).run P w = .ok (.int .i64 0) w := by simp [zeroValue, typeInfo, h1, h2]
  have hkeys : ∀ e ∈ es.toList, ∃ l, keyOf P k e.key = some l := fun e he => hks _ (hes ▸ List.mem_map.2 ⟨e, he, rfl⟩)
  rcases hk.ok.find w hx es.toList hkeys with ⟨g1, g2⟩ | ⟨j, e0, g1, g2, g3⟩
  · refine .inl ⟨fun hm => ?_, by simp [Instr.lookup, run_underlying ht.ok, MapKept.run_getObj_map hb, hk.ok.check w _ hx, g1, hzr, Result.andThen]⟩
    rw [← hes] at hm
    obtain ⟨e, he, hke⟩ := List.mem_map.1 hm
    exact g2 e he hke
  · have hj : j < ks.length := by rw [← hes, List.length_map]; exact (List.getElem?_eq_some_iff.1 g2).1
    refine .inr ⟨j, hj, ?_, ?_⟩
    · subst hes
      rw [List.getElem_map, ← g3]
      congr 1
      exact (List.getElem?_eq_some_iff.1 g2).2
    · have hval := hv j e0 g2
      simp [Instr.lookup, run_underlying ht.ok, MapKept.run_getObj_map hb, hk.ok.check w _ hx, g1, Result.andThen, hval]
theorem run_numPut {t e : TypeId} {x : Value} [ht : IsM P t k e] [hk : IsKy P k] (h : NumM P k w b ks) (hx : KeyV P k x) (hn : x ∉ ks) :
    ∃ w', (Instr.mapUpdate t (.map (some b)) x (.int .i64 (ks.length : Int))).run P w = .ok () w' ∧ NumM P k w' b (ks ++ [x]) ∧ w.grownBy w' (some b) := by
  obtain ⟨es, clock, hb, hes, hv, hks, hnd⟩ := h
  obtain ⟨l, hx'⟩ := hx
  have hkeys : ∀ e ∈ es.toList, ∃ l, keyOf P k e.key = some l := fun e he => hks _ (hes ▸ List.mem_map.2 ⟨e, he, rfl⟩)
  have hsz : es.toList.length = ks.length := by rw [← hes, List.length_map]
  have hlt := (Array.getElem?_eq_some_iff.1 hb).1
  rcases hk.ok.find w hx' es.toList hkeys with ⟨g1, g2⟩ | ⟨j, e0, g1, g2, g3⟩
  · refine ⟨_, by simp [Instr.mapUpdate, run_underlying ht.ok, MapKept.run_getObj_map hb, hk.ok.check w false hx', g1, MapKept.run_setObj_map _ hb, Result.andThen]; rfl, ?_, ?_⟩
    · refine ⟨es.push ⟨x, .int .i64 (ks.length : Int), clock⟩, clock + 1, by simp [hlt], by simp [hes], fun i e he => ?_, fun y hy => ?_, ?_⟩
      · rw [Array.toList_push] at he
        rcases Nat.lt_or_ge i es.toList.length with hi | hi
        · rw [List.getElem?_append_left hi] at he
          exact hv i e he
        · rw [List.getElem?_append_right hi] at he
          have h0 : i - es.toList.length = 0 := by
            have := (List.getElem?_eq_some_iff.1 he).1
            simp at this; omega
          rw [h0] at he
          simp at he
          subst he
          show Value.int .i64 (ks.length : Int) = _
          congr 1; omega
      · rcases List.mem_append.1 hy with hy | hy
        · exact hks y hy
        · rw [List.mem_singleton] at hy; subst hy; exact ⟨l, hx'⟩
      · rw [List.nodup_append]
        refine ⟨hnd, by simp, fun a ha c hc e => ?_⟩
        rw [List.mem_singleton] at hc
        subst hc; subst e; exact hn ha
    · exact ⟨rfl, rfl, rfl, by simp, fun i _ hi => by
        simp only [Array.getElem?_setIfInBounds]
        rw [if_neg (fun e => hi (by rw [e]))]⟩
  · exact absurd (hes ▸ List.mem_map.2 ⟨e0, List.mem_of_getElem? g2, g3⟩) hn
end

section
variable {P : Program} {Q : Exit → Act → World → Prop} {n : Nat} {σ : Sg} {w : World} {L rest : List Oper} {d : Nat} {ty : TypeId} {pos : String} {af : Array Edge} {g : Option (Nat × Bool)} {t k e : TypeId} {b : Nat} {ks : List Value} {x y z : Operand} {v : Value}
/-- v, ok := m[x] -/
theorem WL.num (hg : gd L σ ⟨some d, .lookup t x y true, ty, pos, af, g⟩ = some true) (hd : Nat.ble (d + 1) n = true) (hx : ev σ x = some (.map (some b))) (hy : ev σ y = some v) [ht : IsM P t k e] [hk : IsKy P k] [hz : IsZ0 P e]
    (h : NumM P k w b ks) (hv : KeyV P k v)
    (h1 : v ∉ ks → WL P L Q rest n ((d, .tuple ⟨[.int .i64 0, .bool false]⟩) :: σ) w)
    (h2 : ∀ (j : Nat) (hj : j < ks.length), ks[j] = v → WL P L Q rest n ((d, .tuple ⟨[.int .i64 (j : Int), .bool true]⟩) :: σ) w) :
    WL P L Q (⟨some d, .lookup t x y true, ty, pos, af, g⟩ :: rest) n σ w := by
  rcases run_num (t := t) h hv with ⟨g1, g2⟩ | ⟨j, hj, g1, g2⟩
  · refine WL.run hg hd (fun a ha => ?_) (h1 g1)
    simp [execOp, ha.ev hx, ha.ev hy, g2]
  · refine WL.run hg hd (fun a ha => ?_) (h2 j hj g1)
    simp [execOp, ha.ev hx, ha.ev hy, g2]
/-- m[x] = len(m), at a new key -/
theorem WL.numPut (hg : gd L σ ⟨none, .mapUpdate t x y z, ty, pos, af, g⟩ = some true) (hx : ev σ x = some (.map (some b))) (hy : ev σ y = some v) (hzv : ev σ z = some (.int .i64 (ks.length : Int))) [ht : IsM P t k e] [hk : IsKy P k]
    (h : NumM P k w b ks) (hv : KeyV P k v) (hn : v ∉ ks)
    (hr : ∀ w', NumM P k w' b (ks ++ [v]) → w.grownBy w' (some b) → WL P L Q rest n σ w') :
    WL P L Q (⟨none, .mapUpdate t x y z, ty, pos, af, g⟩ :: rest) n σ w := by
  obtain ⟨w', g1, g2, g3⟩ := run_numPut (t := t) h hv hn
  refine WL.runU hg (fun a ha => ?_) (hr w' g2 g3)
  simp [execOp, ha.ev hx, ha.ev hy, ha.ev hzv, g1]
/-- make(map[K]int) -/
theorem WL.mkMap (hg : gd L σ ⟨some d, .makeMap t none, ty, pos, af, g⟩ = some true) (hd : Nat.ble (d + 1) n = true)
    (h : NumM P k (w.alloc (.map #[] 0)) w.heap.size [] → WL P L Q rest n ((d, .map (some w.heap.size)) :: σ) (w.alloc (.map #[] 0))) :
    WL P L Q (⟨some d, .makeMap t none, ty, pos, af, g⟩ :: rest) n σ w := by
  refine WL.run hg hd (fun a ha => ?_) (h (NumM.made w))
  simp [execOp, Instr.makeMap]
end
/-- a key that is a pair of numbers -/
theorem KeyV.pair {P : Program} {k fa fb : TypeId} {x y : Int} (h : (P.keyType k && Value.formed P k (.agg #[.int .i64 0, .int .i64 0])) = true)
    (hk : ∀ a b : Int, P.keyLits (P.types.size + 1) k [.int .i64 a, .int .i64 b] = (if (Lit.int .i64 a).wf = true ∧ (Lit.int .i64 b).wf = true then some [.int .i64 a, .int .i64 b] else none))
    (hd : ∃ d, P.underlying k = some (.struct d)) (hx : (Lit.int .i64 x).wf = true) (hy : (Lit.int .i64 y).wf = true) : KeyV P k (.agg ⟨[.int .i64 x, .int .i64 y]⟩) := by
  obtain ⟨d, hd⟩ := hd
  refine ⟨.string (keyBytes [.int .i64 x, .int .i64 y]), ?_⟩
  unfold keyOf
  rw [hd]
  dsimp only
  have hf : Value.formed P k (.agg ⟨[.int .i64 x, .int .i64 y]⟩) = Value.formed P k (.agg #[.int .i64 0, .int .i64 0]) := by
    unfold Value.formed
    rw [hd]; rfl
  rw [hf, if_pos h]
  show Option.map _ (P.keyLits (P.types.size + 1) k [.int .i64 x, .int .i64 y]) = _
  rw [hk, if_pos ⟨hx, hy⟩]
  rfl
end Go.Proofs.Ytljcnopekjinjaa
/-
  Arrays in a variable: an element's address, a store at a reckoned place, the whole read; keys that are arrays or pairs of numbers. Over any program.
-/
set_option linter.unusedVariables false
set_option linter.unusedSimpArgs false
namespace Go.Proofs.Ytljcnopekjinjaa
open Go.RowKit

class IsA (P : Program) (t : TypeId) (k : outParam Nat) (e : outParam TypeId) : Prop where
  ok : P.underlying t = some (.array k e)
section
variable {P : Program} {Q : Exit → Act → World → Prop} {n : Nat} {σ : Sg} {w : World} {L rest : List Oper} {d : Nat} {ty : TypeId} {pos : String} {af : Array Edge} {g : Option (Nat × Bool)} {t e : TypeId} {x y : Operand} {b o : Nat} {cells : List Value}
/-- &x[i], x an array -/
theorem WL.idxA {ix : Operand} {i k : Nat} {kd : IntKind} {e' : TypeId} (hg : gd L σ ⟨some d, .indexAddr t x ix, ty, pos, af, g⟩ = some true) (hd : Nat.ble (d + 1) n = true) (hx : ev σ x = some (.pointer (some ⟨b, o, none⟩))) (hi : ev σ ix = some (.int kd (i : Int)))
    [ha : IsA P t k e'] [hc : IsC P e' 1 false] (h1 : i < k) (h : WL P L Q rest n ((d, .pointer (some ⟨b, o + i, none⟩)) :: σ) w) : WL P L Q (⟨some d, .indexAddr t x ix, ty, pos, af, g⟩ :: rest) n σ w := by
  obtain ⟨inf, dd, hi1, hi2, _, _⟩ := hc.ok
  refine WL.run hg hd (fun a ha0 => ?_) h
  simp [execOp, ha0.ev hx, ha0.ev hi, Instr.indexAt, asIntOf, run_underlying ha.ok, Instr.sureAddr, h1, sizeOf, typeInfo, hi1, hi2, WideShapes.add_plain]
/-- *p = v, one cell, wherever it lies -/
theorem WL.st1 {v : Value} (hg : gd L σ ⟨none, .store t x y, ty, pos, af, g⟩ = some true) (hx : ev σ x = some (.pointer (some ⟨b, o, none⟩))) (hy : ev σ y = some v) [hc : IsC P t 1 false] (hb : Blk w b e cells)
    (ho : o < cells.length) (hv : cellsL v = [v]) (h1 : v.oneCell' = true)
    (h : ∀ w', Blk w' b e (cells.set o v) → w.grownBy w' (some b) → WL P L Q rest n σ w') : WL P L Q (⟨none, .store t x y, ty, pos, af, g⟩ :: rest) n σ w := by
  obtain ⟨i, dd, hi1, hi2, _, _⟩ := hc.ok
  have hst := run_storeCells_at P b o e [v] 0 cells.toArray w hb (by simp; omega) (by simpa using h1)
  simp only [Nat.add_zero] at hst
  have e1 : cells.take o ++ [v] ++ cells.drop (o + [v].length) = cells.set o v := by
    rw [List.set_eq_take_append_cons_drop, if_pos ho]; simp
  refine WL.runU hg (fun a ha => ?_) (h _ (by
    have := setRow_heap w b cells.toArray (cells.set o v).toArray e (0, 0) hb
    exact this) (grown_setRow w b _))
  simp only [execOp, ha.ev hx, ha.ev hy, Instr.storeAt, Sem.run_bind, Instr.sureAddr, Sem.run_pure, Result.andThen_ok, storeVar, sizeOf, typeInfo, run_program, hi1, hi2, cellsL_eq, hv]
  rw [← e1]
  simp
  simp [hst]
theorem run_ldAll {k : Nat} (w : World) (hb : Blk w b e cells) (hk : cells.length = k) [hc : IsC P t k true] : (Instr.loadAt t (.pointer (some ⟨b, 0, none⟩))).run P w = .ok (.agg cells.toArray) w := by
  obtain ⟨i, dd, h1, h2, h3, h4⟩ := hc.ok
  have hagg : (isAgg t).run P w = .ok true w := by
    unfold isAgg
    rw [Sem.run_bind, run_underlying h3 w, ← h4]
    cases dd <;> rfl
  have hld := run_loadCells_list (P := P) w ⟨b, 0, none⟩ cells (fun j u hu => by rw [WideShapes.add_plain, Nat.zero_add]; exact hb.cell hu)
  rw [hk] at hld
  simp [Instr.loadAt, Instr.sureAddr, loadVar, hagg, sizeOf, typeInfo, h1, h2, hld]
/-- the whole variable, however its cells are spelt -/
theorem WL.ldAll {k : Nat} (hg : gd L σ ⟨some d, .load t x, ty, pos, af, g⟩ = some true) (hd : Nat.ble (d + 1) n = true) (hx : ev σ x = some (.pointer (some ⟨b, 0, none⟩))) [hc : IsC P t k true] (hb : Blk w b e cells) (hk : cells.length = k)
    (h : WL P L Q rest n ((d, .agg cells.toArray) :: σ) w) : WL P L Q (⟨some d, .load t x, ty, pos, af, g⟩ :: rest) n σ w := by
  refine WL.run hg hd (fun a ha => ?_) h
  simp [execOp, ha.ev hx, run_ldAll (P := P) (t := t) w hb hk]
theorem WL.stAll {k : Nat} {cs : List Value} (hg : gd L σ ⟨none, .store t x y, ty, pos, af, g⟩ = some true) (hx : ev σ x = some (.pointer (some ⟨b, 0, none⟩))) (hy : ev σ y = some (.agg cs.toArray)) [hc : IsC P t k true] (hb : Blk w b e cells)
    (hk : cs.length = k) (hl : cells.length = k) (h1 : ∀ u ∈ cs, u.oneCell' = true)
    (h : ∀ w', Blk w' b e cs → w.grownBy w' (some b) → WL P L Q rest n σ w') : WL P L Q (⟨none, .store t x y, ty, pos, af, g⟩ :: rest) n σ w := by
  obtain ⟨i, dd, hi1, hi2, _, _⟩ := hc.ok
  subst hk
  have hst := run_storeCells_at P b 0 e cs 0 cells.toArray w hb (by simp; omega) h1
  simp only [Nat.add_zero, Nat.zero_add, List.take_zero, List.nil_append] at hst
  have e1 : cells.toArray.toList.drop cs.length = [] := List.drop_eq_nil_of_le (by simp; omega)
  rw [e1, List.append_nil] at hst
  refine WL.runU hg (fun a ha => ?_) (h _ (by
    have := setRow_heap w b cells.toArray cs.toArray e (0, 0) hb
    exact this) (grown_setRow w b _))
  simp only [execOp, ha.ev hx, ha.ev hy, Instr.storeAt, Sem.run_bind, Instr.sureAddr, Sem.run_pure, Result.andThen_ok, storeVar, sizeOf, typeInfo, run_program, hi1, hi2, Value.cells]
  simp
  simp [hst]
theorem EX.retCA {fn : Func} {a : Nat} {k : Nat} {R : Value → World → Prop} (hr : fn.results = #[.cell a t]) (ha : fnd σ a = some (.pointer (some ⟨b, 0, none⟩))) [hc : IsC P t k true] (hb : Blk w b e cells) (hk : cells.length = k) (h : R (.agg cells.toArray) w) :
    EX (bodyPost P fn fun e w' => ∃ v, e = .returned v ∧ R v w') .ret n σ w := by
  unfold EX; intro ac hac
  refine bodyPost_ret ?_ hac.defers ⟨_, rfl, h⟩
  have hld := run_loadCells_list (P := P) w ⟨b, 0, none⟩ cells (fun j u hu => by rw [WideShapes.add_plain, Nat.zero_add]; exact hb.cell hu)
  obtain ⟨i, dd, h1, h2, h3, h4⟩ := hc.ok
  have hagg : (isAgg t).run P w = .ok true w := by
    unfold isAgg
    rw [Sem.run_bind, run_underlying h3 w, ← h4]
    cases dd <;> rfl
  rw [hk] at hld
  have hs := hac.slot a _ ha
  simp only [Array.getD_eq_getD_getElem?] at hs
  simp [results, hr, hs, asAddr, loadVar, hagg, sizeOf, typeInfo, h1, h2, hld]
end
theorem mapM_some {α β : Type} {f : α → Option β} {g : α → β} : ∀ (l : List α), (∀ x ∈ l, f x = some (g x)) → l.mapM f = some (l.map g)
  | [], _ => rfl
  | x :: r, h => by
    rw [List.mapM_cons, h x (by simp), mapM_some r (fun y hy => h y (by simp [hy]))]
    rfl
/-- a key that is an array of numbers -/
theorem KeyV.arr {P : Program} {k e : TypeId} {n : Nat} {q : IntKind} (hu : P.underlying k = some (.array n e)) (he : P.underlying e = some (.int q)) (hce : P.cellsOf e = 1) (hck : P.cellsOf k = n) (hkt : P.keyType k = true) (hts : Nat.ble 1 P.types.size = true)
    {xs : List Int} (hl : xs.length = n) (hx : ∀ x ∈ xs, (Lit.int q x).wf = true) : KeyV P k (.agg (xs.map fun x => .int q x).toArray) := by
  obtain ⟨s, hs⟩ : ∃ s, P.types.size = s + 1 := ⟨P.types.size - 1, by have := Nat.le_of_ble_eq_true hts; omega⟩
  have hlits : P.keyLits (P.types.size + 1) k (xs.map fun x => .int q x) = some (((List.range n).map fun i => [Lit.int q (xs.getD i 0)]).flatten) := by
    rw [hs, Program.keyLits.eq_def]
    simp only [hu]
    rw [if_pos (by rw [hck]; simpa using hl), mapM_some (g := fun i => [Lit.int q (xs.getD i 0)])]
    · rfl
    · intro i hi
      have hi := List.mem_range.1 hi
      have hix : i < xs.length := by omega
      have hseg : ((xs.map fun x => Value.int q x).drop (i * P.cellsOf e)).take (P.cellsOf e) = [.int q xs[i]] := by
        rw [hce, Nat.mul_one, List.drop_eq_getElem_cons (by simpa using hix)]
        simp
      rw [hseg, Program.keyLits.eq_def]
      simp only [he]
      rw [if_pos ⟨trivial, hx _ (List.getElem_mem hix)⟩, List.getD_eq_getElem?_getD, List.getElem?_eq_getElem hix]
      rfl
  refine ⟨.string (keyBytes (((List.range n).map fun i => [Lit.int q (xs.getD i 0)]).flatten)), ?_⟩
  unfold keyOf
  rw [hu]
  dsimp only
  have hf : Value.formed P k (.agg (xs.map fun x => Value.int q x).toArray) = true := by
    unfold Value.formed
    rw [hu, hck]
    simp [hl]
  rw [hkt, hf]
  show Option.map _ (P.keyLits (P.types.size + 1) k (xs.map fun x => Value.int q x)) = _
  rw [hlits]
  rfl
end Go.Proofs.Ytljcnopekjinjaa
/-
  Processes: what is right, what flows a node has: plain lists, no program in sight.
-/
set_option linter.unusedVariables false
set_option linter.unusedSimpArgs false
namespace Go.Proofs.Ytljcnopekjinjaa

abbrev LNode := ByteArray × Int
abbrev LFlow := Int × Int
abbrev LProc := List LNode × List LFlow
def lowB (c : UInt8) : Bool := !(decide (((c.toNat : Nat) : Int) < 97)) && !(decide (((c.toNat : Nat) : Int) > 122))
def namedL (l : List UInt8) : Bool := !(l == []) && !(decide ((l.length : Int) > 8)) && !(l == [116, 114, 117, 101]) && !(l == [102, 97, 108, 115, 101]) && !(l == [115, 105, 108, 101, 110, 116]) && l.all lowB
abbrev namedB (s : ByteArray) : Bool := namedL s.data.toList
def nameEq (a b : ByteArray) : Bool := a.data.toList == b.data.toList
def nodeE (ns : List LNode) (i : Nat) : Int :=
  if !namedB (ns.getD i (⟨#[]⟩, 0)).1 || decide ((ns.getD i (⟨#[]⟩, 0)).2 < 1) || decide ((ns.getD i (⟨#[]⟩, 0)).2 > 7) then 1
  else if (ns.take i).any (fun m => nameEq m.1 (ns.getD i (⟨#[]⟩, 0)).1) then 4 else 0
def nodesGo (ns : List LNode) : Nat → Nat → Int
  | 0, _ => 0
  | f + 1, i => if nodeE ns i ≠ 0 then nodeE ns i else nodesGo ns f (i + 1)
def nodesE (ns : List LNode) : Int := nodesGo ns ns.length 0
theorem nodesGo_step {ns : List LNode} : ∀ (f i k : Nat), i ≤ k → k < i + f → (∀ j, i ≤ j → j < k → nodeE ns j = 0) → nodeE ns k ≠ 0 → nodesGo ns f i = nodeE ns k
  | 0, i, k, h1, h2, _, _ => by omega
  | f + 1, i, k, h1, h2, h3, h4 => by
    unfold nodesGo
    by_cases e : i = k
    · subst e; rw [if_pos h4]
    · rw [if_neg (by rw [h3 i (Nat.le_refl _) (by omega)]; simp)]
      exact nodesGo_step f (i + 1) k (by omega) (by omega) (fun j h5 h6 => h3 j (by omega) h6) h4
theorem nodesGo_zero {ns : List LNode} : ∀ (f i : Nat), (∀ j, i ≤ j → j < i + f → nodeE ns j = 0) → nodesGo ns f i = 0
  | 0, _, _ => rfl
  | f + 1, i, h => by
    unfold nodesGo
    rw [if_neg (by rw [h i (Nat.le_refl _) (by omega)]; simp)]
    exact nodesGo_zero f (i + 1) (fun j h1 h2 => h j (by omega) (by omega))
theorem nodesE_first {ns : List LNode} {k : Nat} (hk : k < ns.length) (h0 : ∀ j, j < k → nodeE ns j = 0) (h : nodeE ns k ≠ 0) : nodesE ns = nodeE ns k := nodesGo_step _ 0 k (Nat.zero_le _) (by omega) (fun j _ => h0 j) h
theorem nodesE_zero {ns : List LNode} (h0 : ∀ j, j < ns.length → nodeE ns j = 0) : nodesE ns = 0 := nodesGo_zero _ 0 (fun j _ h => h0 j (by omega))
theorem nodesE_all {ns : List LNode} (h : nodesE ns = 0) : ∀ j, j < ns.length → nodeE ns j = 0 := by
  intro j
  induction j using Nat.strongRecOn with
  | _ j ih =>
    intro hj
    apply Classical.byContradiction
    intro hn
    have := nodesE_first hj (fun k hk => ih k hk (by omega)) hn
    exact hn (by rw [← this]; exact h)
def countsB (kind : Int) (i o : Nat) : Bool :=
  if kind = 1 then decide (i = 0) && decide (o = 1)
  else if kind = 2 ∨ kind = 3 then decide (0 < i) && decide (o = 0)
  else if kind = 4 then decide (0 < i) && decide (o = 1)
  else if kind = 7 then if o > 4 then false else decide (0 < i) && decide (0 < o)
  else if kind = 5 ∨ kind = 6 then decide (0 < i) && decide (0 < o)
  else false
/-- flows into a node, and out of it, by number -/
def insP (fl : List LFlow) (n : Int) (k : Nat) : List Int := ((List.range k).filter fun i => (fl.getD i (0, 0)).2 == n).map fun i : Nat => (i : Int)
def outsP (fl : List LFlow) (n : Int) (k : Nat) : List Int := ((List.range k).filter fun i => (fl.getD i (0, 0)).1 == n).map fun i : Nat => (i : Int)
abbrev insL (fl : List LFlow) (n : Int) : List Int := insP fl n fl.length
abbrev outsL (fl : List LFlow) (n : Int) : List Int := outsP fl n fl.length
theorem insP_next {fl : List LFlow} {n : Int} {k : Nat} : insP fl n (k + 1) = insP fl n k ++ if ((fl.getD k (0, 0)).2 == n) = true then [(k : Int)] else [] := by
  unfold insP
  rw [List.range_succ, List.filter_append, List.map_append]
  congr 1
  by_cases e : ((fl.getD k (0, 0)).2 == n) = true
  · rw [if_pos e]; simp only [List.filter_cons, e, List.filter_nil]; rfl
  · rw [if_neg e]; simp only [List.filter_cons, e, List.filter_nil]; rfl
theorem outsP_next {fl : List LFlow} {n : Int} {k : Nat} : outsP fl n (k + 1) = outsP fl n k ++ if ((fl.getD k (0, 0)).1 == n) = true then [(k : Int)] else [] := by
  unfold outsP
  rw [List.range_succ, List.filter_append, List.map_append]
  congr 1
  by_cases e : ((fl.getD k (0, 0)).1 == n) = true
  · rw [if_pos e]; simp only [List.filter_cons, e, List.filter_nil]; rfl
  · rw [if_neg e]; simp only [List.filter_cons, e, List.filter_nil]; rfl
theorem insP_len {fl : List LFlow} {n : Int} {k : Nat} : (insP fl n k).length ≤ k := by
  unfold insP; rw [List.length_map]; exact Nat.le_trans (List.length_filter_le _ _) (by simp)
theorem outsP_len {fl : List LFlow} {n : Int} {k : Nat} : (outsP fl n k).length ≤ k := by
  unfold outsP; rw [List.length_map]; exact Nat.le_trans (List.length_filter_le _ _) (by simp)
theorem insP_mem {fl : List LFlow} {n : Int} {k : Nat} {x : Int} : x ∈ insP fl n k ↔ ∃ i : Nat, x = (i : Int) ∧ i < k ∧ (fl.getD i (0, 0)).2 = n := by
  unfold insP
  rw [List.mem_map]
  constructor
  · rintro ⟨i, h1, rfl⟩
    have := List.mem_filter.1 h1
    exact ⟨i, rfl, List.mem_range.1 this.1, by simpa using this.2⟩
  · rintro ⟨i, rfl, h1, h2⟩
    exact ⟨i, List.mem_filter.2 ⟨List.mem_range.2 h1, by simpa using h2⟩, rfl⟩
theorem outsP_mem {fl : List LFlow} {n : Int} {k : Nat} {x : Int} : x ∈ outsP fl n k ↔ ∃ i : Nat, x = (i : Int) ∧ i < k ∧ (fl.getD i (0, 0)).1 = n := by
  unfold outsP
  rw [List.mem_map]
  constructor
  · rintro ⟨i, h1, rfl⟩
    have := List.mem_filter.1 h1
    exact ⟨i, rfl, List.mem_range.1 this.1, by simpa using this.2⟩
  · rintro ⟨i, rfl, h1, h2⟩
    exact ⟨i, List.mem_filter.2 ⟨List.mem_range.2 h1, by simpa using h2⟩, rfl⟩
/-- is a flow's end no node? -/
def flowOdd (n : Nat) (f : LFlow) : Bool := decide (f.1 < 0) || decide (f.1 ≥ n) || decide (f.2 < 0) || decide (f.2 ≥ n)
/-- the graph of some flows -/
def flowsG (n : Nat) (fl : List LFlow) : Graph := (List.range n).map fun k : Nat => (fl.filter fun f => f.1 == (k : Int)).map (·.2)
def startsL (ns : List LNode) (k : Nat) : List Nat := (List.range k).filter fun i => (ns.getD i (⟨#[]⟩, 0)).2 == 1
def badCount (p : LProc) (i : Nat) : Bool := !countsB (p.1.getD i (⟨#[]⟩, 0)).2 (insL p.2 i).length (outsL p.2 i).length
open Classical in
noncomputable def chkR (p : LProc) : Int := if ∃ n, n < p.1.length ∧ ¬ Rch (flowsG p.1.length p.2) (((startsL p.1 p.1.length).getLast?.map fun n : Nat => (n : Int)).toList) n then 6 else 0
noncomputable def chkPr (p : LProc) : Int :=
  if p.1.length > 20 ∨ p.2.length > 30 then 2 else if nodesE p.1 ≠ 0 then nodesE p.1
  else if p.2.any (flowOdd p.1.length) = true then 1 else if (startsL p.1 p.1.length).length ≠ 1 then 1
  else if (List.range p.1.length).any (badCount p) = true then 1
  else chkR p
structure OkPr (p : LProc) : Prop where
  n : p.1.length ≤ 20
  f : p.2.length ≤ 30
  nodes : ∀ i, i < p.1.length → nodeE p.1 i = 0
  flows : ∀ f ∈ p.2, 0 ≤ f.1 ∧ f.1 < p.1.length ∧ 0 ≤ f.2 ∧ f.2 < p.1.length
  start : (startsL p.1 p.1.length).length = 1
  count : ∀ i, i < p.1.length → countsB (p.1.getD i (⟨#[]⟩, 0)).2 (insL p.2 i).length (outsL p.2 i).length = true
theorem chkPr_ok {p : LProc} (h : chkPr p = 0) : OkPr p := by
  unfold chkPr at h
  split at h
  · cases h
  split at h
  · rename_i h1 h2; exact absurd h h2
  split at h
  · cases h
  split at h
  · cases h
  split at h
  · cases h
  rename_i h1 h2 h3 h4 h5
  refine ⟨by omega, by omega, nodesE_all (by simpa using h2), fun f hf => ?_, by simpa using h4, fun i hi => ?_⟩
  · have h3 := List.any_eq_false.1 (by simpa using h3) f hf
    unfold flowOdd at h3
    simp at h3
    omega
  · have h5 := List.any_eq_false.1 (by simpa using h5) i (List.mem_range.2 hi)
    unfold badCount at h5
    simpa using h5
/- FLOWS, COUNTED BY THEIR NODES -/
theorem sum_ite {k : Nat} (G : Nat → Nat) : ∀ m : List Nat, m.Nodup → (m.map fun n => G n + if k = n then 1 else 0).sum = (m.map G).sum + if k ∈ m then 1 else 0
  | [], _ => rfl
  | a :: m, hd => by
    rw [List.nodup_cons] at hd
    have ih := sum_ite (k := k) G m hd.2
    simp only [List.map_cons, List.sum_cons, ih]
    by_cases e : k = a
    · subst e
      rw [if_pos rfl, if_neg hd.1, if_pos (by simp)]; omega
    · rw [if_neg e]
      by_cases hm : k ∈ m
      · rw [if_pos hm, if_pos (List.mem_cons_of_mem _ hm)]; omega
      · rw [if_neg hm, if_neg (fun h => (List.mem_cons.1 h).elim e hm)]; omega
theorem count_by {α : Type} {N : Nat} (key : α → Int) : ∀ l : List α, (∀ x ∈ l, 0 ≤ key x ∧ key x < N) → ((List.range N).map fun n : Nat => (l.filter fun x => key x == (n : Int)).length).sum = l.length
  | [], _ => by
    have : ∀ m : List Nat, (m.map fun n : Nat => (([] : List α).filter fun x => key x == (n : Int)).length).sum = 0 := fun m => by
      induction m with
      | nil => rfl
      | cons a m ih => simp only [List.map_cons, List.sum_cons, ih]; rfl
    exact this _
  | x :: r, h => by
    have ih := count_by key r (fun y hy => h y (by simp [hy]))
    obtain ⟨h0, h1⟩ := h x (by simp)
    have hFG : (fun n : Nat => ((x :: r).filter fun x => key x == (n : Int)).length) = fun n : Nat => (r.filter fun x => key x == (n : Int)).length + if (key x).toNat = n then 1 else 0 := by
      funext n
      rw [List.filter_cons]
      by_cases e : key x = (n : Int)
      · rw [if_pos (by simpa using e), if_pos (by omega)]; rfl
      · rw [if_neg (by simpa using e), if_neg (by omega)]; rfl
    rw [hFG, sum_ite _ _ List.nodup_range, ih, if_pos (by rw [List.mem_range]; omega)]
    rfl
end Go.Proofs.Ytljcnopekjinjaa
/-
  The steps of a process: plain lists, no program in sight.
-/
set_option linter.unusedVariables false
set_option linter.unusedSimpArgs false
namespace Go.Proofs.Ytljcnopekjinjaa

abbrev LStep := Int × Int × Int
def stepsK (kind n : Int) (ins : List Int) (o : Nat) : List LStep :=
  if kind = 4 ∨ kind = 2 ∨ kind = 3 then ins.map fun f => (n, f, (2 : Int) ^ o - 1)
  else if kind = 5 then ins.flatMap fun f => (List.range o).map fun k : Nat => (n, f, (2 : Int) ^ k)
  else if kind = 6 then [(n, -1, (2 : Int) ^ o - 1)]
  else if kind = 7 then (List.range (2 ^ o - 1)).map fun k : Nat => (n, -1, (k : Int) + 1)
  else []
def kindAt (p : LProc) (n : Nat) : Int := (p.1.getD n (⟨#[]⟩, 0)).2
def stepsN (p : LProc) (n : Nat) : List LStep := stepsK (kindAt p n) (n : Int) (insL p.2 (n : Int)) (outsL p.2 (n : Int)).length
def stepsP (p : LProc) (k : Nat) : List LStep := (List.range k).flatMap (stepsN p)
abbrev stepsL (p : LProc) : List LStep := stepsP p p.1.length
noncomputable def stepsE (p : LProc) : List LStep × Int := if chkPr p ≠ 0 then ([], chkPr p) else if (stepsL p).length > 60 then ([], 2) else (stepsL p, 0)
theorem stepsP_next {p : LProc} {k : Nat} : stepsP p (k + 1) = stepsP p k ++ stepsN p k := by
  unfold stepsP; rw [List.range_succ, List.flatMap_append]; simp
theorem pow_pos2 (o : Nat) : (1 : Int) ≤ 2 ^ o := by
  have := Nat.one_le_two_pow (n := o)
  exact_mod_cast this
theorem pow_le2 {o m : Nat} (h : o ≤ m) : (2 : Int) ^ o ≤ 2 ^ m := by
  have := Nat.pow_le_pow_right (n := 2) (by omega) h
  exact_mod_cast this
theorem pow_lt2 {o m : Nat} (h : o < m) : (2 : Int) ^ o < 2 ^ m := by
  have := Nat.pow_lt_pow_right (a := 2) (by omega) h
  exact_mod_cast this
section
variable {kind n : Int} {ins : List Int} {o : Nat}
theorem stepsK_node : ∀ s ∈ stepsK kind n ins o, s.1 = n := by
  intro s hs
  unfold stepsK at hs
  split at hs
  · obtain ⟨f, _, rfl⟩ := List.mem_map.1 hs; rfl
  split at hs
  · obtain ⟨f, _, hs⟩ := List.mem_flatMap.1 hs
    obtain ⟨k, _, rfl⟩ := List.mem_map.1 hs; rfl
  split at hs
  · rw [List.mem_singleton] at hs; subst hs; rfl
  split at hs
  · obtain ⟨k, _, rfl⟩ := List.mem_map.1 hs; rfl
  · cases hs
theorem stepsK_in : ∀ s ∈ stepsK kind n ins o, s.2.1 = -1 ∨ s.2.1 ∈ ins := by
  intro s hs
  unfold stepsK at hs
  split at hs
  · obtain ⟨f, h, rfl⟩ := List.mem_map.1 hs; exact .inr h
  split at hs
  · obtain ⟨f, h, hs⟩ := List.mem_flatMap.1 hs
    obtain ⟨k, _, rfl⟩ := List.mem_map.1 hs; exact .inr h
  split at hs
  · rw [List.mem_singleton] at hs; subst hs; exact .inl rfl
  split at hs
  · obtain ⟨k, _, rfl⟩ := List.mem_map.1 hs; exact .inl rfl
  · cases hs
theorem stepsK_out : ∀ s ∈ stepsK kind n ins o, 0 ≤ s.2.2 ∧ s.2.2 < 2 ^ o := by
  intro s hs
  have hp := pow_pos2 o
  unfold stepsK at hs
  split at hs
  · obtain ⟨f, h, rfl⟩ := List.mem_map.1 hs; dsimp only; omega
  split at hs
  · obtain ⟨f, h, hs⟩ := List.mem_flatMap.1 hs
    obtain ⟨k, hk, rfl⟩ := List.mem_map.1 hs
    have := pow_lt2 (List.mem_range.1 hk)
    have := pow_pos2 k
    dsimp only; omega
  split at hs
  · rw [List.mem_singleton] at hs; subst hs; dsimp only; omega
  split at hs
  · obtain ⟨k, hk, rfl⟩ := List.mem_map.1 hs
    have hk := List.mem_range.1 hk
    have : ((2 ^ o : Nat) : Int) = (2 : Int) ^ o := by push_cast; rfl
    dsimp only; omega
  · cases hs
theorem stepsK_nodup (h : ins.Nodup) : (stepsK kind n ins o).Nodup := by
  unfold stepsK
  split
  · rw [List.Nodup, List.pairwise_map]
    exact h.imp fun hab e => hab (by injection e with _ e; injection e)
  split
  · rw [List.Nodup, List.pairwise_flatMap]
    refine ⟨fun f _ => ?_, ?_⟩
    · rw [List.pairwise_map]
      refine List.nodup_range.imp fun {a b} hab e => hab ?_
      have e : (2 : Int) ^ a = 2 ^ b := by injection e with _ e; injection e
      rcases Nat.lt_trichotomy a b with h | h | h
      · have := pow_lt2 h; omega
      · exact h
      · have := pow_lt2 h; omega
    · refine h.imp fun {a b} hab x hx y hy e => hab ?_
      obtain ⟨k, _, rfl⟩ := List.mem_map.1 hx
      obtain ⟨j, _, rfl⟩ := List.mem_map.1 hy
      injection e with _ e; injection e
  split
  · simp
  split
  · rw [List.Nodup, List.pairwise_map]
    refine List.nodup_range.imp fun {a b} hab e => hab ?_
    have e : (a : Int) + 1 = b + 1 := by injection e with _ e; injection e
    omega
  · simp
theorem stepsK_len (h : ins.length ≤ 30) (ho : o ≤ 30) (h7 : kind = 7 → o ≤ 4) : (stepsK kind n ins o).length ≤ 900 := by
  unfold stepsK
  split
  · rw [List.length_map]; omega
  split
  · rw [List.length_flatMap]
    have : ∀ l : List Int, (l.map fun f : Int => ((List.range o).map fun k : Nat => ((n, f, (2 : Int) ^ k) : LStep)).length).sum = l.length * o := fun l => by
      induction l with
      | nil => simp
      | cons a l ih => rw [List.map_cons, List.sum_cons, ih, List.length_map, List.length_range, List.length_cons, Nat.add_mul]; omega
    rw [this]
    exact Nat.mul_le_mul h ho
  split
  · simp
  split
  · rename_i h7'
    have := h7 h7'
    rw [List.length_map, List.length_range]
    have : 2 ^ o ≤ 2 ^ 4 := Nat.pow_le_pow_right (by omega) this
    omega
  · simp
end
theorem insL_nodup {fl : List LFlow} {n : Int} : (insL fl n).Nodup := by
  unfold insL insP
  rw [List.Nodup, List.pairwise_map]
  exact (List.nodup_range.filter _).imp fun hab e => hab (by omega)
theorem okPr_outs {p : LProc} (h : OkPr p) {n : Nat} (hn : n < p.1.length) (hk : kindAt p n = 7) : (outsL p.2 (n : Int)).length ≤ 4 := by
  have := h.count n hn
  unfold kindAt at hk
  rw [hk] at this
  unfold countsB at this
  simp at this
  omega
theorem stepsP_len {p : LProc} (h : OkPr p) : ∀ k, k ≤ p.1.length → (stepsP p k).length ≤ 900 * k
  | 0, _ => by simp [stepsP]
  | k + 1, hk => by
    have ih := stepsP_len h k (by omega)
    rw [stepsP_next, List.length_append]
    have h1 : (insL p.2 (k : Int)).length ≤ p.2.length := insP_len
    have h2 : (outsL p.2 (k : Int)).length ≤ p.2.length := outsP_len
    have := h.f
    have := stepsK_len (kind := kindAt p k) (n := (k : Int)) (ins := insL p.2 (k : Int)) (o := (outsL p.2 (k : Int)).length) (by omega) (by omega) (fun h7 => okPr_outs h (by omega) h7)
    unfold stepsN
    omega
theorem stepsP_mem {p : LProc} {k : Nat} {s : LStep} : s ∈ stepsP p k ↔ ∃ n, n < k ∧ s ∈ stepsN p n := by
  unfold stepsP
  rw [List.mem_flatMap]
  exact exists_congr fun n => by rw [List.mem_range]
theorem stepsP_nodup {p : LProc} {k : Nat} : (stepsP p k).Nodup := by
  unfold stepsP
  rw [List.Nodup, List.pairwise_flatMap]
  refine ⟨fun n _ => stepsK_nodup insL_nodup, ?_⟩
  refine List.nodup_range.imp fun {a b} hab x hx y hy e => hab ?_
  have h1 := stepsK_node x hx
  have h2 := stepsK_node y hy
  rw [e] at h1
  omega
/-- each node but the start has a step -/
theorem stepsN_some {p : LProc} (h : OkPr p) {n : Nat} (hn : n < p.1.length) : (stepsN p n ≠ []) ↔ kindAt p n ≠ 1 := by
  have hc := h.count n hn
  have hnd := h.nodes n hn
  have hkk : 1 ≤ kindAt p n ∧ kindAt p n ≤ 7 := by
    unfold nodeE at hnd
    unfold kindAt
    split at hnd
    · cases hnd
    · rename_i hx
      rw [Bool.not_eq_true, Bool.or_eq_false_iff, Bool.or_eq_false_iff, decide_eq_false_iff_not, decide_eq_false_iff_not] at hx
      omega
  unfold stepsN
  unfold kindAt at hkk ⊢
  generalize (p.1.getD n (⟨#[]⟩, 0)).2 = k at *
  generalize insL p.2 (n : Int) = ins at *
  generalize (outsL p.2 (n : Int)).length = o at *
  have hne : ∀ (l : List LStep), l ≠ [] ↔ 0 < l.length := fun l => by cases l <;> simp
  rw [hne]
  unfold countsB at hc
  unfold stepsK
  rcases (show k = 1 ∨ k = 2 ∨ k = 3 ∨ k = 4 ∨ k = 5 ∨ k = 6 ∨ k = 7 by omega) with rfl | rfl | rfl | rfl | rfl | rfl | rfl
  · simp
  · simp at hc; simp; omega
  · simp at hc; simp; omega
  · simp at hc; simp; omega
  · simp at hc
    simp
    obtain ⟨h1, h2⟩ := hc
    obtain ⟨a, r, rfl⟩ := List.exists_cons_of_length_pos h1
    simp; omega
  · simp
  · simp at hc
    simp
    have : 2 ^ 1 ≤ 2 ^ o := Nat.pow_le_pow_right (by omega) (by omega)
    omega
end Go.Proofs.Ytljcnopekjinjaa
/-
  Tokens: plain lists, no program in sight.
-/
set_option linter.unusedVariables false
set_option linter.unusedSimpArgs false
namespace Go.Proofs.Ytljcnopekjinjaa

def beginL (p : LProc) : List Int := p.2.map fun f => if kindAt p f.1.toNat = 1 then 1 else 0
def tokB (n : Int) : Bool := decide (n < 0) || decide (n > 9)
noncomputable def chkM (p : LProc) (m : List Int) : Int := if (stepsE p).2 ≠ 0 then (stepsE p).2 else if m.length ≠ p.2.length ∨ m.any tokB = true then 1 else 0
def comeStep (fl : List LFlow) (n : Int) (s : List Bool × List Int) (i : Nat) : List Bool × List Int :=
  if (fl.getD i (0, 0)).2 = n ∧ s.1.getD i false = false then (s.1.set i true, s.2 ++ [(i : Int)]) else s
def comeGo (fl : List LFlow) (but : Int) : Nat → List Bool → List Int → List Bool
  | 0, out, _ => out
  | _ + 1, out, [] => out
  | f + 1, out, x :: r =>
    if (fl.getD x.toNat (0, 0)).1 = but then comeGo fl but f out r
    else comeGo fl but f ((List.range fl.length).foldl (comeStep fl (fl.getD x.toNat (0, 0)).1) (out, r)).1 ((List.range fl.length).foldl (comeStep fl (fl.getD x.toNat (0, 0)).1) (out, r)).2
def comeL (fl : List LFlow) (flow : Nat) (but : Int) : List Bool := comeGo fl but fl.length ((List.replicate fl.length false).set flow true) [(flow : Int)]
def falses (l : List Bool) : Nat := l.countP fun b => !b
theorem falses_set {l : List Bool} {k : Nat} (hk : k < l.length) (h : l.getD k false = false) : falses (l.set k true) + 1 = falses l := by
  unfold falses
  rw [List.getD_eq_getElem?_getD, List.getElem?_eq_getElem hk] at h
  have h : l[k] = false := h
  rw [List.countP_set hk, h]
  have : 0 < l.countP fun b => !b := List.countP_pos_iff.2 ⟨l[k], List.getElem_mem hk, by simp [h]⟩
  simp; omega
theorem falses_rep {n : Nat} : falses (List.replicate n false) = n := by simp [falses, List.countP_replicate]
theorem falses_le {l : List Bool} : falses l ≤ l.length := List.countP_le_length
structure ComeI (fl : List LFlow) (out : List Bool) (todo : List Int) : Prop where
  len : out.length = fl.length
  ok : ∀ x ∈ todo, 0 ≤ x ∧ x < fl.length
theorem comeStep_ok {fl : List LFlow} {n : Int} {out : List Bool} {todo : List Int} {i : Nat} (hi : i < fl.length) (h : ComeI fl out todo) :
    ComeI fl (comeStep fl n (out, todo) i).1 (comeStep fl n (out, todo) i).2 ∧ (comeStep fl n (out, todo) i).2.length + falses (comeStep fl n (out, todo) i).1 = todo.length + falses out := by
  unfold comeStep
  split
  · rename_i hc
    have := falses_set (l := out) (k := i) (by rw [h.len]; exact hi) hc.2
    refine ⟨⟨by simpa using h.len, fun x hx => ?_⟩, by simp only [List.length_append, List.length_cons, List.length_nil]; omega⟩
    rcases List.mem_append.1 hx with hx | hx
    · exact h.ok x hx
    · rw [List.mem_singleton] at hx; omega
  · exact ⟨h, rfl⟩
theorem comeGo_nil {fl : List LFlow} {but : Int} {f : Nat} {out : List Bool} : comeGo fl but f out [] = out := by cases f <;> rfl
theorem comeGo_len {fl : List LFlow} {but : Int} : ∀ (f : Nat) (out : List Bool) (todo : List Int), out.length = fl.length → (comeGo fl but f out todo).length = fl.length
  | 0, out, _, h => h
  | _ + 1, out, [], h => h
  | f + 1, out, x :: r, h => by
    unfold comeGo
    split
    · exact comeGo_len f _ _ h
    · refine comeGo_len f _ _ ?_
      have : ∀ (l : List Nat) (s : List Bool × List Int), s.1.length = fl.length → (l.foldl (comeStep fl (fl.getD x.toNat (0, 0)).1) s).1.length = fl.length := by
        intro l
        induction l with
        | nil => intro s h; exact h
        | cons a l ih =>
          intro s h
          refine ih _ ?_
          unfold comeStep
          split
          · simpa using h
          · exact h
      exact this _ _ h
theorem comeL_len {fl : List LFlow} {flow : Nat} {but : Int} : (comeL fl flow but).length = fl.length := comeGo_len _ _ _ (by simp)
def badIn (p : LProc) (m : List Int) (node f : Int) : Bool := (List.range p.2.length).any fun i => (comeL p.2 f.toNat node).getD i false && decide (m.getD i 0 > 0) && decide ((p.2.getD i (0, 0)).2 ≠ node)
def joinsP (p : LProc) (m : List Int) (node : Int) : Bool :=
  if (insL p.2 node).any (fun f => !decide (m.getD f.toNat 0 > 0) && badIn p m node f) = true then false else (insL p.2 node).any fun f => decide (m.getD f.toNat 0 > 0)
def enabledP (p : LProc) (m : List Int) (s : LStep) : Bool :=
  if 0 ≤ s.2.1 then decide (m.getD s.2.1.toNat 0 > 0) else if kindAt p s.1.toNat = 7 then joinsP p m s.1 else !(insL p.2 s.1).any fun f => m.getD f.toNat 0 == 0
/-- the numbers of the steps that are enabled -/
def canP (p : LProc) (m : List Int) (k : Nat) : List Int := ((List.range k).filter fun i => enabledP p m ((stepsL p).getD i (0, 0, 0))).map fun i : Nat => (i : Int)
abbrev canL (p : LProc) (m : List Int) : List Int := canP p m (stepsL p).length
theorem canP_next {p : LProc} {m : List Int} {k : Nat} : canP p m (k + 1) = canP p m k ++ (if enabledP p m ((stepsL p).getD k (0, 0, 0)) = true then [(k : Int)] else []) := by
  unfold canP
  rw [List.range_succ, List.filter_append, List.map_append]
  congr 1
  by_cases h : enabledP p m ((stepsL p).getD k (0, 0, 0)) = true
  · rw [if_pos h, List.filter_cons_of_pos (p := fun i => enabledP p m ((stepsL p).getD i (0, 0, 0))) h]; rfl
  · rw [if_neg h, List.filter_cons_of_neg (p := fun i => enabledP p m ((stepsL p).getD i (0, 0, 0))) h]; rfl
/-- what a step takes off flow f -/
def takes (m : List Int) (s : LStep) (f : Int) : Int := if s.2.1 = f ∨ s.2.1 < 0 ∧ m.getD f.toNat 0 > 0 then m.getD f.toNat 0 - 1 else m.getD f.toNat 0
def takeAll (s : LStep) : List Int → List Int → List Int
  | m, [] => m
  | m, f :: r => takeAll s (m.set f.toNat (takes m s f)) r
/-- bit k of n -/
def bitK (n : Int) (k : Nat) : Int := (n / 2 ^ k) % 2
def putAll (n : Int) : Nat → List Int → List Int → Option (List Int)
  | _, m, [] => some m
  | k, m, f :: r => if bitK n k = 1 then (if m.getD f.toNat 0 + 1 > 9 then none else putAll n (k + 1) (m.set f.toNat (m.getD f.toNat 0 + 1)) r) else putAll n (k + 1) m r
def fireP (p : LProc) (m : List Int) (s : LStep) : Option (List Int) :=
  if kindAt p s.1.toNat = 3 then some (m.map fun _ => 0) else putAll s.2.2 0 (takeAll s m (insL p.2 s.1)) (outsL p.2 s.1)
noncomputable def fireE (p : LProc) (m : List Int) (k : Int) : List Int × Int :=
  if chkM p m ≠ 0 then ([], chkM p m) else if k < 0 ∨ k ≥ (stepsL p).length then ([], 1)
  else if enabledP p m ((stepsL p).getD k.toNat (0, 0, 0)) = false then ([], 9)
  else ((fireP p m ((stepsL p).getD k.toNat (0, 0, 0))).getD [], if (fireP p m ((stepsL p).getD k.toNat (0, 0, 0))).isSome then 0 else 7)
noncomputable def canE (p : LProc) (m : List Int) : List Int := if chkM p m = 0 then canL p m else []
def pickD (d : Int) (can : List Int) : Int := can.getD (d % can.length).toNat 0
/-- markings along steps that are chosen by dice -/
noncomputable def walkGo (p : LProc) : List Int → List Int → List (List Int) × List Int
  | [], _ => ([], [])
  | d :: r, m =>
    if canE p m = [] then ([], [])
    else if (fireE p m (pickD d (canE p m))).2 ≠ 0 then ([], [])
    else ((fireE p m (pickD d (canE p m))).1 :: (walkGo p r (fireE p m (pickD d (canE p m))).1).1, pickD d (canE p m) :: (walkGo p r (fireE p m (pickD d (canE p m))).1).2)
noncomputable def walkedP (p : LProc) (dice : List Int) : List (List Int) × List Int :=
  if (stepsE p).2 ≠ 0 then ([], []) else (beginL p :: (walkGo p dice (beginL p)).1, (walkGo p dice (beginL p)).2)
end Go.Proofs.Ytljcnopekjinjaa
/-
  All markings: plain lists, no program in sight.
-/
set_option linter.unusedVariables false
set_option linter.unusedSimpArgs false
namespace Go.Proofs.Ytljcnopekjinjaa

abbrev LEdge := Int × Int
/-- markings; whence they came; the last step that was tried -/
abbrev Sr := List (List Int) × List (Int × Int) × (Int × Int)
def tooMany (tok : Int) (m : List Int) : Bool := m.any fun n => decide (n > tok)
def posOf (m : List Int) : List (List Int) → Nat
  | [] => 0
  | x :: r => if x = m then 0 else posOf m r + 1
/-- a marking's number, or an error -/
def putE (tok st : Int) (s : Sr) (m : List Int) (fr : Int × Int) : Sr × Int × Int :=
  if tooMany tok m = true then ((s.1, s.2.1, fr), 0, 7)
  else if m ∈ s.1 then ((s.1, s.2.1, fr), (posOf m s.1 : Int), 0)
  else if (s.1.length : Int) = st then ((s.1, s.2.1, fr), 0, 8)
  else ((s.1 ++ [m], s.2.1 ++ [fr], fr), (s.1.length : Int), 0)
noncomputable def edgesGo (p : LProc) (tok st n : Int) (m : List Int) : List Int → Sr → List LEdge → Sr × List LEdge × Int
  | [], s, out => (s, out, 0)
  | k :: r, s, out =>
    if (fireE p m k).2 ≠ 0 then ((s.1, s.2.1, (n, k)), [], (fireE p m k).2)
    else if (putE tok st s (fireE p m k).1 (n, k)).2.2 ≠ 0 then ((putE tok st s (fireE p m k).1 (n, k)).1, [], (putE tok st s (fireE p m k).1 (n, k)).2.2)
    else edgesGo p tok st n m r (putE tok st s (fireE p m k).1 (n, k)).1 (out ++ [(k, (putE tok st s (fireE p m k).1 (n, k)).2.1)])
noncomputable def edgesE (p : LProc) (tok st : Int) (n : Nat) (s : Sr) : Sr × List LEdge × Int := edgesGo p tok st (n : Int) (s.1.getD n []) (canE p (s.1.getD n [])) s []
noncomputable def runGo (p : LProc) (tok st : Int) : Nat → Nat → Sr → List (List LEdge) → Sr × List (List LEdge) × Int
  | 0, n, s, nx => (s, nx, 0)
  | f + 1, n, s, nx =>
    if n < s.1.length then
      (if (edgesE p tok st n s).2.2 ≠ 0 then ((edgesE p tok st n s).1, nx, (edgesE p tok st n s).2.2) else runGo p tok st f (n + 1) (edgesE p tok st n s).1 (nx ++ [(edgesE p tok st n s).2.1]))
    else (s, nx, 0)
def runArg (tok st : Int) : Int := if tok < 1 ∨ tok > 9 ∨ st < 1 ∨ st > 200 then 1 else 0
noncomputable def runB (p : LProc) (tok st : Int) : Sr × List (List LEdge) × Int :=
  if (putE tok st ([], [], (0, 0)) (beginL p) (-1, -1)).2.2 ≠ 0 then ((putE tok st ([], [], (0, 0)) (beginL p) (-1, -1)).1, [], (putE tok st ([], [], (0, 0)) (beginL p) (-1, -1)).2.2)
  else runGo p tok st 201 0 (putE tok st ([], [], (0, 0)) (beginL p) (-1, -1)).1 []
/-- an error ahead of the search, 0: none -/
noncomputable def runPre (p : LProc) (tok st : Int) : Int := if (stepsE p).2 ≠ 0 then (stepsE p).2 else runArg tok st
noncomputable def exploreE (p : LProc) (tok st : Int) : (List (List Int) × List (List LEdge)) × Int :=
  if runPre p tok st ≠ 0 then (([], []), runPre p tok st)
  else if (runB p tok st).2.2 ≠ 0 then (([], []), (runB p tok st).2.2) else (((runB p tok st).1.1, (runB p tok st).2.1), 0)

/- KEYS -/
def keyX (m : List Int) : List Int := (List.range 30).map fun i => m.getD i 0
theorem keyX_len (m : List Int) : (keyX m).length = 30 := by simp [keyX]
theorem keyX_inj {a b : List Int} (ha : a.length ≤ 30) (h : a.length = b.length) (he : keyX a = keyX b) : a = b := by
  refine List.ext_getElem h fun i h1 h2 => ?_
  have hi : i < 30 := by omega
  have h3 : (keyX a)[i]'(by rw [keyX_len]; exact hi) = (keyX b)[i]'(by rw [keyX_len]; exact hi) := by simp only [he]
  simp only [keyX, List.getElem_map, List.getElem_range, List.getD_eq_getElem?_getD, List.getElem?_eq_getElem h1, List.getElem?_eq_getElem h2, Option.getD_some] at h3
  exact h3
theorem posOf_at {m : List Int} : ∀ {l : List (List Int)} {j : Nat} (hj : j < l.length), l.Nodup → l[j] = m → posOf m l = j
  | x :: r, 0, _, _, h => by
    unfold posOf
    rw [if_pos (by simpa using h)]
  | x :: r, j + 1, hj, hd, h => by
    rw [List.nodup_cons] at hd
    unfold posOf
    have hmem : m ∈ r := by
      rw [← h, List.getElem_cons_succ]
      exact List.getElem_mem _
    rw [if_neg (fun e => hd.1 (by rw [e]; exact hmem)), posOf_at (j := j) (by simpa using hj) hd.2 (by simpa using h)]
end Go.Proofs.Ytljcnopekjinjaa
/-
  Contracts of the generic functions of package slices, at the types where the program uses them.
-/
set_option linter.unusedVariables false
namespace Go.Proofs.Ytljcnopekjinjaa
open Go.RowKit

/-- the place of the first one that is so; -1: none is -/
def idxOf {α : Type} (p : α → Bool) (xs : List α) : Int := match xs.findIdx? p with | some i => (i : Int) | none => -1
theorem idxOf_here {α : Type} {p : α → Bool} {xs : List α} {k : Nat} (hk : k < xs.length) (hn : ∀ j (h : j < xs.length), j < k → p xs[j] = false) (hp : p xs[k] = true) : idxOf p xs = k := by
  have : xs.findIdx? p = some k := by
    rw [List.findIdx?_eq_some_iff_getElem]
    exact ⟨hk, hp, fun j hj => by simp [hn j (by omega) hj]⟩
  simp [idxOf, this]
theorem idxOf_none {α : Type} {p : α → Bool} {xs : List α} (hn : ∀ j (h : j < xs.length), p xs[j] = false) : idxOf p xs = -1 := by
  have : xs.findIdx? p = none := by
    rw [List.findIdx?_eq_none_iff]
    intro x hx
    obtain ⟨j, hj, rfl⟩ := List.mem_iff_getElem.1 hx
    exact hn j hj
  simp [idxOf, this]
theorem idxOf_any {α : Type} (p : α → Bool) (xs : List α) : decide (idxOf p xs ≥ 0) = xs.any p := by
  unfold idxOf
  cases h : xs.findIdx? p with
  | none =>
    rw [List.findIdx?_eq_none_iff] at h
    have : xs.any p = false := by rw [List.any_eq_false]; intro x hx; simp [h x hx]
    rw [this]; rfl
  | some i =>
    obtain ⟨h1, h2, _⟩ := List.findIdx?_eq_some_iff_getElem.1 h
    have : xs.any p = true := List.any_eq_true.2 ⟨xs[i], List.getElem_mem _, h2⟩
    rw [this]; simp

theorem indexFunc_int (w0 : World) {ao : Option Addr} {cap : Nat} {xs : List Int} {fv : Value} (p : Int → Bool) (hs : Sl w0 (Old w0) ao cap xs)
    (hf : ∀ w, Ext w0 w → ∀ i (h : i < xs.length), FnV Try.prog fv [.int .i64 xs[i]] w fun v w' => v = .bool (p xs[i]) ∧ Ext w w') :
    Rt Try.prog 40 [.slice ao xs.length cap, fv].toArray w0 fun v w' => v = .int .i64 (idxOf p xs) ∧ Ext w0 w' := by
  have hm := hs.len63
  refine Rt.enter2 Try.func40 Try.ntmps40 rfl rfl ?_
  (repeat (first | (apply WL.pure; rfl; rfl; rfl) | (apply WL.nil) | (apply EX.thenN) | (apply CW.seq) | (apply CW.region) | (apply WL.lenS; rfl; rfl; rfl) | (apply CW.block)))
  refine CW.loop (S := Nat) (fun k => [(0, .slice ao xs.length cap), (1, fv), (7, .int .i64 xs.length), (8, .int .i64 k)])
    (fun k w => k ≤ xs.length ∧ Ext w0 w ∧ ∀ j (h : j < xs.length), j < k → p xs[j] = false) (fun k => xs.length - k) 0 (by repeat (first | exact trivial | refine ⟨rfl, ?_⟩)) ⟨by omega, Ext.refl _, by omega⟩ ?_
  rintro k w ⟨hk, hB, hn⟩
  (repeat (first | (apply WL.pure; rfl; rfl; rfl) | (apply WL.nil) | (apply EX.thenN) | (apply CW.seq) | (apply CW.region)))
  refine CW.cond rfl (fun h => ?_) (fun h => ?_)
  · simp at h
    (repeat (first | (apply WL.pure; rfl; rfl; rfl) | (apply WL.nil) | (apply EX.thenN) | (apply CW.seq) | (apply CW.region) | (apply CW.block) | (apply CW.skip)))
    refine WL.elemI rfl rfl rfl rfl rfl (hs.at hB) h rfl (fun _ => rfl) (fun q => ?_)
    refine WL.callF rfl rfl rfl rfl (hf w hB k h) ?_
    rintro v w' ⟨rfl, hB'⟩
    (repeat (first | (apply WL.nil) | (apply EX.thenN)))
    refine CW.cond rfl (fun h' => ?_) (fun h' => ?_)
    · (repeat (first | (apply WL.pure; rfl; rfl; rfl) | (apply WL.nil) | (apply EX.thenN) | (apply CW.seq) | (apply CW.region) | (apply CW.ret) | (apply EX.thenR) | (apply EX.inR)))
      refine EX.ret1 rfl rfl ⟨?_, hB.trans hB'⟩
      rw [idxOf_here h hn h']
    · (repeat (first | (apply WL.add; rfl; rfl; rfl; rfl; omega; omega) | (apply WL.pure; rfl; rfl; rfl) | (apply WL.nil) | (apply EX.thenN) | (apply CW.region) | (apply EX.inN) | (apply CW.skip)))
      refine EX.back (k + 1) (by repeat (first | exact trivial | refine ⟨rfl, ?_⟩)) ⟨h, hB.trans hB', ?_⟩ (by omega)
      intro j hj hlt
      by_cases e : j = k
      · subst e; exact h'
      · exact hn j hj (by omega)
  · simp at h
    (repeat (first | (apply WL.pure; rfl; rfl; rfl) | (apply WL.nil) | (apply EX.thenN) | (apply CW.seq) | (apply CW.region) | (apply CW.exit) | (apply EX.thenX) | (apply EX.inX) | (apply CW.ret)))
    refine EX.ret1 rfl rfl ⟨?_, hB⟩
    rw [idxOf_none (fun j hj => hn j hj (by omega))]

theorem containsFunc_int (w0 : World) {ao : Option Addr} {cap : Nat} {xs : List Int} {fv : Value} (p : Int → Bool) (hs : Sl w0 (Old w0) ao cap xs)
    (hf : ∀ w, Ext w0 w → ∀ i (h : i < xs.length), FnV Try.prog fv [.int .i64 xs[i]] w fun v w' => v = .bool (p xs[i]) ∧ Ext w w') :
    Rt Try.prog 13 [.slice ao xs.length cap, fv].toArray w0 fun v w' => v = .bool (xs.any p) ∧ Ext w0 w' := by
  refine Rt.enter2 Try.func13 Try.ntmps13 rfl rfl ?_
  (repeat (first | (apply WL.pure; rfl; rfl; rfl) | (apply WL.nil) | (apply EX.thenN) | (apply CW.seq) | (apply CW.region)))
  refine WL.call rfl rfl rfl (indexFunc_int w0 p hs hf) ?_
  rintro v w' ⟨rfl, hB⟩
  (repeat (first | (apply WL.pure; rfl; rfl; rfl) | (apply WL.nil) | (apply EX.thenN) | (apply CW.ret)))
  refine EX.ret1 rfl rfl ⟨?_, hB⟩
  rw [← idxOf_any]

/-- slices.Equal over lists whose elements are compared by one word -/
theorem equal_bool (w0 : World) {ao bo : Option Addr} {cap cap' : Nat} {xs ys : List Bool} (hs : Sl w0 (Old w0) ao cap xs) (ht : Sl w0 (Old w0) bo cap' ys) :
    Rt Try.prog 78 [.slice ao xs.length cap, .slice bo ys.length cap'].toArray w0 fun v w' => v = .bool (xs == ys) ∧ Ext w0 w' := by
  have hm := hs.len63
  refine Rt.enter2 Try.func78 Try.ntmps78 rfl rfl ?_
  (repeat (first | (apply WL.pure; rfl; rfl; rfl) | (apply WL.nil) | (apply EX.thenN) | (apply CW.seq) | (apply CW.region) | (apply WL.lenS; rfl; rfl; rfl)))
  refine CW.cond rfl (fun h => ?_) (fun h => ?_)
  · (repeat (first | (apply WL.pure; rfl; rfl; rfl) | (apply WL.nil) | (apply EX.thenN) | (apply CW.seq) | (apply CW.region) | (apply CW.ret) | (apply EX.thenR)))
    refine EX.ret1 rfl rfl ⟨?_, Ext.refl _⟩
    simp at h
    have : (xs == ys) = false := by rw [beq_eq_false_iff_ne]; intro e; exact h (by rw [e])
    rw [this]
  · simp at h
    (repeat (first | (apply WL.pure; rfl; rfl; rfl) | (apply WL.nil) | (apply EX.thenN) | (apply CW.seq) | (apply CW.region) | (apply WL.lenS; rfl; rfl; rfl) | (apply CW.block) | (apply CW.skip)))
    refine CW.loop (S := Nat) (fun k => [(0, .slice ao xs.length cap), (1, .slice bo ys.length cap'), (12, .int .i64 xs.length), (13, .int .i64 k)])
      (fun k w => k ≤ xs.length ∧ Ext w0 w ∧ ∀ j (h : j < xs.length) (h' : j < ys.length), j < k → xs[j] = ys[j]) (fun k => xs.length - k) 0 (by repeat (first | exact trivial | refine ⟨rfl, ?_⟩)) ⟨by omega, Ext.refl _, by omega⟩ ?_
    rintro k w ⟨hk, hB, hn⟩
    (repeat (first | (apply WL.pure; rfl; rfl; rfl) | (apply WL.nil) | (apply EX.thenN) | (apply CW.seq) | (apply CW.region)))
    refine CW.cond rfl (fun h1 => ?_) (fun h1 => ?_)
    · simp at h1
      (repeat (first | (apply WL.pure; rfl; rfl; rfl) | (apply QL.pure; rfl; rfl; rfl) | (apply WL.nil) | (apply EX.thenN) | (apply CW.seq) | (apply CW.region) | (apply CW.block) | (apply CW.skip) | (apply CW.draw; exact mixed; kernel_rfl)))
      refine QL.elemB rfl rfl rfl rfl rfl (fun _ h => h) (hs.up hB) h1 rfl (fun _ => rfl) (fun q => ?_)
      (repeat (apply QL.pure; rfl; rfl; rfl))
      refine QL.elemB rfl rfl rfl rfl rfl (fun _ h => h) (ht.up hB) (by omega) rfl (fun _ => rfl) (fun q' => ?_)
      (repeat (apply QL.neB; rfl; rfl; rfl; rfl))
      refine QL.nil (fun w1 hE => ?_)
      (repeat (apply EX.thenN))
      refine CW.cond rfl (fun h2 => ?_) (fun h2 => ?_)
      · (repeat (first | (apply WL.pure; rfl; rfl; rfl) | (apply WL.nil) | (apply EX.thenN) | (apply CW.seq) | (apply CW.region) | (apply CW.ret) | (apply EX.thenR) | (apply EX.inR)))
        refine EX.ret1 rfl rfl ⟨?_, hB.trans hE⟩
        simp at h2
        have : (xs == ys) = false := by rw [beq_eq_false_iff_ne]; intro e; subst e; exact h2 rfl
        rw [this]
      · simp at h2
        (repeat (first | (apply WL.add; rfl; rfl; rfl; rfl; omega; omega) | (apply WL.pure; rfl; rfl; rfl) | (apply WL.nil) | (apply EX.thenN) | (apply CW.region) | (apply EX.inN) | (apply CW.skip)))
        refine EX.back (k + 1) (by repeat (first | exact trivial | refine ⟨rfl, ?_⟩)) ⟨h1, hB.trans hE, ?_⟩ (by omega)
        intro j hj hj' hlt
        by_cases e : j = k
        · subst e; exact h2
        · exact hn j hj hj' (by omega)
    · simp at h1
      (repeat (first | (apply WL.pure; rfl; rfl; rfl) | (apply WL.nil) | (apply EX.thenN) | (apply CW.seq) | (apply CW.region) | (apply CW.exit) | (apply EX.thenX) | (apply EX.inX) | (apply CW.ret)))
      refine EX.ret1 rfl rfl ⟨?_, hB⟩
      have : (xs == ys) = true := by
        rw [beq_iff_eq]
        exact List.ext_getElem (by omega) fun j h1 h2 => hn j h1 h2 (by omega)
      rw [this]
end Go.Proofs.Ytljcnopekjinjaa
