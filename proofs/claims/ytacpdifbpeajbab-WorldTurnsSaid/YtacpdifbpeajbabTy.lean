/-
  The types and functions of the program, as our walks ask for them.
-/
import Derived.Test.YtacpdifbpeajbabPr
import Derived.Test.YtacpdifbpeajbabHeld2
import Derived.Test.YtacpdifbpeajbabProg
set_option linter.unusedVariables false
namespace Go.Proofs.Ytacpdifbpeajbab

theorem mixed : Try.prog.follows .mixedOrders = true := by kernel_rfl
instance : IsT Try.prog 3 Int := IsT.of (by kernel_rfl) Try.underlying3 rfl
instance : IsZ Try.prog 3 (0 : Int) 8 := IsZ.of (z := .int .i64 0) (by kernel_rfl) (fun _ _ => rfl)
instance : IsC Try.prog 3 1 false := IsC.of (by kernel_rfl) Try.underlying3 rfl
instance : IsZC Try.prog 3 [.int .i64 0] := IsZC.of (z := .int .i64 0) (by kernel_rfl) rfl
instance : IsT Try.prog 4 Bool := IsT.of (by kernel_rfl) Try.underlying4 rfl
instance : IsZ Try.prog 4 false 1 := IsZ.of (z := .bool false) (by kernel_rfl) (fun _ _ => rfl)
instance : IsC Try.prog 4 1 false := IsC.of (by kernel_rfl) Try.underlying4 rfl
instance : IsZC Try.prog 4 [.bool false] := IsZC.of (z := .bool false) (by kernel_rfl) rfl
instance : IsT Try.prog 30 Nat := IsT.of (by kernel_rfl) Try.underlying30 rfl
instance : IsZ Try.prog 30 (0 : Nat) 8 := IsZ.of (z := .int .u64 0) (by kernel_rfl) (fun _ _ => ⟨rfl, by decide⟩)
instance : IsC Try.prog 30 1 false := IsC.of (by kernel_rfl) Try.underlying30 rfl
instance : IsZC Try.prog 30 [.int .u64 0] := IsZC.of (z := .int .u64 0) (by kernel_rfl) rfl
instance : IsT Try.prog 9 ByteArray := IsT.of (by kernel_rfl) Try.underlying9 rfl
instance : IsC Try.prog 9 1 false := IsC.of (by kernel_rfl) Try.underlying9 rfl
instance : IsZC Try.prog 9 [.string ⟨#[]⟩] := IsZC.of (z := .string ⟨#[]⟩) (by kernel_rfl) rfl
instance : IsT Try.prog 25 Int := IsT.of (by kernel_rfl) Try.underlying25 rfl
instance : IsZ Try.prog 25 (0 : Int) 8 := IsZ.of (z := .int .i64 0) (by kernel_rfl) (fun _ _ => rfl)
instance : IsC Try.prog 25 1 false := IsC.of (by kernel_rfl) Try.underlying25 rfl
instance : IsZC Try.prog 25 [.int .i64 0] := IsZC.of (z := .int .i64 0) (by kernel_rfl) rfl
instance : IsB Try.prog 4 := ⟨Try.underlying4⟩
instance : IsI Try.prog 3 .i64 := ⟨Try.underlying3⟩
instance : IsI Try.prog 30 .u64 := ⟨Try.underlying30⟩
instance : IsI Try.prog 5 .u8 := ⟨Try.underlying5⟩
instance : IsT Try.prog 35 (List Int) := IsT.of (by kernel_rfl) Try.underlying35 rfl
instance : IsS Try.prog 35 3 := ⟨Try.underlying35⟩
instance : IsZ Try.prog 35 ([] : List Int) 24 := IsZ.of (z := .slice none 0 0) (by kernel_rfl) (fun _ _ => ⟨none, 0, rfl, by simp, by simp [maxLen], fun _ => rfl, fun i hi => absurd hi (by simp)⟩)
instance : IsC Try.prog 35 1 false := IsC.of (by kernel_rfl) Try.underlying35 rfl
instance : IsZC Try.prog 35 [.slice none 0 0] := IsZC.of (z := .slice none 0 0) (by kernel_rfl) rfl
instance : IsT Try.prog 34 (List (List Int)) := IsT.of (by kernel_rfl) Try.underlying34 rfl
instance : IsS Try.prog 34 35 := ⟨Try.underlying34⟩
instance : IsZ Try.prog 34 ([] : List (List Int)) 24 := IsZ.of (z := .slice none 0 0) (by kernel_rfl) (fun _ _ => ⟨none, 0, rfl, by simp, by simp [maxLen], fun _ => rfl, fun i hi => absurd hi (by simp)⟩)
instance : IsC Try.prog 34 1 false := IsC.of (by kernel_rfl) Try.underlying34 rfl
instance : IsZC Try.prog 34 [.slice none 0 0] := IsZC.of (z := .slice none 0 0) (by kernel_rfl) rfl
instance : IsT Try.prog 41 (List Bool) := IsT.of (by kernel_rfl) Try.underlying41 rfl
instance : IsS Try.prog 41 4 := ⟨Try.underlying41⟩
instance : IsZ Try.prog 41 ([] : List Bool) 24 := IsZ.of (z := .slice none 0 0) (by kernel_rfl) (fun _ _ => ⟨none, 0, rfl, by simp, by simp [maxLen], fun _ => rfl, fun i hi => absurd hi (by simp)⟩)
instance : IsC Try.prog 41 1 false := IsC.of (by kernel_rfl) Try.underlying41 rfl
instance : IsZC Try.prog 41 [.slice none 0 0] := IsZC.of (z := .slice none 0 0) (by kernel_rfl) rfl
instance : IsT Try.prog 22 (List Nat) := IsT.of (by kernel_rfl) Try.underlying22 rfl
instance : IsS Try.prog 22 30 := ⟨Try.underlying22⟩
instance : IsZ Try.prog 22 ([] : List Nat) 24 := IsZ.of (z := .slice none 0 0) (by kernel_rfl) (fun _ _ => ⟨none, 0, rfl, by simp, by simp [maxLen], fun _ => rfl, fun i hi => absurd hi (by simp)⟩)
instance : IsC Try.prog 22 1 false := IsC.of (by kernel_rfl) Try.underlying22 rfl
instance : IsZC Try.prog 22 [.slice none 0 0] := IsZC.of (z := .slice none 0 0) (by kernel_rfl) rfl
instance : IsT Try.prog 24 (List Nat × List Nat) := IsT.of (by kernel_rfl) Try.underlying24 rfl
instance : IsC Try.prog 24 2 true := IsC.of (by kernel_rfl) Try.underlying24 rfl
instance : IsFd Try.prog 24 0 0 := IsFd.of (by kernel_rfl)
instance : IsFd Try.prog 24 1 1 := IsFd.of (by kernel_rfl)
instance : IsZC Try.prog 24 [.slice none 0 0, .slice none 0 0] := IsZC.of (z := .agg #[.slice none 0 0, .slice none 0 0]) (by kernel_rfl) rfl
instance : IsBd Try.prog 24 [(0, 1), (1, 1)] := IsBd.of (by kernel_rfl)
instance : IsT Try.prog 56 (List Int × List Int) := IsT.of (by kernel_rfl) Try.underlying56 rfl
instance : IsC Try.prog 56 2 true := IsC.of (by kernel_rfl) Try.underlying56 rfl
instance : IsFd Try.prog 56 0 0 := IsFd.of (by kernel_rfl)
instance : IsFd Try.prog 56 1 1 := IsFd.of (by kernel_rfl)
instance : IsZC Try.prog 56 [.slice none 0 0, .slice none 0 0] := IsZC.of (z := .agg #[.slice none 0 0, .slice none 0 0]) (by kernel_rfl) rfl
instance : IsBd Try.prog 56 [(0, 1), (1, 1)] := IsBd.of (by kernel_rfl)
instance : IsT Try.prog 29 (Int × Int × Int × Int × Int × Int × Int) := IsT.of (by kernel_rfl) Try.underlying29 rfl
instance : IsC Try.prog 29 7 true := IsC.of (by kernel_rfl) Try.underlying29 rfl
instance : IsFd Try.prog 29 0 0 := IsFd.of (by kernel_rfl)
instance : IsFd Try.prog 29 1 1 := IsFd.of (by kernel_rfl)
instance : IsFd Try.prog 29 2 2 := IsFd.of (by kernel_rfl)
instance : IsFd Try.prog 29 3 3 := IsFd.of (by kernel_rfl)
instance : IsFd Try.prog 29 4 4 := IsFd.of (by kernel_rfl)
instance : IsFd Try.prog 29 5 5 := IsFd.of (by kernel_rfl)
instance : IsFd Try.prog 29 6 6 := IsFd.of (by kernel_rfl)
instance : IsZC Try.prog 29 [.int .i64 0, .int .i64 0, .int .i64 0, .int .i64 0, .int .i64 0, .int .i64 0, .int .i64 0] := IsZC.of (z := .agg #[.int .i64 0, .int .i64 0, .int .i64 0, .int .i64 0, .int .i64 0, .int .i64 0, .int .i64 0]) (by kernel_rfl) rfl
instance : IsBd Try.prog 29 [(0, 1), (1, 1), (2, 1), (3, 1), (4, 1), (5, 1), (6, 1)] := IsBd.of (by kernel_rfl)
instance : IsZ Try.prog 29 ((0, 0, 0, 0, 0, 0, 0) : (Int × Int × Int × Int × Int × Int × Int)) 56 := IsZ.of (z := .agg #[.int .i64 0, .int .i64 0, .int .i64 0, .int .i64 0, .int .i64 0, .int .i64 0, .int .i64 0]) (by kernel_rfl) (fun _ _ => rd_mk (rd_mkInt _ _ _) (rd_mk (rd_mkInt _ _ _) (rd_mk (rd_mkInt _ _ _) (rd_mk (rd_mkInt _ _ _) (rd_mk (rd_mkInt _ _ _) (rd_mk (rd_mkInt _ _ _) (rd_mkInt _ _ _)))))))
instance : IsT Try.prog 46 (Int × Int × Int × Int) := IsT.of (by kernel_rfl) Try.underlying46 rfl
instance : IsC Try.prog 46 4 true := IsC.of (by kernel_rfl) Try.underlying46 rfl
instance : IsFd Try.prog 46 0 0 := IsFd.of (by kernel_rfl)
instance : IsFd Try.prog 46 1 1 := IsFd.of (by kernel_rfl)
instance : IsFd Try.prog 46 2 2 := IsFd.of (by kernel_rfl)
instance : IsFd Try.prog 46 3 3 := IsFd.of (by kernel_rfl)
instance : IsZC Try.prog 46 [.int .i64 0, .int .i64 0, .int .i64 0, .int .i64 0] := IsZC.of (z := .agg #[.int .i64 0, .int .i64 0, .int .i64 0, .int .i64 0]) (by kernel_rfl) rfl
instance : IsBd Try.prog 46 [(0, 1), (1, 1), (2, 1), (3, 1)] := IsBd.of (by kernel_rfl)
instance : IsZ Try.prog 46 ((0, 0, 0, 0) : (Int × Int × Int × Int)) 32 := IsZ.of (z := .agg #[.int .i64 0, .int .i64 0, .int .i64 0, .int .i64 0]) (by kernel_rfl) (fun _ _ => rd_mk (rd_mkInt _ _ _) (rd_mk (rd_mkInt _ _ _) (rd_mk (rd_mkInt _ _ _) (rd_mkInt _ _ _))))
instance : IsT Try.prog 54 (List Int × List (List Int) × List Nat × List (List Int)) := IsT.of (by kernel_rfl) Try.underlying54 rfl
instance : IsC Try.prog 54 4 true := IsC.of (by kernel_rfl) Try.underlying54 rfl
instance : IsFd Try.prog 54 0 0 := IsFd.of (by kernel_rfl)
instance : IsFd Try.prog 54 1 1 := IsFd.of (by kernel_rfl)
instance : IsFd Try.prog 54 2 2 := IsFd.of (by kernel_rfl)
instance : IsFd Try.prog 54 3 3 := IsFd.of (by kernel_rfl)
instance : IsZC Try.prog 54 [.slice none 0 0, .slice none 0 0, .slice none 0 0, .slice none 0 0] := IsZC.of (z := .agg #[.slice none 0 0, .slice none 0 0, .slice none 0 0, .slice none 0 0]) (by kernel_rfl) rfl
instance : IsBd Try.prog 54 [(0, 1), (1, 1), (2, 1), (3, 1)] := IsBd.of (by kernel_rfl)
instance : IsT Try.prog 76 (Int × Int) := IsT.of (by kernel_rfl) Try.underlying76 rfl
instance : IsC Try.prog 76 2 true := IsC.of (by kernel_rfl) Try.underlying76 rfl
instance : IsFd Try.prog 76 0 0 := IsFd.of (by kernel_rfl)
instance : IsFd Try.prog 76 1 1 := IsFd.of (by kernel_rfl)
instance : IsZC Try.prog 76 [.int .i64 0, .int .i64 0] := IsZC.of (z := .agg #[.int .i64 0, .int .i64 0]) (by kernel_rfl) rfl
instance : IsBd Try.prog 76 [(0, 1), (1, 1)] := IsBd.of (by kernel_rfl)
instance : IsZ Try.prog 76 ((0, 0) : (Int × Int)) 16 := IsZ.of (z := .agg #[.int .i64 0, .int .i64 0]) (by kernel_rfl) (fun _ _ => rd_mk (rd_mkInt _ _ _) (rd_mkInt _ _ _))
instance : IsT Try.prog 89 (Bool × Bool) := IsT.of (by kernel_rfl) Try.underlying89 rfl
instance : IsC Try.prog 89 2 true := IsC.of (by kernel_rfl) Try.underlying89 rfl
instance : IsFd Try.prog 89 0 0 := IsFd.of (by kernel_rfl)
instance : IsFd Try.prog 89 1 1 := IsFd.of (by kernel_rfl)
instance : IsZC Try.prog 89 [.bool false, .bool false] := IsZC.of (z := .agg #[.bool false, .bool false]) (by kernel_rfl) rfl
instance : IsBd Try.prog 89 [(0, 1), (1, 1)] := IsBd.of (by kernel_rfl)
instance : IsZ Try.prog 89 ((false, false) : (Bool × Bool)) 2 := IsZ.of (z := .agg #[.bool false, .bool false]) (by kernel_rfl) (fun _ _ => rd_mk (rd_mkBool _ _ _) (rd_mkBool _ _ _))
instance : IsC Try.prog 72 10 true := IsC.of (by kernel_rfl) Try.underlying72 rfl
instance : IsFd Try.prog 72 0 0 := IsFd.of (by kernel_rfl)
instance : IsFd Try.prog 72 1 7 := IsFd.of (by kernel_rfl)
instance : IsFd Try.prog 72 2 9 := IsFd.of (by kernel_rfl)
instance : IsZC Try.prog 72 [.int .i64 0, .int .i64 0, .int .i64 0, .int .i64 0, .int .i64 0, .int .i64 0, .int .i64 0, .slice none 0 0, .slice none 0 0, .int .i64 0] := IsZC.of (z := .agg #[.int .i64 0, .int .i64 0, .int .i64 0, .int .i64 0, .int .i64 0, .int .i64 0, .int .i64 0, .slice none 0 0, .slice none 0 0, .int .i64 0]) (by kernel_rfl) rfl
instance : IsBd Try.prog 72 [(0, 7), (7, 2), (9, 1)] := IsBd.of (by kernel_rfl)
instance : IsC Try.prog 102 7 true := IsC.of (by kernel_rfl) Try.underlying102 rfl
instance : IsFd Try.prog 102 0 0 := IsFd.of (by kernel_rfl)
instance : IsFd Try.prog 102 1 1 := IsFd.of (by kernel_rfl)
instance : IsFd Try.prog 102 2 2 := IsFd.of (by kernel_rfl)
instance : IsFd Try.prog 102 3 3 := IsFd.of (by kernel_rfl)
instance : IsFd Try.prog 102 4 4 := IsFd.of (by kernel_rfl)
instance : IsFd Try.prog 102 5 5 := IsFd.of (by kernel_rfl)
instance : IsFd Try.prog 102 6 6 := IsFd.of (by kernel_rfl)
instance : IsZC Try.prog 102 [.slice none 0 0, .slice none 0 0, .slice none 0 0, .slice none 0 0, .slice none 0 0, .int .i64 0, .int .i64 0] := IsZC.of (z := .agg #[.slice none 0 0, .slice none 0 0, .slice none 0 0, .slice none 0 0, .slice none 0 0, .int .i64 0, .int .i64 0]) (by kernel_rfl) rfl
instance : IsBd Try.prog 102 [(0, 1), (1, 1), (2, 1), (3, 1), (4, 1), (5, 1), (6, 1)] := IsBd.of (by kernel_rfl)
instance : IsT Try.prog 73 (List (Int × Int)) := IsT.of (by kernel_rfl) Try.underlying73 rfl
instance : IsS Try.prog 73 76 := ⟨Try.underlying73⟩
instance : IsZ Try.prog 73 ([] : List (Int × Int)) 24 := IsZ.of (z := .slice none 0 0) (by kernel_rfl) (fun _ _ => ⟨none, 0, rfl, by simp, by simp [maxLen], fun _ => rfl, fun i hi => absurd hi (by simp)⟩)
instance : IsC Try.prog 73 1 false := IsC.of (by kernel_rfl) Try.underlying73 rfl
instance : IsZC Try.prog 73 [.slice none 0 0] := IsZC.of (z := .slice none 0 0) (by kernel_rfl) rfl
instance : IsT Try.prog 83 (List (Bool × Bool)) := IsT.of (by kernel_rfl) Try.underlying83 rfl
instance : IsS Try.prog 83 89 := ⟨Try.underlying83⟩
instance : IsZ Try.prog 83 ([] : List (Bool × Bool)) 24 := IsZ.of (z := .slice none 0 0) (by kernel_rfl) (fun _ _ => ⟨none, 0, rfl, by simp, by simp [maxLen], fun _ => rfl, fun i hi => absurd hi (by simp)⟩)
instance : IsC Try.prog 83 1 false := IsC.of (by kernel_rfl) Try.underlying83 rfl
instance : IsZC Try.prog 83 [.slice none 0 0] := IsZC.of (z := .slice none 0 0) (by kernel_rfl) rfl
instance : IsC Try.prog 70 1 false := IsC.of (by kernel_rfl) Try.underlying70 rfl
instance : IsC Try.prog 100 1 false := IsC.of (by kernel_rfl) Try.underlying100 rfl
instance : IsF Try.prog 31 := ⟨_, Try.func31, rfl, by decide⟩
instance : IsF Try.prog 52 := ⟨_, Try.func52, rfl, by decide⟩
instance : IsF Try.prog 53 := ⟨_, Try.func53, rfl, by decide⟩
instance : IsF Try.prog 32 := ⟨_, Try.func32, rfl, by decide⟩
instance : IsF Try.prog 30 := ⟨_, Try.func30, rfl, by decide⟩
instance : IsF Try.prog 72 := ⟨_, Try.func72, rfl, by decide⟩
instance : IsF Try.prog 73 := ⟨_, Try.func73, rfl, by decide⟩
instance : IsF Try.prog 54 := ⟨_, Try.func54, rfl, by decide⟩
instance : IsF Try.prog 23 := ⟨_, Try.func23, rfl, by decide⟩
instance : IsF Try.prog 70 := ⟨_, Try.func70, rfl, by decide⟩
instance : IsF Try.prog 66 := ⟨_, Try.func66, rfl, by decide⟩
instance : IsF Try.prog 45 := ⟨_, Try.func45, rfl, by decide⟩
instance : IsF Try.prog 20 := ⟨_, Try.func20, rfl, by decide⟩
instance : IsF Try.prog 50 := ⟨_, Try.func50, rfl, by decide⟩
instance : IsF Try.prog 12 := ⟨_, Try.func12, rfl, by decide⟩
instance : IsF Try.prog 48 := ⟨_, Try.func48, rfl, by decide⟩
instance : IsF Try.prog 74 := ⟨_, Try.func74, rfl, by decide⟩
instance : IsF Try.prog 69 := ⟨_, Try.func69, rfl, by decide⟩
instance : IsF Try.prog 42 := ⟨_, Try.func42, rfl, by decide⟩
instance : IsF Try.prog 37 := ⟨_, Try.func37, rfl, by decide⟩
instance : IsF Try.prog 16 := ⟨_, Try.func16, rfl, by decide⟩
instance : IsF Try.prog 63 := ⟨_, Try.func63, rfl, by decide⟩
instance : IsF Try.prog 39 := ⟨_, Try.func39, rfl, by decide⟩
instance : IsF Try.prog 59 := ⟨_, Try.func59, rfl, by decide⟩
instance : IsF Try.prog 57 := ⟨_, Try.func57, rfl, by decide⟩
instance : IsF Try.prog 58 := ⟨_, Try.func58, rfl, by decide⟩
instance : IsF Try.prog 40 := ⟨_, Try.func40, rfl, by decide⟩
instance : IsF Try.prog 60 := ⟨_, Try.func60, rfl, by decide⟩
instance : IsF Try.prog 62 := ⟨_, Try.func62, rfl, by decide⟩
instance : IsF Try.prog 64 := ⟨_, Try.func64, rfl, by decide⟩
instance : IsF Try.prog 65 := ⟨_, Try.func65, rfl, by decide⟩
instance : IsF Try.prog 56 := ⟨_, Try.func56, rfl, by decide⟩
instance : IsF Try.prog 38 := ⟨_, Try.func38, rfl, by decide⟩
instance : IsF Try.prog 61 := ⟨_, Try.func61, rfl, by decide⟩
instance : IsF Try.prog 28 := ⟨_, Try.func28, rfl, by decide⟩
instance : IsF Try.prog 9 := ⟨_, Try.func9, rfl, by decide⟩
instance : IsF Try.prog 51 := ⟨_, Try.func51, rfl, by decide⟩
instance : IsF Try.prog 10 := ⟨_, Try.func10, rfl, by decide⟩
instance : IsF Try.prog 29 := ⟨_, Try.func29, rfl, by decide⟩
instance : IsF Try.prog 25 := ⟨_, Try.func25, rfl, by decide⟩
instance : IsF Try.prog 33 := ⟨_, Try.func33, rfl, by decide⟩
instance : IsF Try.prog 47 := ⟨_, Try.func47, rfl, by decide⟩
instance : IsF Try.prog 71 := ⟨_, Try.func71, rfl, by decide⟩
instance : IsF Try.prog 14 := ⟨_, Try.func14, rfl, by decide⟩
instance : IsF Try.prog 11 := ⟨_, Try.func11, rfl, by decide⟩
instance : IsF Try.prog 15 := ⟨_, Try.func15, rfl, by decide⟩
instance : IsF Try.prog 34 := ⟨_, Try.func34, rfl, by decide⟩
instance : IsF Try.prog 26 := ⟨_, Try.func26, rfl, by decide⟩
instance : IsF Try.prog 19 := ⟨_, Try.func19, rfl, by decide⟩
instance : IsF Try.prog 41 := ⟨_, Try.func41, rfl, by decide⟩
instance : IsF Try.prog 35 := ⟨_, Try.func35, rfl, by decide⟩
instance : IsF Try.prog 55 := ⟨_, Try.func55, rfl, by decide⟩
instance : IsF Try.prog 36 := ⟨_, Try.func36, rfl, by decide⟩
instance : IsF Try.prog 49 := ⟨_, Try.func49, rfl, by decide⟩
instance : IsF Try.prog 5 := ⟨_, Try.func5, rfl, by decide⟩
instance : IsF Try.prog 17 := ⟨_, Try.func17, rfl, by decide⟩
instance : IsF Try.prog 3 := ⟨_, Try.func3, rfl, by decide⟩
instance : IsF Try.prog 4 := ⟨_, Try.func4, rfl, by decide⟩
instance : IsF Try.prog 6 := ⟨_, Try.func6, rfl, by decide⟩
instance : IsF Try.prog 8 := ⟨_, Try.func8, rfl, by decide⟩
instance : IsF Try.prog 7 := ⟨_, Try.func7, rfl, by decide⟩
instance : IsF Try.prog 27 := ⟨_, Try.func27, rfl, by decide⟩
instance : IsF Try.prog 13 := ⟨_, Try.func13, rfl, by decide⟩
instance : IsF Try.prog 22 := ⟨_, Try.func22, rfl, by decide⟩
instance : IsF Try.prog 18 := ⟨_, Try.func18, rfl, by decide⟩
instance : IsF Try.prog 43 := ⟨_, Try.func43, rfl, by decide⟩
instance : IsF Try.prog 67 := ⟨_, Try.func67, rfl, by decide⟩
instance : IsF Try.prog 21 := ⟨_, Try.func21, rfl, by decide⟩
instance : IsF Try.prog 46 := ⟨_, Try.func46, rfl, by decide⟩
instance : IsF Try.prog 24 := ⟨_, Try.func24, rfl, by decide⟩
instance : IsF Try.prog 44 := ⟨_, Try.func44, rfl, by decide⟩
instance : IsF Try.prog 68 := ⟨_, Try.func68, rfl, by decide⟩
end Go.Proofs.Ytacpdifbpeajbab
