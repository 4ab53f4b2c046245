/-
  The types and functions of the program, as our walks ask for them.
-/
import Derived.Test.YtdepjllboiolpaaPr
import Derived.Test.YtdepjllboiolpaaHeld2
import Derived.Test.YtdepjllboiolpaaProg
set_option linter.unusedVariables false
namespace Go.Proofs.Ytdepjllboiolpaa

theorem mixed : Try.prog.follows .mixedOrders = true := by kernel_rfl
instance : IsT Try.prog 3 Int := IsT.of (by kernel_rfl) Try.underlying3 rfl
instance : IsZ Try.prog 3 (0 : Int) 8 := IsZ.of (z := .int .i64 0) (by kernel_rfl) (fun _ _ => rfl)
instance : IsC Try.prog 3 1 false := IsC.of (by kernel_rfl) Try.underlying3 rfl
instance : IsZC Try.prog 3 [.int .i64 0] := IsZC.of (z := .int .i64 0) (by kernel_rfl) rfl
instance : IsT Try.prog 4 Bool := IsT.of (by kernel_rfl) Try.underlying4 rfl
instance : IsZ Try.prog 4 false 1 := IsZ.of (z := .bool false) (by kernel_rfl) (fun _ _ => rfl)
instance : IsC Try.prog 4 1 false := IsC.of (by kernel_rfl) Try.underlying4 rfl
instance : IsZC Try.prog 4 [.bool false] := IsZC.of (z := .bool false) (by kernel_rfl) rfl
instance : IsT Try.prog 61 Nat := IsT.of (by kernel_rfl) Try.underlying61 rfl
instance : IsZ Try.prog 61 (0 : Nat) 8 := IsZ.of (z := .int .u64 0) (by kernel_rfl) (fun _ _ => ⟨rfl, by decide⟩)
instance : IsC Try.prog 61 1 false := IsC.of (by kernel_rfl) Try.underlying61 rfl
instance : IsZC Try.prog 61 [.int .u64 0] := IsZC.of (z := .int .u64 0) (by kernel_rfl) rfl
instance : IsT Try.prog 9 ByteArray := IsT.of (by kernel_rfl) Try.underlying9 rfl
instance : IsC Try.prog 9 1 false := IsC.of (by kernel_rfl) Try.underlying9 rfl
instance : IsZC Try.prog 9 [.string ⟨#[]⟩] := IsZC.of (z := .string ⟨#[]⟩) (by kernel_rfl) rfl
instance : IsT Try.prog 29 Int := IsT.of (by kernel_rfl) Try.underlying29 rfl
instance : IsZ Try.prog 29 (0 : Int) 8 := IsZ.of (z := .int .i64 0) (by kernel_rfl) (fun _ _ => rfl)
instance : IsC Try.prog 29 1 false := IsC.of (by kernel_rfl) Try.underlying29 rfl
instance : IsZC Try.prog 29 [.int .i64 0] := IsZC.of (z := .int .i64 0) (by kernel_rfl) rfl
instance : IsB Try.prog 4 := ⟨Try.underlying4⟩
instance : IsI Try.prog 3 .i64 := ⟨Try.underlying3⟩
instance : IsI Try.prog 61 .u64 := ⟨Try.underlying61⟩
instance : IsI Try.prog 5 .u8 := ⟨Try.underlying5⟩
instance : IsT Try.prog 71 (List Bool) := IsT.of (by kernel_rfl) Try.underlying71 rfl
instance : IsS Try.prog 71 4 := ⟨Try.underlying71⟩
instance : IsZ Try.prog 71 ([] : List Bool) 24 := IsZ.of (z := .slice none 0 0) (by kernel_rfl) (fun _ _ => ⟨none, 0, rfl, by simp, by simp [maxLen], fun _ => rfl, fun i hi => absurd hi (by simp)⟩)
instance : IsC Try.prog 71 1 false := IsC.of (by kernel_rfl) Try.underlying71 rfl
instance : IsZC Try.prog 71 [.slice none 0 0] := IsZC.of (z := .slice none 0 0) (by kernel_rfl) rfl
instance : IsT Try.prog 25 (List Nat) := IsT.of (by kernel_rfl) Try.underlying25 rfl
instance : IsS Try.prog 25 61 := ⟨Try.underlying25⟩
instance : IsZ Try.prog 25 ([] : List Nat) 24 := IsZ.of (z := .slice none 0 0) (by kernel_rfl) (fun _ _ => ⟨none, 0, rfl, by simp, by simp [maxLen], fun _ => rfl, fun i hi => absurd hi (by simp)⟩)
instance : IsC Try.prog 25 1 false := IsC.of (by kernel_rfl) Try.underlying25 rfl
instance : IsZC Try.prog 25 [.slice none 0 0] := IsZC.of (z := .slice none 0 0) (by kernel_rfl) rfl
instance : IsT Try.prog 91 (List Bool) := IsT.of (by kernel_rfl) Try.underlying91 rfl
instance : IsS Try.prog 91 4 := ⟨Try.underlying91⟩
instance : IsZ Try.prog 91 ([] : List Bool) 24 := IsZ.of (z := .slice none 0 0) (by kernel_rfl) (fun _ _ => ⟨none, 0, rfl, by simp, by simp [maxLen], fun _ => rfl, fun i hi => absurd hi (by simp)⟩)
instance : IsC Try.prog 91 1 false := IsC.of (by kernel_rfl) Try.underlying91 rfl
instance : IsZC Try.prog 91 [.slice none 0 0] := IsZC.of (z := .slice none 0 0) (by kernel_rfl) rfl
instance : IsT Try.prog 109 (List (List Bool)) := IsT.of (by kernel_rfl) Try.underlying109 rfl
instance : IsS Try.prog 109 91 := ⟨Try.underlying109⟩
instance : IsZ Try.prog 109 ([] : List (List Bool)) 24 := IsZ.of (z := .slice none 0 0) (by kernel_rfl) (fun _ _ => ⟨none, 0, rfl, by simp, by simp [maxLen], fun _ => rfl, fun i hi => absurd hi (by simp)⟩)
instance : IsC Try.prog 109 1 false := IsC.of (by kernel_rfl) Try.underlying109 rfl
instance : IsZC Try.prog 109 [.slice none 0 0] := IsZC.of (z := .slice none 0 0) (by kernel_rfl) rfl
instance : IsT Try.prog 27 (List Nat × List Nat) := IsT.of (by kernel_rfl) Try.underlying27 rfl
instance : IsC Try.prog 27 2 true := IsC.of (by kernel_rfl) Try.underlying27 rfl
instance : IsFd Try.prog 27 0 0 := IsFd.of (by kernel_rfl)
instance : IsFd Try.prog 27 1 1 := IsFd.of (by kernel_rfl)
instance : IsZC Try.prog 27 [.slice none 0 0, .slice none 0 0] := IsZC.of (z := .agg #[.slice none 0 0, .slice none 0 0]) (by kernel_rfl) rfl
instance : IsBd Try.prog 27 [(0, 1), (1, 1)] := IsBd.of (by kernel_rfl)
instance : IsT Try.prog 51 (Int × Int × Int × Int × Int × Int × Int) := IsT.of (by kernel_rfl) Try.underlying51 rfl
instance : IsC Try.prog 51 7 true := IsC.of (by kernel_rfl) Try.underlying51 rfl
instance : IsFd Try.prog 51 0 0 := IsFd.of (by kernel_rfl)
instance : IsFd Try.prog 51 1 1 := IsFd.of (by kernel_rfl)
instance : IsFd Try.prog 51 2 2 := IsFd.of (by kernel_rfl)
instance : IsFd Try.prog 51 3 3 := IsFd.of (by kernel_rfl)
instance : IsFd Try.prog 51 4 4 := IsFd.of (by kernel_rfl)
instance : IsFd Try.prog 51 5 5 := IsFd.of (by kernel_rfl)
instance : IsFd Try.prog 51 6 6 := IsFd.of (by kernel_rfl)
instance : IsZC Try.prog 51 [.int .i64 0, .int .i64 0, .int .i64 0, .int .i64 0, .int .i64 0, .int .i64 0, .int .i64 0] := IsZC.of (z := .agg #[.int .i64 0, .int .i64 0, .int .i64 0, .int .i64 0, .int .i64 0, .int .i64 0, .int .i64 0]) (by kernel_rfl) rfl
instance : IsBd Try.prog 51 [(0, 1), (1, 1), (2, 1), (3, 1), (4, 1), (5, 1), (6, 1)] := IsBd.of (by kernel_rfl)
instance : IsZ Try.prog 51 ((0, 0, 0, 0, 0, 0, 0) : (Int × Int × Int × Int × Int × Int × Int)) 56 := IsZ.of (z := .agg #[.int .i64 0, .int .i64 0, .int .i64 0, .int .i64 0, .int .i64 0, .int .i64 0, .int .i64 0]) (by kernel_rfl) (fun _ _ => rd_mk (rd_mkInt _ _ _) (rd_mk (rd_mkInt _ _ _) (rd_mk (rd_mkInt _ _ _) (rd_mk (rd_mkInt _ _ _) (rd_mk (rd_mkInt _ _ _) (rd_mk (rd_mkInt _ _ _) (rd_mkInt _ _ _)))))))
instance : IsT Try.prog 53 (Int × Int × Int × Int) := IsT.of (by kernel_rfl) Try.underlying53 rfl
instance : IsC Try.prog 53 4 true := IsC.of (by kernel_rfl) Try.underlying53 rfl
instance : IsFd Try.prog 53 0 0 := IsFd.of (by kernel_rfl)
instance : IsFd Try.prog 53 1 1 := IsFd.of (by kernel_rfl)
instance : IsFd Try.prog 53 2 2 := IsFd.of (by kernel_rfl)
instance : IsFd Try.prog 53 3 3 := IsFd.of (by kernel_rfl)
instance : IsZC Try.prog 53 [.int .i64 0, .int .i64 0, .int .i64 0, .int .i64 0] := IsZC.of (z := .agg #[.int .i64 0, .int .i64 0, .int .i64 0, .int .i64 0]) (by kernel_rfl) rfl
instance : IsBd Try.prog 53 [(0, 1), (1, 1), (2, 1), (3, 1)] := IsBd.of (by kernel_rfl)
instance : IsZ Try.prog 53 ((0, 0, 0, 0) : (Int × Int × Int × Int)) 32 := IsZ.of (z := .agg #[.int .i64 0, .int .i64 0, .int .i64 0, .int .i64 0]) (by kernel_rfl) (fun _ _ => rd_mk (rd_mkInt _ _ _) (rd_mk (rd_mkInt _ _ _) (rd_mk (rd_mkInt _ _ _) (rd_mkInt _ _ _))))
instance : IsT Try.prog 88 (Bool × Bool) := IsT.of (by kernel_rfl) Try.underlying88 rfl
instance : IsC Try.prog 88 2 true := IsC.of (by kernel_rfl) Try.underlying88 rfl
instance : IsFd Try.prog 88 0 0 := IsFd.of (by kernel_rfl)
instance : IsFd Try.prog 88 1 1 := IsFd.of (by kernel_rfl)
instance : IsZC Try.prog 88 [.bool false, .bool false] := IsZC.of (z := .agg #[.bool false, .bool false]) (by kernel_rfl) rfl
instance : IsBd Try.prog 88 [(0, 1), (1, 1)] := IsBd.of (by kernel_rfl)
instance : IsZ Try.prog 88 ((false, false) : (Bool × Bool)) 2 := IsZ.of (z := .agg #[.bool false, .bool false]) (by kernel_rfl) (fun _ _ => rd_mk (rd_mkBool _ _ _) (rd_mkBool _ _ _))
instance : IsT Try.prog 82 (List (Bool × Bool)) := IsT.of (by kernel_rfl) Try.underlying82 rfl
instance : IsS Try.prog 82 88 := ⟨Try.underlying82⟩
instance : IsZ Try.prog 82 ([] : List (Bool × Bool)) 24 := IsZ.of (z := .slice none 0 0) (by kernel_rfl) (fun _ _ => ⟨none, 0, rfl, by simp, by simp [maxLen], fun _ => rfl, fun i hi => absurd hi (by simp)⟩)
instance : IsC Try.prog 82 1 false := IsC.of (by kernel_rfl) Try.underlying82 rfl
instance : IsZC Try.prog 82 [.slice none 0 0] := IsZC.of (z := .slice none 0 0) (by kernel_rfl) rfl
instance : IsF Try.prog 29 := ⟨_, Try.func29, rfl, by decide⟩
instance : IsF Try.prog 41 := ⟨_, Try.func41, rfl, by decide⟩
instance : IsF Try.prog 35 := ⟨_, Try.func35, rfl, by decide⟩
instance : IsF Try.prog 63 := ⟨_, Try.func63, rfl, by decide⟩
instance : IsF Try.prog 31 := ⟨_, Try.func31, rfl, by decide⟩
instance : IsF Try.prog 110 := ⟨_, Try.func110, rfl, by decide⟩
instance : IsF Try.prog 68 := ⟨_, Try.func68, rfl, by decide⟩
instance : IsF Try.prog 49 := ⟨_, Try.func49, rfl, by decide⟩
instance : IsF Try.prog 50 := ⟨_, Try.func50, rfl, by decide⟩
instance : IsF Try.prog 33 := ⟨_, Try.func33, rfl, by decide⟩
instance : IsF Try.prog 32 := ⟨_, Try.func32, rfl, by decide⟩
instance : IsF Try.prog 77 := ⟨_, Try.func77, rfl, by decide⟩
instance : IsF Try.prog 84 := ⟨_, Try.func84, rfl, by decide⟩
instance : IsF Try.prog 91 := ⟨_, Try.func91, rfl, by decide⟩
instance : IsF Try.prog 92 := ⟨_, Try.func92, rfl, by decide⟩
instance : IsF Try.prog 52 := ⟨_, Try.func52, rfl, by decide⟩
instance : IsF Try.prog 73 := ⟨_, Try.func73, rfl, by decide⟩
instance : IsF Try.prog 81 := ⟨_, Try.func81, rfl, by decide⟩
instance : IsF Try.prog 54 := ⟨_, Try.func54, rfl, by decide⟩
instance : IsF Try.prog 80 := ⟨_, Try.func80, rfl, by decide⟩
instance : IsF Try.prog 82 := ⟨_, Try.func82, rfl, by decide⟩
instance : IsF Try.prog 83 := ⟨_, Try.func83, rfl, by decide⟩
instance : IsF Try.prog 88 := ⟨_, Try.func88, rfl, by decide⟩
instance : IsF Try.prog 71 := ⟨_, Try.func71, rfl, by decide⟩
instance : IsF Try.prog 72 := ⟨_, Try.func72, rfl, by decide⟩
instance : IsF Try.prog 53 := ⟨_, Try.func53, rfl, by decide⟩
instance : IsF Try.prog 74 := ⟨_, Try.func74, rfl, by decide⟩
instance : IsF Try.prog 76 := ⟨_, Try.func76, rfl, by decide⟩
instance : IsF Try.prog 78 := ⟨_, Try.func78, rfl, by decide⟩
instance : IsF Try.prog 79 := ⟨_, Try.func79, rfl, by decide⟩
instance : IsF Try.prog 70 := ⟨_, Try.func70, rfl, by decide⟩
instance : IsF Try.prog 51 := ⟨_, Try.func51, rfl, by decide⟩
instance : IsF Try.prog 90 := ⟨_, Try.func90, rfl, by decide⟩
instance : IsF Try.prog 86 := ⟨_, Try.func86, rfl, by decide⟩
instance : IsF Try.prog 93 := ⟨_, Try.func93, rfl, by decide⟩
instance : IsF Try.prog 85 := ⟨_, Try.func85, rfl, by decide⟩
instance : IsF Try.prog 75 := ⟨_, Try.func75, rfl, by decide⟩
instance : IsF Try.prog 87 := ⟨_, Try.func87, rfl, by decide⟩
instance : IsF Try.prog 89 := ⟨_, Try.func89, rfl, by decide⟩
instance : IsF Try.prog 66 := ⟨_, Try.func66, rfl, by decide⟩
instance : IsF Try.prog 45 := ⟨_, Try.func45, rfl, by decide⟩
instance : IsF Try.prog 106 := ⟨_, Try.func106, rfl, by decide⟩
instance : IsF Try.prog 108 := ⟨_, Try.func108, rfl, by decide⟩
instance : IsF Try.prog 67 := ⟨_, Try.func67, rfl, by decide⟩
instance : IsF Try.prog 109 := ⟨_, Try.func109, rfl, by decide⟩
instance : IsF Try.prog 101 := ⟨_, Try.func101, rfl, by decide⟩
instance : IsF Try.prog 102 := ⟨_, Try.func102, rfl, by decide⟩
instance : IsF Try.prog 104 := ⟨_, Try.func104, rfl, by decide⟩
instance : IsF Try.prog 103 := ⟨_, Try.func103, rfl, by decide⟩
instance : IsF Try.prog 100 := ⟨_, Try.func100, rfl, by decide⟩
instance : IsF Try.prog 111 := ⟨_, Try.func111, rfl, by decide⟩
instance : IsF Try.prog 107 := ⟨_, Try.func107, rfl, by decide⟩
instance : IsF Try.prog 105 := ⟨_, Try.func105, rfl, by decide⟩
instance : IsF Try.prog 112 := ⟨_, Try.func112, rfl, by decide⟩
instance : IsF Try.prog 113 := ⟨_, Try.func113, rfl, by decide⟩
instance : IsF Try.prog 115 := ⟨_, Try.func115, rfl, by decide⟩
instance : IsF Try.prog 116 := ⟨_, Try.func116, rfl, by decide⟩
instance : IsF Try.prog 117 := ⟨_, Try.func117, rfl, by decide⟩
instance : IsF Try.prog 118 := ⟨_, Try.func118, rfl, by decide⟩
instance : IsF Try.prog 114 := ⟨_, Try.func114, rfl, by decide⟩
instance : IsF Try.prog 69 := ⟨_, Try.func69, rfl, by decide⟩
instance : IsF Try.prog 10 := ⟨_, Try.func10, rfl, by decide⟩
instance : IsF Try.prog 36 := ⟨_, Try.func36, rfl, by decide⟩
instance : IsF Try.prog 11 := ⟨_, Try.func11, rfl, by decide⟩
instance : IsF Try.prog 15 := ⟨_, Try.func15, rfl, by decide⟩
instance : IsF Try.prog 96 := ⟨_, Try.func96, rfl, by decide⟩
instance : IsF Try.prog 56 := ⟨_, Try.func56, rfl, by decide⟩
instance : IsF Try.prog 34 := ⟨_, Try.func34, rfl, by decide⟩
instance : IsF Try.prog 97 := ⟨_, Try.func97, rfl, by decide⟩
instance : IsF Try.prog 94 := ⟨_, Try.func94, rfl, by decide⟩
instance : IsF Try.prog 55 := ⟨_, Try.func55, rfl, by decide⟩
instance : IsF Try.prog 95 := ⟨_, Try.func95, rfl, by decide⟩
instance : IsF Try.prog 20 := ⟨_, Try.func20, rfl, by decide⟩
instance : IsF Try.prog 38 := ⟨_, Try.func38, rfl, by decide⟩
instance : IsF Try.prog 60 := ⟨_, Try.func60, rfl, by decide⟩
instance : IsF Try.prog 21 := ⟨_, Try.func21, rfl, by decide⟩
instance : IsF Try.prog 24 := ⟨_, Try.func24, rfl, by decide⟩
instance : IsF Try.prog 98 := ⟨_, Try.func98, rfl, by decide⟩
instance : IsF Try.prog 16 := ⟨_, Try.func16, rfl, by decide⟩
instance : IsF Try.prog 57 := ⟨_, Try.func57, rfl, by decide⟩
instance : IsF Try.prog 65 := ⟨_, Try.func65, rfl, by decide⟩
instance : IsF Try.prog 40 := ⟨_, Try.func40, rfl, by decide⟩
instance : IsF Try.prog 61 := ⟨_, Try.func61, rfl, by decide⟩
instance : IsF Try.prog 62 := ⟨_, Try.func62, rfl, by decide⟩
instance : IsF Try.prog 43 := ⟨_, Try.func43, rfl, by decide⟩
instance : IsF Try.prog 59 := ⟨_, Try.func59, rfl, by decide⟩
instance : IsF Try.prog 37 := ⟨_, Try.func37, rfl, by decide⟩
instance : IsF Try.prog 39 := ⟨_, Try.func39, rfl, by decide⟩
instance : IsF Try.prog 99 := ⟨_, Try.func99, rfl, by decide⟩
instance : IsF Try.prog 64 := ⟨_, Try.func64, rfl, by decide⟩
instance : IsF Try.prog 58 := ⟨_, Try.func58, rfl, by decide⟩
instance : IsF Try.prog 26 := ⟨_, Try.func26, rfl, by decide⟩
instance : IsF Try.prog 46 := ⟨_, Try.func46, rfl, by decide⟩
instance : IsF Try.prog 8 := ⟨_, Try.func8, rfl, by decide⟩
instance : IsF Try.prog 5 := ⟨_, Try.func5, rfl, by decide⟩
instance : IsF Try.prog 6 := ⟨_, Try.func6, rfl, by decide⟩
instance : IsF Try.prog 3 := ⟨_, Try.func3, rfl, by decide⟩
instance : IsF Try.prog 7 := ⟨_, Try.func7, rfl, by decide⟩
instance : IsF Try.prog 4 := ⟨_, Try.func4, rfl, by decide⟩
instance : IsF Try.prog 18 := ⟨_, Try.func18, rfl, by decide⟩
instance : IsF Try.prog 25 := ⟨_, Try.func25, rfl, by decide⟩
instance : IsF Try.prog 44 := ⟨_, Try.func44, rfl, by decide⟩
instance : IsF Try.prog 9 := ⟨_, Try.func9, rfl, by decide⟩
instance : IsF Try.prog 27 := ⟨_, Try.func27, rfl, by decide⟩
instance : IsF Try.prog 28 := ⟨_, Try.func28, rfl, by decide⟩
instance : IsF Try.prog 47 := ⟨_, Try.func47, rfl, by decide⟩
instance : IsF Try.prog 22 := ⟨_, Try.func22, rfl, by decide⟩
instance : IsF Try.prog 42 := ⟨_, Try.func42, rfl, by decide⟩
instance : IsF Try.prog 14 := ⟨_, Try.func14, rfl, by decide⟩
instance : IsF Try.prog 17 := ⟨_, Try.func17, rfl, by decide⟩
instance : IsF Try.prog 13 := ⟨_, Try.func13, rfl, by decide⟩
instance : IsF Try.prog 30 := ⟨_, Try.func30, rfl, by decide⟩
instance : IsF Try.prog 19 := ⟨_, Try.func19, rfl, by decide⟩
instance : IsF Try.prog 12 := ⟨_, Try.func12, rfl, by decide⟩
instance : IsF Try.prog 23 := ⟨_, Try.func23, rfl, by decide⟩
end Go.Proofs.Ytdepjllboiolpaa
