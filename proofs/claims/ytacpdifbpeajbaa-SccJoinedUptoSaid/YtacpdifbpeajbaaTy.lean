/-
  The types and functions of the program, as our walks ask for them.
-/
import Derived.Test.YtacpdifbpeajbaaQ
import Derived.Test.YtacpdifbpeajbaaProg
namespace Go.Proofs.Ytacpdifbpeajbaa

instance : IsT Try.prog 3 Int := IsT.of (by kernel_rfl) Try.underlying3 rfl
instance : IsT Try.prog 4 Bool := IsT.of (by kernel_rfl) Try.underlying4 rfl
instance : IsT Try.prog 23 (List Int) := IsT.of (by kernel_rfl) Try.underlying23 rfl
instance : IsT Try.prog 22 (List (List Int)) := IsT.of (by kernel_rfl) Try.underlying22 rfl
instance : IsS Try.prog 23 3 := ⟨Try.underlying23⟩
instance : IsS Try.prog 22 23 := ⟨Try.underlying22⟩
instance : IsS Try.prog 24 4 := ⟨Try.underlying24⟩
instance : IsZ Try.prog 3 (0 : Int) 8 := IsZ.of (z := .int .i64 0) (by kernel_rfl) (fun _ _ => rfl)
instance : IsZ Try.prog 4 false 1 := IsZ.of (z := .bool false) (by kernel_rfl) (fun _ _ => rfl)
instance : IsB Try.prog 4 := ⟨Try.underlying4⟩
theorem mixed : Try.prog.follows .mixedOrders = true := by kernel_rfl
instance : IsT Try.prog 25 Int := IsT.of (by kernel_rfl) Try.underlying25 rfl
instance : IsZ Try.prog 23 ([] : List Int) 24 := IsZ.of (z := .slice none 0 0) (by kernel_rfl) (fun _ _ => ⟨none, 0, rfl, by simp, by simp [maxLen], fun _ => rfl, fun i hi => absurd hi (by simp)⟩)
instance : IsF Try.prog 39 := ⟨_, Try.func39, rfl, by decide⟩
instance : IsF Try.prog 62 := ⟨_, Try.func62, rfl, by decide⟩
instance : IsF Try.prog 61 := ⟨_, Try.func61, rfl, by decide⟩
instance : IsF Try.prog 75 := ⟨_, Try.func75, rfl, by decide⟩
instance : IsF Try.prog 38 := ⟨_, Try.func38, rfl, by decide⟩
instance : IsF Try.prog 12 := ⟨_, Try.func12, rfl, by decide⟩
instance : IsF Try.prog 40 := ⟨_, Try.func40, rfl, by decide⟩
instance : IsF Try.prog 9 := ⟨_, Try.func9, rfl, by decide⟩
instance : IsF Try.prog 10 := ⟨_, Try.func10, rfl, by decide⟩
instance : IsF Try.prog 11 := ⟨_, Try.func11, rfl, by decide⟩
end Go.Proofs.Ytacpdifbpeajbaa
