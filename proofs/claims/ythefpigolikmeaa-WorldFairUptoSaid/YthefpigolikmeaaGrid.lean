/-
  A list of lists while it is built row by row: plain lists.
-/
import Derived.Test.YthefpigolikmeaaRch
set_option linter.unusedVariables false
set_option linter.unusedSimpArgs false
namespace Go.Proofs.Ythefpigolikmeaa

def gridP {α : Type} (N : Nat) (full : Nat → List α) (x0 : Nat) (part : List α) : List (List α) := (List.range N).map fun x => if x < x0 then full x else if x = x0 then part else []
section
variable {α : Type} {N : Nat} {full : Nat → List α} {x0 : Nat} {part : List α}
theorem gridP_len : (gridP N full x0 part).length = N := by simp [gridP]
theorem gridP_start : gridP N full 0 [] = List.replicate N [] := by
  unfold gridP
  refine List.ext_getElem (by simp) fun i h1 h2 => ?_
  simp
theorem gridP_get (h : x0 < N) : (gridP N full x0 part)[x0]'(by rw [gridP_len]; exact h) = part := by simp [gridP]
theorem gridP_set {part' : List α} (h : x0 < N) : (gridP N full x0 part).set x0 part' = gridP N full x0 part' := by
  refine List.ext_getElem (by simp [gridP_len]) fun i h1 h2 => ?_
  rw [List.getElem_set]
  by_cases e : x0 = i
  · subst e; rw [if_pos rfl, gridP_get h]
  · rw [if_neg e]
    simp only [gridP, List.getElem_map, List.getElem_range]
    split
    · rfl
    · rw [if_neg (Ne.symm e), if_neg (Ne.symm e)]
theorem gridP_next : gridP N full x0 (full x0) = gridP N full (x0 + 1) [] := by
  unfold gridP
  refine List.ext_getElem (by simp) fun i h1 h2 => ?_
  simp only [List.getElem_map, List.getElem_range]
  by_cases h : i < x0
  · rw [if_pos h, if_pos (by omega)]
  · rw [if_neg h]
    by_cases e : i = x0
    · subst e; rw [if_pos rfl, if_pos (by omega)]
    · rw [if_neg e, if_neg (by omega)]
      split <;> rfl
theorem gridP_done : gridP N full N [] = (List.range N).map full := by
  unfold gridP
  refine List.ext_getElem (by simp) fun i h1 h2 => ?_
  simp only [List.getElem_map, List.getElem_range]
  rw [if_pos (by simpa using h1)]
end
/-- of each number below n whether it is in a list -/
def memL (n : Nat) (l : List Int) : List Bool := (List.range n).map fun i : Nat => decide ((i : Int) ∈ l)
theorem memL_len {n : Nat} {l : List Int} : (memL n l).length = n := by simp [memL]
theorem memL_nil {n : Nat} : memL n [] = List.replicate n false := by
  refine List.ext_getElem (by simp [memL]) fun i h1 h2 => ?_
  simp [memL]
theorem memL_get {n : Nat} {l : List Int} {i : Nat} (h : i < n) : (memL n l)[i]'(by rw [memL_len]; exact h) = decide ((i : Int) ∈ l) := by simp [memL]
theorem memL_next {n : Nat} {l : List Int} {i k : Nat} (h : i < l.length) (hk : l[i] = (k : Int)) : (memL n (l.take i)).set k true = memL n (l.take (i + 1)) := by
  refine List.ext_getElem (by simp [memL]) fun j h1 h2 => ?_
  rw [List.getElem_set]
  have hj : j < n := by rw [memL_len] at h2; exact h2
  rw [memL_get hj, memL_get hj, ← List.take_append_getElem h]
  by_cases e : k = j
  · subst e; rw [if_pos rfl]; simp [hk]
  · rw [if_neg e]
    have : ((j : Int) ∈ l.take i ++ [l[i]]) ↔ (j : Int) ∈ l.take i := by
      rw [List.mem_append, List.mem_singleton, hk]
      exact ⟨fun h => h.resolve_right (by omega), .inl⟩
    simp only [this]
end Go.Proofs.Ythefpigolikmeaa
