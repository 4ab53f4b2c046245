/-
  GameTokens: walked.
-/
import Derived.Test.YthojdcbpglipeaaGameL2
set_option linter.unusedVariables false
set_option linter.unusedSimpArgs false
namespace Go.Proofs.Ythojdcbpglipeaa
open Go.RowKit

theorem sum_range {m : List Int} (h : ∀ j : Nat, 0 ≤ m.getD j 0 ∧ m.getD j 0 ≤ 9) : ∀ i, i ≤ m.length → 0 ≤ (m.take i).sum ∧ (m.take i).sum ≤ 9 * (i : Int)
  | 0, _ => by simp
  | i + 1, hi => by
    have ih := sum_range h i (by omega)
    have hj := h i
    rw [getDm_at (by omega)] at hj
    rw [← List.take_append_getElem (by omega), List.sum_append, List.sum_cons, List.sum_nil]
    omega
theorem straight_fire : fireE straightP [1, 0] 0 = ([0, 1], 0) := by
  have hz : (stepsE straightP).2 = 0 := by rw [straight_steps]
  have hl : stepsL straightP = [(1, 0, 1), (2, 1, 0)] := by decide
  have hm : chkM straightP [1, 0] = 0 := markOk_chk hz ⟨rfl, fun j => by
    rcases j with _ | _ | j
    · decide
    · decide
    · exact ⟨Int.le_refl _, (by decide : (0 : Int) ≤ 9)⟩⟩
  unfold fireE
  rw [if_neg (by simp [hm]), hl, if_neg (by decide), if_neg (by decide)]
  decide
theorem getDG_atM {l : List (List Int)} {j : Nat} (h : j < l.length) : l.getD j [] = l[j] := by rw [List.getD_eq_getElem?_getD, List.getElem?_eq_getElem h]; rfl
theorem steps_at {p : LProc} {k : Int} (h0 : 0 ≤ k) (h1 : k < (stepsL p).length) : ∃ n, n < p.1.length ∧ (stepsL p).getD k.toNat (0, 0, 0) ∈ stepsN p n := by
  rw [stepsL_at (by omega)]
  exact stepsP_mem.1 (List.getElem_mem _)
theorem putN_range {n : Int} : ∀ c : Nat, 0 ≤ putN n 0 c ∧ putN n 0 c ≤ c
  | 0 => by simp [putN]
  | c + 1 => by
    have := putN_range (n := n) c
    have := bitK_01 n c
    rw [putN_last]; omega
end Go.Proofs.Ythojdcbpglipeaa
