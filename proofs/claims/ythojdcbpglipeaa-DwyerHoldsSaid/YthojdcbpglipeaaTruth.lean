/-
  What truth answers is what a formula means at the first place. Plain law, no program in sight.
-/
import Derived.Test.YthojdcbpglipeaaLasso4
import Derived.Test.YthojdcbpglipeaaSem
set_option linter.unusedVariables false
set_option linter.unusedSimpArgs false
namespace Go.Proofs.Ythojdcbpglipeaa
open Go.RowKit

theorem truthL_sem {s l : List Nat} {u : Ltl} (hc : chkW s l = 0) (hu : (chkF u 1 0).1 = 0) : ∃ x, truthL s l u = (x, true) ∧ (x = true ↔ sem (lat s l) u 0) := by
  have hW := chkW_ok hc
  have c2 : holdsE s l u = (holdsL s l u, 0) := by unfold holdsE; rw [if_neg (by simp [hu]), if_neg (by simp [hc])]
  have w2 := chkF_wf u 1 0 hu
  have l2 := holdsL_len (s := s) (l := l) u w2
  refine ⟨(holdsL s l u).getD 0 false, ?_, holds_sem hW.2 u w2 0 (by omega)⟩
  unfold truthL
  rw [c2]
  dsimp only
  rw [if_neg (by omega)]
end Go.Proofs.Ythojdcbpglipeaa
