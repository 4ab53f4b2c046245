/-
  The law LassoTurns: the same word written otherwise. Plain part.
-/
import Derived.Test.YtdepjllboiolpaaLeastPl
import Derived.Test.YtdepjllboiolpaaLasso4
import Derived.Test.YtdepjllboiolpaaSem
set_option linter.unusedVariables false
set_option linter.unusedSimpArgs false
namespace Go.Proofs.Ytdepjllboiolpaa
open Go.RowKit

theorem truth_same {t : Ltl} {s l s' l' : List Nat} (hw : chkW s l = 0) (hw' : chkW s' l' = 0) (hL : ∀ j, lat s' l' j = lat s l j) : truthL s' l' t = truthL s l t := by
  have hW := chkW_ok hw
  have hW' := chkW_ok hw'
  by_cases hc : (chkF t 1 0).1 ≠ 0
  · unfold truthL holdsE
    rw [if_pos hc, if_pos hc]
  · have c1 : holdsE s l t = (holdsL s l t, 0) := by unfold holdsE; rw [if_neg hc, if_neg (by simp [hw])]
    have c2 : holdsE s' l' t = (holdsL s' l' t, 0) := by unfold holdsE; rw [if_neg hc, if_neg (by simp [hw'])]
    have wf := chkF_wf t 1 0 (by simpa using hc)
    have l1 := holdsL_len (s := s) (l := l) t wf
    have l2 := holdsL_len (s := s') (l := l') t wf
    have e : (holdsL s' l' t).getD 0 false = (holdsL s l t).getD 0 false := by
      rw [Bool.eq_iff_iff, holds_sem hW'.2 t wf 0 (by omega), holds_sem hW.2 _ wf 0 (by omega)]
      exact sem_congr t 0 0 (fun j => hL _)
    unfold truthL
    rw [c1, c2]
    dsimp only
    rw [if_neg (by omega), if_neg (by omega), e]
theorem rollGo_len : ∀ (f : Nat) (s l : List Nat), 0 < l.length → (rollGo f s l).1.length ≤ s.length ∧ (rollGo f s l).2.length = l.length
  | 0, s, l, _ => by simp [rollGo]
  | f + 1, s, l, h => by
    unfold rollGo
    split
    · have hl : (l.getD (l.length - 1) 0 :: l.take (l.length - 1)).length = l.length := by rw [List.length_cons, List.length_take]; omega
      have := rollGo_len f (s.take (s.length - 1)) (l.getD (l.length - 1) 0 :: l.take (l.length - 1)) (by omega)
      rw [List.length_take] at this
      exact ⟨by omega, by omega⟩
    · exact ⟨Nat.le_refl _, rfl⟩
theorem leastL_chk {s l : List Nat} (h : chkW s l = 0) : chkW (leastL s l).1 (leastL s l).2 = 0 ∧ leastL (leastL s l).1 (leastL s l).2 = leastL s l := by
  have hW := chkW_ok h
  have sp := leastL_spec (s := s) hW.2
  have hpos := sp.pos
  have h1 : (leastL s l).1.length ≤ s.length ∧ (leastL s l).2.length ≤ l.length := by
    have h := perGo_spec (s := s) hW.2 l.length 1 (by omega) (by omega) (fun d hd hd1 => by omega)
    have hp : (perL l).length ≤ l.length := h.2.2.2
    have := rollGo_len s.length s (perL l) h.1
    exact ⟨this.1, by show (rollGo s.length s (perL l)).2.length ≤ _; omega⟩
  constructor
  · unfold chkW
    rw [if_neg (by omega), if_neg (by omega)]
  · exact leastL_eq hpos hW.2 sp.same
end Go.Proofs.Ytdepjllboiolpaa
