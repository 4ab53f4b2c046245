/-
  A word in which one letter comes twice: what holds first stays, for formulas without LNext. Plain law.
-/
import Derived.Test.YtdepjllboiolpaaStutPl
import Derived.Test.YtdepjllboiolpaaLasso4
set_option linter.unusedVariables false
set_option linter.unusedSimpArgs false
namespace Go.Proofs.Ytdepjllboiolpaa
open Go.RowKit

def insL (l : List Nat) (k : Nat) : List Nat := l.take k ++ l.getD k 0 :: l.drop k
theorem insL_len {l : List Nat} {k : Nat} (hk : k < l.length) : (insL l k).length = l.length + 1 := by
  unfold insL
  rw [List.length_append, List.length_cons, List.length_take, List.length_drop]; omega
theorem insL_getD {l : List Nat} {k : Nat} (hk : k < l.length) (j : Nat) : (insL l k).getD j 0 = l.getD (if j ≤ k then j else j - 1) 0 := by
  have ht : (l.take k).length = k := by rw [List.length_take]; omega
  unfold insL
  by_cases h1 : j < k
  · rw [if_pos (by omega), List.getD_eq_getElem?_getD, List.getElem?_append_left (by omega), List.getElem?_take_of_lt h1, ← List.getD_eq_getElem?_getD]
  · rw [List.getD_eq_getElem?_getD, List.getElem?_append_right (by omega), ht]
    by_cases h2 : j = k
    · subst h2
      rw [if_pos (Nat.le_refl _), Nat.sub_self]; rfl
    · rw [if_neg (by omega), show j - k = (j - k - 1) + 1 by omega, List.getElem?_cons_succ, List.getElem?_drop, ← List.getD_eq_getElem?_getD]
      congr 1
      omega
theorem lat_stem {s l : List Nat} {k : Nat} (hk : k < s.length) (j : Nat) : lat (insL s k) l j = lat s l (if j ≤ k then j else j - 1) := by
  unfold lat
  rw [insL_len hk]
  by_cases h : j < s.length + 1
  · rw [if_pos h, insL_getD hk, if_pos (show (if j ≤ k then j else j - 1) < s.length by split <;> omega)]
  · rw [if_neg h, if_neg (show ¬ j ≤ k by omega), if_neg (show ¬ j - 1 < s.length by omega), show j - (s.length + 1) = j - 1 - s.length by omega]
theorem lat_loopI {s l : List Nat} {k : Nat} (hk : k < l.length) (j : Nat) : lat s (insL l k) j = lat s l (loopW s.length l.length k j) := by
  unfold lat loopW
  rw [insL_len hk]
  by_cases h : j < s.length
  · rw [if_pos h, if_pos h, if_pos h]
  · rw [if_neg h, if_neg h, insL_getD hk]
    have hm := Nat.mod_lt (j - s.length) (show 0 < l.length + 1 by omega)
    generalize (j - s.length) % (l.length + 1) = r at *
    generalize (j - s.length) / (l.length + 1) = q at *
    have hr : (if r ≤ k then r else r - 1) < l.length := by split <;> omega
    generalize (if r ≤ k then r else r - 1) = x at *
    rw [if_neg (show ¬ s.length + q * l.length + x < s.length by omega)]
    rw [show s.length + q * l.length + x - s.length = x + l.length * q by rw [Nat.mul_comm q]; omega, Nat.add_mul_mod_self_left, Nat.mod_eq_of_lt hr]
theorem truth_stut {t : Ltl} {s l s' l' : List Nat} {φ : Nat → Nat} (hw : chkW s l = 0) (hw' : chkW s' l' = 0) (hx : noX t = true) (h : Stut φ) (h0 : φ 0 = 0) (hL : ∀ j, lat s' l' j = lat s l (φ j)) : truthL s' l' t = truthL s l t := by
  have hW := chkW_ok hw
  have hW' := chkW_ok hw'
  by_cases hc : (chkF t 1 0).1 ≠ 0
  · unfold truthL holdsE
    rw [if_pos hc, if_pos hc]
  · have c1 : holdsE s l t = (holdsL s l t, 0) := by unfold holdsE; rw [if_neg hc, if_neg (by simp [hw])]
    have c2 : holdsE s' l' t = (holdsL s' l' t, 0) := by unfold holdsE; rw [if_neg hc, if_neg (by simp [hw'])]
    have wf := chkF_wf t 1 0 (by simpa using hc)
    have l1 := holdsL_len (s := s) (l := l) t wf
    have l2 := holdsL_len (s := s') (l := l') t wf
    have e : (holdsL s' l' t).getD 0 false = (holdsL s l t).getD 0 false := by
      rw [Bool.eq_iff_iff, holds_sem hW'.2 t wf 0 (by omega), holds_sem hW.2 _ wf 0 (by omega)]
      have := sem_stut h hL t hx 0
      rw [h0] at this
      exact this
    unfold truthL
    rw [c1, c2]
    dsimp only
    rw [if_neg (by omega), if_neg (by omega), e]
/-- a word in which its k-th letter comes twice -/
theorem truth_once {t : Ltl} {s l : List Nat} {k : Nat} (hw : chkW s l = 0) (hx : noX t = true) (hk : k < s.length) (hw' : chkW (insL s k) l = 0) : truthL (insL s k) l t = truthL s l t :=
  truth_stut hw hw' hx (stut_once k) (by simp) (lat_stem hk)
theorem truth_loop {t : Ltl} {s l : List Nat} {k : Nat} (hw : chkW s l = 0) (hx : noX t = true) (hk : k < l.length) (hw' : chkW s (insL l k) = 0) : truthL s (insL l k) t = truthL s l t :=
  truth_stut hw hw' hx (stut_loop hk) (by unfold loopW; split <;> simp_all) (lat_loopI hk)
theorem truthL_chk {s l : List Nat} {t : Ltl} {x : Bool} (hT : truthL s l t = (x, true)) : chkW s l = 0 := by
  unfold truthL holdsE at hT
  by_cases h1 : (chkF t 1 0).1 ≠ 0
  · rw [if_pos h1, if_pos (.inl h1)] at hT; simp at hT
  · rw [if_neg h1] at hT
    by_cases h2 : chkW s l ≠ 0
    · rw [if_pos h2, if_pos (.inl h2)] at hT; simp at hT
    · exact Classical.not_not.1 h2
end Go.Proofs.Ytdepjllboiolpaa
