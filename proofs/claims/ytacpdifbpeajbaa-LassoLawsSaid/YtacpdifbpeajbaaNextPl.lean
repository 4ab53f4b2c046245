/-
  The plain part of LassoNext.
-/
import Derived.Test.YtacpdifbpeajbaaLasso4
import Derived.Test.YtacpdifbpeajbaaSem
set_option linter.unusedVariables false
set_option linter.unusedSimpArgs false
namespace Go.Proofs.Ytacpdifbpeajbaa
open Go.RowKit

mutual
theorem chkF_down : ∀ (t : Ltl) (d c d' c' : Int), d' ≤ d → c' ≤ c → (chkF t d c).1 = 0 → (chkF t d' c').1 = 0 ∧ (chkF t d' c').2 ≤ (chkF t d c).2
  | .mk k n kids, d, c, d', c', hd, hc, h => by
    simp only [chkF] at h ⊢
    split at h
    · cases h
    · rename_i h1
      rw [if_neg h1, if_neg (by omega)]
      split at h
      · cases h
      · rename_i h2
        rw [if_neg h2, if_neg (by omega)]
        split at h
        · cases h
        · rename_i h3
          rw [if_neg h3, if_neg h3]
          exact chkFL_down kids _ _ _ _ (by omega) (by omega) h
theorem chkFL_down : ∀ (l : List Ltl) (d c d' c' : Int), d' ≤ d → c' ≤ c → (chkFL l d c).1 = 0 → (chkFL l d' c').1 = 0 ∧ (chkFL l d' c').2 ≤ (chkFL l d c).2
  | [], d, c, d', c', hd, hc, h => by simp only [chkFL]; exact ⟨trivial, hc⟩
  | x :: r, d, c, d', c', hd, hc, h => by
    simp only [chkFL] at h ⊢
    split at h
    · rename_i h1; exact absurd h h1
    · rename_i h1
      have hx := chkF_down x d c d' c' hd hc (by simpa using h1)
      rw [if_neg h1, if_neg (by simp [hx.1])]
      exact chkFL_down r _ _ _ _ hd hx.2 h
end
theorem lat_tail {a : Nat} {s l : List Nat} (j : Nat) : lat s l j = lat (a :: s) l (j + 1) := by
  unfold lat
  by_cases h : j < s.length
  · rw [if_pos h, if_pos (by simp; omega)]; simp
  · rw [if_neg h, if_neg (by simp; omega)]
    simp
theorem lat_turn {a : Nat} {l : List Nat} (j : Nat) : lat [] (l ++ [a]) j = lat [] (a :: l) (j + 1) := by
  unfold lat
  simp only [List.length_nil, Nat.not_lt_zero, if_false, Nat.sub_zero, List.length_append, List.length_cons, List.length_singleton, Nat.zero_add, List.length_nil]
  have hm : j % (l.length + 1) < l.length + 1 := Nat.mod_lt _ (by omega)
  have he : (j + 1) % (l.length + 1) = if j % (l.length + 1) = l.length then 0 else j % (l.length + 1) + 1 := by
    rw [Nat.add_mod]
    split
    · rename_i h
      rw [h]
      by_cases hl : l.length = 0
      · simp [hl, Nat.mod_one]
      · rw [Nat.mod_eq_of_lt (show 1 < l.length + 1 by omega), Nat.mod_self]
    · rename_i h
      by_cases hl : l.length = 0
      · omega
      · rw [Nat.mod_eq_of_lt (show 1 < l.length + 1 by omega), Nat.mod_eq_of_lt (by omega)]
  rw [he]
  generalize j % (l.length + 1) = m at *
  split
  · rename_i h
    subst h
    simp
  · rename_i h
    rw [List.getD_eq_getElem?_getD, List.getD_eq_getElem?_getD, List.getElem?_append_left (by omega)]
    simp
/-- what holds next holds first of the word that begins there -/
theorem next_truth {t : Ltl} {s l s' l' : List Nat} (hc : (chkF (.mk 7 0 [t]) 1 0).1 = 0) (hw : chkW s l = 0) (hw' : chkW s' l' = 0) (hL : ∀ j, lat s' l' j = lat s l (j + 1)) :
    truthL s' l' t = ((holdsL s l (.mk 7 0 [t])).getD 0 false, true) := by
  have h1 : (chkF t 2 1).1 = 0 := by
    simp only [chkF] at hc
    split at hc
    · cases hc
    · split at hc
      · cases hc
      · split at hc
        · cases hc
        · simp only [chkFL] at hc
          split at hc
          · rename_i h1; exact absurd hc h1
          · rename_i h1; simpa using h1
  have h2 := (chkF_down t 2 1 1 0 (by omega) (by omega) h1).1
  have hW := chkW_ok hw
  have hW' := chkW_ok hw'
  have wf := chkF_wf _ _ _ hc
  have wft := chkF_wf _ _ _ h2
  have hlen := holdsL_len (s := s') (l := l') t wft
  have e1 : (holdsL s' l' t).getD 0 false = (holdsL s l (.mk 7 0 [t])).getD 0 false := by
    rw [Bool.eq_iff_iff, holds_sem hW'.2 t wft 0 (by omega), holds_sem hW.2 _ wf 0 (by omega)]
    have : sem (lat s l) (.mk 7 0 [t]) 0 = sem (lat s l) t 1 := by simp [sem, sems, semK]
    rw [this]
    exact sem_congr t 0 1 (fun j => by rw [Nat.zero_add, hL, Nat.add_comm])
  unfold truthL holdsE
  rw [if_neg (show ¬ (chkF t 1 0).1 ≠ 0 by simp [h2]), if_neg (show ¬ chkW s' l' ≠ 0 by simp [hw'])]
  rw [if_neg (by simp; intro h; rw [h] at hlen; simp at hlen; omega), e1]
end Go.Proofs.Ytacpdifbpeajbaa
