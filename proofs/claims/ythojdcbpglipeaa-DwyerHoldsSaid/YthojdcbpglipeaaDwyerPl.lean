/-
  Package dwyer: plain laws of what patterns mean.
-/
import Derived.Test.YthojdcbpglipeaaDwyer5
set_option linter.unusedVariables false
set_option linter.unusedSimpArgs false
namespace Go.Proofs.Ythojdcbpglipeaa
open Go.RowKit

theorem firstF_none {p : Nat → Bool} {e : Nat} (h : ∀ j, j < e → p j = false) : ∀ (m i : Nat), e - i ≤ m → i ≤ e → firstF p e i = e
  | 0, i, hm, hi => by rw [firstF_end (by omega)]; omega
  | m + 1, i, hm, hi => by
    by_cases hlt : i < e
    · rw [firstF_go hlt (h i hlt)]; exact firstF_none h m (i + 1) (by omega) (by omega)
    · rw [firstF_end hlt]; omega
theorem firstL_none {s l : List Nat} {a e i : Nat} (h : ∀ j, hasL s l j a = false) (hi : i ≤ e) : firstL s l e i a = e := firstF_none (fun j _ => h j) (e - i) i (Nat.le_refl _) hi
theorem lat_per {s l : List Nat} (h0 : 0 < l.length) (j : Nat) (hj : s.length + l.length ≤ j) : lat s l j = lat s l (s.length + (j - s.length) % l.length) := by
  unfold lat
  rw [if_neg (by omega), if_neg (by omega)]
  congr 1
  rw [Nat.add_sub_cancel_left, Nat.mod_mod]
theorem has_per {s l : List Nat} (h0 : 0 < l.length) {a : Nat} (h : ∀ j, j < s.length + l.length → hasL s l j a = false) (j : Nat) : hasL s l j a = false := by
  by_cases hj : j < s.length + l.length
  · exact h j hj
  · have hlt := Nat.mod_lt (j - s.length) h0
    have := h (s.length + (j - s.length) % l.length) (by omega)
    unfold hasL at this ⊢
    rw [lat_per h0 j (by omega)]
    exact this
theorem meansL_err {pt : LPat} {s l : List Nat} (h : (meansL pt s l).2 ≠ 0) : (meansL pt s l).1 = false := by
  unfold meansL at h ⊢
  split
  · rfl
  · rename_i h1
    rw [if_neg h1] at h
    split
    · rfl
    · rename_i h2
      rw [if_neg h2] at h
      exact absurd rfl h
theorem meansL_ok {pt : LPat} {s l : List Nat} (h : (meansL pt s l).2 = 0) : chkP pt = 0 ∧ chkW s l = 0 := by
  unfold meansL at h
  split at h
  · rename_i h1; exact absurd h h1
  · rename_i h1
    split at h
    · rename_i h2; exact absurd h h2
    · rename_i h2
      exact ⟨by simpa using h1, by simpa using h2⟩
theorem meansL_eq {pt : LPat} {s l : List Nat} (h1 : chkP pt = 0) (h2 : chkW s l = 0) : meansL pt s l = ((spansN pt s l (endW s l)).all (spOk pt s l (endW s l)), 0) := by
  unfold meansL; rw [if_neg (by simp [h1]), if_neg (by simp [h2])]

section
variable {k p S q r c : Int} {s l : List Nat}
theorem chk_until (h : chkP (k, 5, p, S, q, r, c) = 0) : chkP (k, 4, p, S, q, r, c) = 0 ∧ chkP (k, 2, p, S, 0, r, c) = 0 ∧ chkP (k, 3, p, S, q, 0, c) = 0 ∧ chkP (k, 1, p, S, 0, 0, c) = 0 := by
  unfold chkP at h
  split at h
  · cases h
  · rename_i h1
    split at h
    · cases h
    · rename_i h2
      split at h
      · cases h
      · rename_i h3
        simp only at h1 h2 h3
        simp only [rightB, Bool.not_eq_false, Bool.and_eq_true, decide_eq_true_eq] at h2
        obtain ⟨⟨⟨⟨a1, a2⟩, b1, b2⟩, c1, c2⟩, d1, d2⟩ := h2
        refine ⟨?_, ?_, ?_, ?_⟩ <;>
        · unfold chkP
          rw [if_neg (by simp only; omega), if_neg (by simp only [rightB, Bool.not_eq_false, Bool.and_eq_true, decide_eq_true_eq]; refine ⟨⟨⟨⟨a1, a2⟩, b1, b2⟩, ⟨by omega, by simp⟩⟩, ⟨by omega, by simp⟩⟩), if_neg (by simp only; omega)]
theorem scopes1 (h : chkP (k, 5, p, S, q, r, c) = 0) (hw : chkW s l = 0) (ha : (meansL (k, 5, p, S, q, r, c) s l).1 = true) : (meansL (k, 4, p, S, q, r, c) s l).1 = true := by
  rw [meansL_eq h hw] at ha
  rw [meansL_eq (chk_until h).1 hw]
  simp only [List.all_eq_true] at ha ⊢
  intro x hx
  refine ha x ?_
  simp only [spansN] at hx ⊢
  simp at hx ⊢
  obtain ⟨i, hi, hx⟩ := hx
  refine ⟨i, hi, ?_⟩
  unfold spAt at hx ⊢
  simp only at hx ⊢
  split at hx
  · rename_i h1
    rw [if_pos h1]
    split at hx
    · rename_i h2
      rw [if_pos (.inr trivial)]; exact hx
    · cases hx
  · cases hx
theorem scopes2 (h : chkP (k, 5, p, S, q, r, c) = 0) (hw : chkW s l = 0) (hn : ∀ j, j < s.length + l.length → hasL s l j r.toNat = false) : (meansL (k, 4, p, S, q, r, c) s l).1 = true ∧ (meansL (k, 2, p, S, 0, r, c) s l).1 = true := by
  have h0 := (chkW_ok hw).2
  have hno := has_per h0 hn
  rw [meansL_eq (chk_until h).1 hw, meansL_eq (chk_until h).2.1 hw]
  constructor
  · have : spansN (k, 4, p, S, q, r, c) s l (endW s l) = [] := by
      simp only [spansN]
      simp
      intro i hi
      unfold spAt
      split
      · rw [if_neg]
        simp only
        rw [firstL_none hno (by unfold endW; omega)]
        simp
      · rfl
    rw [this]; rfl
  · have : spansN (k, 2, p, S, 0, r, c) s l (endW s l) = [] := by
      simp only [spansN]
      simp
      exact firstL_none hno (Nat.zero_le _)
    rw [this]; rfl
theorem scopes3 (h : chkP (k, 5, p, S, q, r, c) = 0) (hw : chkW s l = 0) (hq : hasL s l 0 q.toNat = true) : (meansL (k, 3, p, S, q, 0, c) s l).1 = (meansL (k, 1, p, S, 0, 0, c) s l).1 := by
  have h0 := (chkW_ok hw).2
  rw [meansL_eq (chk_until h).2.2.1 hw, meansL_eq (chk_until h).2.2.2 hw]
  have hf : firstL s l (endW s l) 0 q.toNat = 0 := firstF_hit hq
  have e1 : spansN (k, 3, p, S, q, 0, c) s l (endW s l) = [(0, endW s l)] := by
    simp only [spansN]
    simp
    rw [hf, if_pos (by unfold endW; omega)]
  have e2 : spansN (k, 1, p, S, 0, 0, c) s l (endW s l) = [(0, endW s l)] := by
    simp only [spansN]; simp
  rw [e1, e2]; rfl
end
end Go.Proofs.Ythojdcbpglipeaa
