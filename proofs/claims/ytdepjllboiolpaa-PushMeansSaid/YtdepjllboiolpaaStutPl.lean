/-
  Formulas without LNext do not see that a letter comes twice. Plain law, no program in sight.
-/
import Derived.Test.YtdepjllboiolpaaSem
set_option linter.unusedVariables false
set_option linter.unusedSimpArgs false
namespace Go.Proofs.Ytdepjllboiolpaa
open Go.RowKit

/-- a walk that goes on by one or waits, and goes on again and again -/
structure Stut (φ : Nat → Nat) : Prop where
  step : ∀ j, φ (j + 1) = φ j ∨ φ (j + 1) = φ j + 1
  far : ∀ j, ∃ d, φ (j + d) ≠ φ j
theorem step_mono {φ : Nat → Nat} (h : ∀ j, φ (j + 1) = φ j ∨ φ (j + 1) = φ j + 1) (j d : Nat) : φ j ≤ φ (j + d) := by
  induction d with
  | zero => exact Nat.le_refl _
  | succ d ih => rcases h (j + d) with e | e <;> (rw [← Nat.add_assoc, e]; omega)
theorem Stut.mono {φ : Nat → Nat} (h : Stut φ) (j d : Nat) : φ j ≤ φ (j + d) := step_mono h.step j d
theorem Stut.next {φ : Nat → Nat} (h : Stut φ) (j : Nat) : ∃ d, φ (j + d + 1) = φ j + 1 ∧ ∀ x, x ≤ d → φ (j + x) = φ j := by
  obtain ⟨d, hd⟩ := h.far j
  induction d generalizing j with
  | zero => exact absurd rfl hd
  | succ d ih =>
    by_cases e : φ (j + d) = φ j
    · clear ih
      induction d with
      | zero =>
        rcases h.step j with e1 | e1
        · exact absurd e1 hd
        · exact ⟨0, e1, fun x hx => by rw [show x = 0 by omega]; rfl⟩
      | succ d ih2 =>
        by_cases e2 : ∃ x, x ≤ d ∧ φ (j + x) ≠ φ j
        · obtain ⟨x, hx, hne⟩ := e2
          have h1 := h.mono j x
          have h2 := h.mono (j + x) (d + 1 - x)
          rw [show j + x + (d + 1 - x) = j + (d + 1) by omega, e] at h2
          omega
        · refine ⟨d + 1, ?_, fun x hx => ?_⟩
          · rcases h.step (j + (d + 1)) with e1 | e1
            · rw [e] at e1; exact absurd e1 hd
            · rw [e] at e1; exact e1
          · by_cases hx1 : x ≤ d
            · exact Classical.byContradiction fun hne => e2 ⟨x, hx1, hne⟩
            · rw [show x = d + 1 by omega]; exact e
    · exact ih j e
/-- the first time at m -/
theorem Stut.reach {φ : Nat → Nat} (h : Stut φ) : ∀ (k j : Nat), ∃ d, φ (j + d) = φ j + k ∧ ∀ x, x < d → φ (j + x) < φ j + k
  | 0, j => ⟨0, rfl, fun x hx => by omega⟩
  | k + 1, j => by
    obtain ⟨d, h1, h2⟩ := h.reach k j
    obtain ⟨e, h3, h4⟩ := h.next (j + d)
    refine ⟨d + e + 1, ?_, fun x hx => ?_⟩
    · rw [show j + (d + e + 1) = j + d + e + 1 by omega, h3, h1]; omega
    · by_cases hxd : x < d
      · have := h2 x hxd; omega
      · have := h4 (x - d) (by omega)
        rw [show j + d + (x - d) = j + x by omega, h1] at this
        omega
theorem Til.stut {φ : Nat → Nat} (h : Stut φ) {A B A' B' : Nat → Prop} (ha : ∀ j, A' j ↔ A (φ j)) (hb : ∀ j, B' j ↔ B (φ j)) (j : Nat) : Til A' B' j ↔ Til A B (φ j) := by
  constructor
  · rintro ⟨j2, hj, h1, h2⟩
    obtain ⟨d, rfl⟩ := Nat.exists_eq_add_of_le hj
    refine ⟨φ (j + d), h.mono j d, (hb _).1 h1, fun m hm hm2 => ?_⟩
    obtain ⟨k, rfl⟩ := Nat.exists_eq_add_of_le hm
    obtain ⟨x, e, _⟩ := h.reach k j
    have hx : x < d := by
      apply Classical.byContradiction
      intro hge
      have := h.mono (j + d) (x - d)
      rw [show j + d + (x - d) = j + x by omega, e] at this
      omega
    rw [← e]
    exact (ha _).1 (h2 (j + x) (by omega) (by omega))
  · rintro ⟨m2, hm, h1, h2⟩
    obtain ⟨k, rfl⟩ := Nat.exists_eq_add_of_le hm
    obtain ⟨d, e, hlt⟩ := h.reach k j
    refine ⟨j + d, by omega, (hb _).2 (by rw [e]; exact h1), fun x hx hx2 => ?_⟩
    obtain ⟨y, rfl⟩ := Nat.exists_eq_add_of_le hx
    exact (ha _).2 (h2 _ (h.mono j y) (hlt y (by omega)))
mutual
def noX : Ltl → Bool
  | .mk k n kids => !(k == 7) && noXs kids
def noXs : List Ltl → Bool
  | [] => true
  | x :: r => noX x && noXs r
end
mutual
theorem sem_stut {φ : Nat → Nat} {L L' : Nat → Nat} (h : Stut φ) (hL : ∀ j, L' j = L (φ j)) : ∀ (t : Ltl), noX t = true → ∀ j, (sem L' t j ↔ sem L t (φ j))
  | .mk k n kids, hx, j => by
    simp only [noX, Bool.and_eq_true, Bool.not_eq_true', beq_eq_false_iff_ne] at hx
    have hk : ∀ c j, (sems L' kids).getD c (fun _ => False) j ↔ (sems L kids).getD c (fun _ => False) (φ j) := fun c j => sems_stut h hL kids hx.2 c j
    simp only [sem, semK]
    split
    · exact Iff.rfl
    · split
      · rw [hL]
      · split
        · exact not_congr (hk 0 j)
        · split
          · exact and_congr (hk 0 j) (hk 1 j)
          · split
            · exact or_congr (hk 0 j) (hk 1 j)
            · split
              · exact absurd (by assumption) hx.1
              · split
                · exact Til.stut h (hk 0) (hk 1) j
                · split
                  · exact not_congr (Til.stut h (fun j => not_congr (hk 0 j)) (fun j => not_congr (hk 1 j)) j)
                  · split
                    · exact Til.stut h (A := fun _ => True) (A' := fun _ => True) (fun _ => Iff.rfl) (hk 0) j
                    · split
                      · exact not_congr (Til.stut h (A := fun _ => True) (A' := fun _ => True) (fun _ => Iff.rfl) (fun j => not_congr (hk 0 j)) j)
                      · exact Iff.rfl
theorem sems_stut {φ : Nat → Nat} {L L' : Nat → Nat} (h : Stut φ) (hL : ∀ j, L' j = L (φ j)) : ∀ (kids : List Ltl), noXs kids = true → ∀ c j, ((sems L' kids).getD c (fun _ => False) j ↔ (sems L kids).getD c (fun _ => False) (φ j))
  | [], hx, c, j => by simp [sems]
  | x :: r, hx, 0, j => by
    simp only [noXs, Bool.and_eq_true] at hx
    simpa [sems] using sem_stut h hL x hx.1 j
  | x :: r, hx, c + 1, j => by
    simp only [noXs, Bool.and_eq_true] at hx
    simpa [sems] using sems_stut h hL r hx.2 c j
end
/-- the walk that waits once at k -/
theorem stut_once (k : Nat) : Stut (fun j => if j ≤ k then j else j - 1) where
  step := fun j => by
    by_cases h : j + 1 ≤ k
    · rw [if_pos h, if_pos (by omega)]; exact .inr rfl
    · rw [if_neg h]
      by_cases h1 : j ≤ k
      · rw [if_pos h1]; exact .inl (by omega)
      · rw [if_neg h1]; exact .inr (by omega)
  far := fun j => ⟨2, by
    by_cases h1 : j ≤ k
    · rw [if_pos h1]; split <;> omega
    · rw [if_neg h1, if_neg (by omega)]; omega⟩
/-- the walk that waits at each k-th place of the loop -/
def loopW (s n k : Nat) (j : Nat) : Nat := if j < s then j else s + (j - s) / (n + 1) * n + (if (j - s) % (n + 1) ≤ k then (j - s) % (n + 1) else (j - s) % (n + 1) - 1)
theorem stut_loop {s n k : Nat} (hk : k < n) : Stut (loopW s n k) := by
  have hst : ∀ j, loopW s n k (j + 1) = loopW s n k j ∨ loopW s n k (j + 1) = loopW s n k j + 1 := by
    intro j
    unfold loopW
    by_cases h1 : j + 1 < s
    · rw [if_pos h1, if_pos (by omega)]; exact .inr rfl
    · rw [if_neg h1]
      by_cases h2 : j < s
      · rw [if_pos h2, show j + 1 - s = 0 by omega]
        simp
        omega
      · rw [if_neg h2, show j + 1 - s = (j - s) + 1 by omega]
        generalize j - s = q
        have hm := Nat.mod_lt q (show 0 < n + 1 by omega)
        have hd := Nat.div_add_mod q (n + 1)
        generalize hq : q / (n + 1) = a at *
        generalize hr : q % (n + 1) = r at *
        have e : q = (n + 1) * a + r := hd.symm
        by_cases hlast : r = n
        · have e1 : (q + 1) / (n + 1) = a + 1 := by
            rw [e, hlast, show (n + 1) * a + n + 1 = (n + 1) * (a + 1) by rw [Nat.mul_add, Nat.mul_one]; omega]
            exact Nat.mul_div_cancel_left _ (by omega)
          have e2 : (q + 1) % (n + 1) = 0 := by
            rw [e, hlast, Nat.add_assoc, show (n + 1) * a + (n + 1) = (n + 1) * (a + 1) by rw [Nat.mul_add, Nat.mul_one]]
            exact Nat.mul_mod_right _ _
          rw [e1, e2, hlast, if_pos (Nat.zero_le _), if_neg (by omega), Nat.add_mul, Nat.one_mul]
          exact .inr (by omega)
        · have e1 : (q + 1) / (n + 1) = a := by
            rw [e, Nat.add_assoc, Nat.mul_add_div (by omega), Nat.div_eq_of_lt (by omega), Nat.add_zero]
          have e2 : (q + 1) % (n + 1) = r + 1 := by
            rw [e, Nat.add_assoc, Nat.mul_add_mod, Nat.mod_eq_of_lt (by omega)]
          rw [e1, e2]
          by_cases h3 : r + 1 ≤ k
          · rw [if_pos h3, if_pos (by omega)]; exact .inr (by omega)
          · rw [if_neg h3]
            by_cases h4 : r ≤ k
            · rw [if_pos h4]; exact .inl (by omega)
            · rw [if_neg h4]; exact .inr (by omega)
  refine ⟨hst, fun j => ⟨s + (n + 1), ?_⟩⟩
  have key : ∀ q, loopW s n k (s + q + (n + 1)) = loopW s n k (s + q) + n := by
    intro q
    unfold loopW
    rw [if_neg (show ¬ s + q + (n + 1) < s by omega), if_neg (show ¬ s + q < s by omega), show s + q + (n + 1) - s = q + (n + 1) by omega, show s + q - s = q by omega, Nat.add_div_right _ (by omega), Nat.add_mod_right, Nat.succ_mul]
    omega
  have hk2 := key j
  rw [show s + j + (n + 1) = j + (s + (n + 1)) by omega] at hk2
  have hmono : loopW s n k j ≤ loopW s n k (s + j) := by
    rw [Nat.add_comm s j]
    exact step_mono hst j s
  omega
end Go.Proofs.Ytdepjllboiolpaa
