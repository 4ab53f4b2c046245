import Derived.Test.YtllpfgcngokhnaaPtTableauJoins14
/-
  What Make answers: how big, and what Accepts says of it. Plain.
-/
set_option linter.unusedVariables false
set_option linter.unusedSimpArgs false
namespace Go.Proofs.Ytllpfgcngokhnaa
open Go.RowKit

theorem sumL_le {g : List (List Int)} {n : Nat} (h : ∀ r ∈ g, r.length ≤ n) : edges g ≤ g.length * n := by
  induction g with
  | nil => simp [edges]
  | cons a r ih =>
    have h1 := ih (fun x hx => h x (List.mem_cons_of_mem _ hx))
    have h2 := h a (List.mem_cons_self ..)
    unfold edges at *
    simp only [List.map_cons, List.sum_cons, List.length_cons, Nat.add_mul]
    omega
theorem selB {p : Nat → Bool} {N : Nat} : (((List.range N).filter p).map fun s : Nat => (s : Int)).length ≤ N := by
  rw [List.length_map]
  exact Nat.le_trans (List.length_filter_le _ _) (by rw [List.length_range]; exact Nat.le_refl _)
/-- how big -/
theorem makeT_size (t : Ltl) : edges (makeT t).1.2.1 + (makeT t).1.1.length ≤ 8589934592 ∧ (∀ j, ((makeT t).1.2.1.getD j []).length ≤ 1048576) ∧ (makeT t).1.1.length ≤ 1048576 := by
  have hz : edges nilA5.2.1 + nilA5.1.length ≤ 8589934592 ∧ (∀ j, (nilA5.2.1.getD j []).length ≤ 1048576) ∧ nilA5.1.length ≤ 1048576 := by
    refine ⟨by decide, fun j => ?_, by decide⟩
    show (([] : List (List Int)).getD j []).length ≤ _
    simp
  unfold makeT
  split
  · exact hz
  · split
    · exact hz
    · rename_i h10
      generalize tabM (plainE t).1 = m at *
      generalize (plainE t).1 = f
      have hN : 2 ^ numN m ≤ 2 ^ 10 := Nat.pow_le_pow_right (by omega) (by omega)
      have hrow : ∀ r ∈ (tabL m f).2.1, r.length ≤ 1024 := fun r hr => by
        obtain ⟨s, _, rfl⟩ := List.mem_map.1 hr
        exact Nat.le_trans selB hN
      have hl : (tabL m f).2.1.length ≤ 1024 := by
        show ((List.range (2 ^ numN m)).map _).length ≤ 1024
        rw [List.length_map, List.length_range]; exact hN
      have h1 : (tabL m f).1.length ≤ 1024 := Nat.le_trans selB hN
      have h2 := sumL_le hrow
      have h3 : (tabL m f).2.1.length * 1024 ≤ 1024 * 1024 := Nat.mul_le_mul_right _ hl
      dsimp only
      refine ⟨by omega, fun j => ?_, by omega⟩
      rw [List.getD_eq_getElem?_getD]
      cases hj : (tabL m f).2.1[j]? with
      | none => simp
      | some r => exact Nat.le_trans (hrow r (List.mem_of_getElem? hj)) (by decide)
theorem holds0 {s l : List Nat} {t : Ltl} (hW : chkW s l = 0) (hw : wfT t) : (holdsL s l t).getD 0 false = true ↔ sem (lat s l) t 0 := by
  obtain ⟨h1, h2⟩ := chkW_ok hW
  exact holds_sem h2 t hw 0 (by omega)
/-- what Accepts says of it -/
theorem acc_makeT {t : Ltl} {s l : List Nat} (h : (makeT t).2 = 0) (hW : chkW s l = 0) : accF (makeT t).1 s l = ((holdsL s l t).getD 0 false, 0) := by
  obtain ⟨hA, hacc, hw⟩ := makeT_acc (L := lat s l) h
  rw [accF_at hA hW]
  unfold AccA at hacc
  rw [← accB_iff, ← holds0 hW hw] at hacc
  exact Prod.ext (Bool.eq_iff_iff.2 hacc) rfl
theorem truthL_ok {s l : List Nat} {t : Ltl} (h : (truthL s l t).2 = true) : chkW s l = 0 ∧ (truthL s l t).1 = (holdsL s l t).getD 0 false := by
  unfold truthL at h ⊢
  split at h
  · cases h
  · rename_i h1
    rw [if_neg h1]
    unfold holdsE at h1 ⊢
    split at h1
    · rename_i h2
      exact absurd (.inl h2) h1
    · rename_i h2
      split at h1
      · rename_i h3
        exact absurd (.inl h3) h1
      · rename_i h3
        rw [if_neg h2, if_neg h3]
        exact ⟨by simpa using h3, rfl⟩
/-- what a word says of a formula -/
def saidB (s l : List Nat) (t : Ltl) : Bool := (holdsL s l t).getD 0 false
theorem saidB_and {s l : List Nat} {f g : Ltl} (hW : chkW s l = 0) (hf : wfT f) (hg : wfT g) (hx : wfT (.mk 5 0 [f, g])) : saidB s l (.mk 5 0 [f, g]) = (saidB s l f && saidB s l g) := by
  rw [Bool.eq_iff_iff, Bool.and_eq_true]
  unfold saidB
  rw [holds0 hW hf, holds0 hW hg, holds0 hW hx]
  simp [sem, sems, semK]
theorem saidB_or {s l : List Nat} {f g : Ltl} (hW : chkW s l = 0) (hf : wfT f) (hg : wfT g) (hx : wfT (.mk 6 0 [f, g])) : saidB s l (.mk 6 0 [f, g]) = (saidB s l f || saidB s l g) := by
  rw [Bool.eq_iff_iff, Bool.or_eq_true]
  unfold saidB
  rw [holds0 hW hf, holds0 hW hg, holds0 hW hx]
  simp [sem, sems, semK]
theorem saidB_not {s l : List Nat} {f : Ltl} (hW : chkW s l = 0) (hf : wfT f) (hx : wfT (.mk 4 0 [f])) : saidB s l (.mk 4 0 [f]) = !saidB s l f := by
  rw [Bool.eq_iff_iff, Bool.not_eq_true', ← Bool.not_eq_true]
  unfold saidB
  rw [holds0 hW hf, holds0 hW hx]
  simp [sem, sems, semK]
/-- made: G F p0 -/
def gfT : Ltl := .mk 11 0 [.mk 10 0 [.mk 3 0 []]]
theorem gf_make : (makeT gfT).2 = 0 := by decide +kernel
theorem gf_1 : accF (makeT gfT).1 [] [0, 1] = (true, 0) := by
  rw [acc_makeT gf_make (by decide)]; decide +kernel
theorem gf_2 : accF (makeT gfT).1 [] [0, 2] = (false, 0) := by
  rw [acc_makeT gf_make (by decide)]; decide +kernel
end Go.Proofs.Ytllpfgcngokhnaa
/-
  Formulas without LNext do not see that a letter comes twice. Plain law, no program in sight.
-/
set_option linter.unusedVariables false
set_option linter.unusedSimpArgs false
namespace Go.Proofs.Ytllpfgcngokhnaa
open Go.RowKit

/-- a walk that goes on by one or waits, and goes on again and again -/
structure Stut (φ : Nat → Nat) : Prop where
  step : ∀ j, φ (j + 1) = φ j ∨ φ (j + 1) = φ j + 1
  far : ∀ j, ∃ d, φ (j + d) ≠ φ j
theorem step_mono {φ : Nat → Nat} (h : ∀ j, φ (j + 1) = φ j ∨ φ (j + 1) = φ j + 1) (j d : Nat) : φ j ≤ φ (j + d) := by
  induction d with
  | zero => exact Nat.le_refl _
  | succ d ih => rcases h (j + d) with e | e <;> (rw [← Nat.add_assoc, e]; omega)
theorem Stut.mono {φ : Nat → Nat} (h : Stut φ) (j d : Nat) : φ j ≤ φ (j + d) := step_mono h.step j d
theorem Stut.next {φ : Nat → Nat} (h : Stut φ) (j : Nat) : ∃ d, φ (j + d + 1) = φ j + 1 ∧ ∀ x, x ≤ d → φ (j + x) = φ j := by
  obtain ⟨d, hd⟩ := h.far j
  induction d generalizing j with
  | zero => exact absurd rfl hd
  | succ d ih =>
    by_cases e : φ (j + d) = φ j
    · clear ih
      induction d with
      | zero =>
        rcases h.step j with e1 | e1
        · exact absurd e1 hd
        · exact ⟨0, e1, fun x hx => by rw [show x = 0 by omega]; rfl⟩
      | succ d ih2 =>
        by_cases e2 : ∃ x, x ≤ d ∧ φ (j + x) ≠ φ j
        · obtain ⟨x, hx, hne⟩ := e2
          have h1 := h.mono j x
          have h2 := h.mono (j + x) (d + 1 - x)
          rw [show j + x + (d + 1 - x) = j + (d + 1) by omega, e] at h2
          omega
        · refine ⟨d + 1, ?_, fun x hx => ?_⟩
          · rcases h.step (j + (d + 1)) with e1 | e1
            · rw [e] at e1; exact absurd e1 hd
            · rw [e] at e1; exact e1
          · by_cases hx1 : x ≤ d
            · exact Classical.byContradiction fun hne => e2 ⟨x, hx1, hne⟩
            · rw [show x = d + 1 by omega]; exact e
    · exact ih j e
/-- the first time at m -/
theorem Stut.reach {φ : Nat → Nat} (h : Stut φ) : ∀ (k j : Nat), ∃ d, φ (j + d) = φ j + k ∧ ∀ x, x < d → φ (j + x) < φ j + k
  | 0, j => ⟨0, rfl, fun x hx => by omega⟩
  | k + 1, j => by
    obtain ⟨d, h1, h2⟩ := h.reach k j
    obtain ⟨e, h3, h4⟩ := h.next (j + d)
    refine ⟨d + e + 1, ?_, fun x hx => ?_⟩
    · rw [show j + (d + e + 1) = j + d + e + 1 by omega, h3, h1]; omega
    · by_cases hxd : x < d
      · have := h2 x hxd; omega
      · have := h4 (x - d) (by omega)
        rw [show j + d + (x - d) = j + x by omega, h1] at this
        omega
theorem Til.stut {φ : Nat → Nat} (h : Stut φ) {A B A' B' : Nat → Prop} (ha : ∀ j, A' j ↔ A (φ j)) (hb : ∀ j, B' j ↔ B (φ j)) (j : Nat) : Til A' B' j ↔ Til A B (φ j) := by
  constructor
  · rintro ⟨j2, hj, h1, h2⟩
    obtain ⟨d, rfl⟩ := Nat.exists_eq_add_of_le hj
    refine ⟨φ (j + d), h.mono j d, (hb _).1 h1, fun m hm hm2 => ?_⟩
    obtain ⟨k, rfl⟩ := Nat.exists_eq_add_of_le hm
    obtain ⟨x, e, _⟩ := h.reach k j
    have hx : x < d := by
      apply Classical.byContradiction
      intro hge
      have := h.mono (j + d) (x - d)
      rw [show j + d + (x - d) = j + x by omega, e] at this
      omega
    rw [← e]
    exact (ha _).1 (h2 (j + x) (by omega) (by omega))
  · rintro ⟨m2, hm, h1, h2⟩
    obtain ⟨k, rfl⟩ := Nat.exists_eq_add_of_le hm
    obtain ⟨d, e, hlt⟩ := h.reach k j
    refine ⟨j + d, by omega, (hb _).2 (by rw [e]; exact h1), fun x hx hx2 => ?_⟩
    obtain ⟨y, rfl⟩ := Nat.exists_eq_add_of_le hx
    exact (ha _).2 (h2 _ (h.mono j y) (hlt y (by omega)))
mutual
def noX : Ltl → Bool
  | .mk k n kids => !(k == 7) && noXs kids
def noXs : List Ltl → Bool
  | [] => true
  | x :: r => noX x && noXs r
end
mutual
theorem sem_stut {φ : Nat → Nat} {L L' : Nat → Nat} (h : Stut φ) (hL : ∀ j, L' j = L (φ j)) : ∀ (t : Ltl), noX t = true → ∀ j, (sem L' t j ↔ sem L t (φ j))
  | .mk k n kids, hx, j => by
    simp only [noX, Bool.and_eq_true, Bool.not_eq_true', beq_eq_false_iff_ne] at hx
    have hk : ∀ c j, (sems L' kids).getD c (fun _ => False) j ↔ (sems L kids).getD c (fun _ => False) (φ j) := fun c j => sems_stut h hL kids hx.2 c j
    simp only [sem, semK]
    split
    · exact Iff.rfl
    · split
      · rw [hL]
      · split
        · exact not_congr (hk 0 j)
        · split
          · exact and_congr (hk 0 j) (hk 1 j)
          · split
            · exact or_congr (hk 0 j) (hk 1 j)
            · split
              · exact absurd (by assumption) hx.1
              · split
                · exact Til.stut h (hk 0) (hk 1) j
                · split
                  · exact not_congr (Til.stut h (fun j => not_congr (hk 0 j)) (fun j => not_congr (hk 1 j)) j)
                  · split
                    · exact Til.stut h (A := fun _ => True) (A' := fun _ => True) (fun _ => Iff.rfl) (hk 0) j
                    · split
                      · exact not_congr (Til.stut h (A := fun _ => True) (A' := fun _ => True) (fun _ => Iff.rfl) (fun j => not_congr (hk 0 j)) j)
                      · exact Iff.rfl
theorem sems_stut {φ : Nat → Nat} {L L' : Nat → Nat} (h : Stut φ) (hL : ∀ j, L' j = L (φ j)) : ∀ (kids : List Ltl), noXs kids = true → ∀ c j, ((sems L' kids).getD c (fun _ => False) j ↔ (sems L kids).getD c (fun _ => False) (φ j))
  | [], hx, c, j => by simp [sems]
  | x :: r, hx, 0, j => by
    simp only [noXs, Bool.and_eq_true] at hx
    simpa [sems] using sem_stut h hL x hx.1 j
  | x :: r, hx, c + 1, j => by
    simp only [noXs, Bool.and_eq_true] at hx
    simpa [sems] using sems_stut h hL r hx.2 c j
end
/-- the walk that waits once at k -/
theorem stut_once (k : Nat) : Stut (fun j => if j ≤ k then j else j - 1) where
  step := fun j => by
    by_cases h : j + 1 ≤ k
    · rw [if_pos h, if_pos (by omega)]; exact .inr rfl
    · rw [if_neg h]
      by_cases h1 : j ≤ k
      · rw [if_pos h1]; exact .inl (by omega)
      · rw [if_neg h1]; exact .inr (by omega)
  far := fun j => ⟨2, by
    by_cases h1 : j ≤ k
    · rw [if_pos h1]; split <;> omega
    · rw [if_neg h1, if_neg (by omega)]; omega⟩
/-- the walk that waits at each k-th place of the loop -/
def loopW (s n k : Nat) (j : Nat) : Nat := if j < s then j else s + (j - s) / (n + 1) * n + (if (j - s) % (n + 1) ≤ k then (j - s) % (n + 1) else (j - s) % (n + 1) - 1)
theorem stut_loop {s n k : Nat} (hk : k < n) : Stut (loopW s n k) := by
  have hst : ∀ j, loopW s n k (j + 1) = loopW s n k j ∨ loopW s n k (j + 1) = loopW s n k j + 1 := by
    intro j
    unfold loopW
    by_cases h1 : j + 1 < s
    · rw [if_pos h1, if_pos (by omega)]; exact .inr rfl
    · rw [if_neg h1]
      by_cases h2 : j < s
      · rw [if_pos h2, show j + 1 - s = 0 by omega]
        simp
        omega
      · rw [if_neg h2, show j + 1 - s = (j - s) + 1 by omega]
        generalize j - s = q
        have hm := Nat.mod_lt q (show 0 < n + 1 by omega)
        have hd := Nat.div_add_mod q (n + 1)
        generalize hq : q / (n + 1) = a at *
        generalize hr : q % (n + 1) = r at *
        have e : q = (n + 1) * a + r := hd.symm
        by_cases hlast : r = n
        · have e1 : (q + 1) / (n + 1) = a + 1 := by
            rw [e, hlast, show (n + 1) * a + n + 1 = (n + 1) * (a + 1) by rw [Nat.mul_add, Nat.mul_one]; omega]
            exact Nat.mul_div_cancel_left _ (by omega)
          have e2 : (q + 1) % (n + 1) = 0 := by
            rw [e, hlast, Nat.add_assoc, show (n + 1) * a + (n + 1) = (n + 1) * (a + 1) by rw [Nat.mul_add, Nat.mul_one]]
            exact Nat.mul_mod_right _ _
          rw [e1, e2, hlast, if_pos (Nat.zero_le _), if_neg (by omega), Nat.add_mul, Nat.one_mul]
          exact .inr (by omega)
        · have e1 : (q + 1) / (n + 1) = a := by
            rw [e, Nat.add_assoc, Nat.mul_add_div (by omega), Nat.div_eq_of_lt (by omega), Nat.add_zero]
          have e2 : (q + 1) % (n + 1) = r + 1 := by
            rw [e, Nat.add_assoc, Nat.mul_add_mod, Nat.mod_eq_of_lt (by omega)]
          rw [e1, e2]
          by_cases h3 : r + 1 ≤ k
          · rw [if_pos h3, if_pos (by omega)]; exact .inr (by omega)
          · rw [if_neg h3]
            by_cases h4 : r ≤ k
            · rw [if_pos h4]; exact .inl (by omega)
            · rw [if_neg h4]; exact .inr (by omega)
  refine ⟨hst, fun j => ⟨s + (n + 1), ?_⟩⟩
  have key : ∀ q, loopW s n k (s + q + (n + 1)) = loopW s n k (s + q) + n := by
    intro q
    unfold loopW
    rw [if_neg (show ¬ s + q + (n + 1) < s by omega), if_neg (show ¬ s + q < s by omega), show s + q + (n + 1) - s = q + (n + 1) by omega, show s + q - s = q by omega, Nat.add_div_right _ (by omega), Nat.add_mod_right, Nat.succ_mul]
    omega
  have hk2 := key j
  rw [show s + j + (n + 1) = j + (s + (n + 1)) by omega] at hk2
  have hmono : loopW s n k j ≤ loopW s n k (s + j) := by
    rw [Nat.add_comm s j]
    exact step_mono hst j s
  omega
end Go.Proofs.Ytllpfgcngokhnaa
/-
  A word in which one letter comes twice: what holds first stays, for formulas without LNext. Plain law.
-/
set_option linter.unusedVariables false
set_option linter.unusedSimpArgs false
namespace Go.Proofs.Ytllpfgcngokhnaa
open Go.RowKit

def insL (l : List Nat) (k : Nat) : List Nat := l.take k ++ l.getD k 0 :: l.drop k
theorem insL_len {l : List Nat} {k : Nat} (hk : k < l.length) : (insL l k).length = l.length + 1 := by
  unfold insL
  rw [List.length_append, List.length_cons, List.length_take, List.length_drop]; omega
theorem insL_getD {l : List Nat} {k : Nat} (hk : k < l.length) (j : Nat) : (insL l k).getD j 0 = l.getD (if j ≤ k then j else j - 1) 0 := by
  have ht : (l.take k).length = k := by rw [List.length_take]; omega
  unfold insL
  by_cases h1 : j < k
  · rw [if_pos (by omega), List.getD_eq_getElem?_getD, List.getElem?_append_left (by omega), List.getElem?_take_of_lt h1, ← List.getD_eq_getElem?_getD]
  · rw [List.getD_eq_getElem?_getD, List.getElem?_append_right (by omega), ht]
    by_cases h2 : j = k
    · subst h2
      rw [if_pos (Nat.le_refl _), Nat.sub_self]; rfl
    · rw [if_neg (by omega), show j - k = (j - k - 1) + 1 by omega, List.getElem?_cons_succ, List.getElem?_drop, ← List.getD_eq_getElem?_getD]
      congr 1
      omega
theorem lat_stem {s l : List Nat} {k : Nat} (hk : k < s.length) (j : Nat) : lat (insL s k) l j = lat s l (if j ≤ k then j else j - 1) := by
  unfold lat
  rw [insL_len hk]
  by_cases h : j < s.length + 1
  · rw [if_pos h, insL_getD hk, if_pos (show (if j ≤ k then j else j - 1) < s.length by split <;> omega)]
  · rw [if_neg h, if_neg (show ¬ j ≤ k by omega), if_neg (show ¬ j - 1 < s.length by omega), show j - (s.length + 1) = j - 1 - s.length by omega]
theorem lat_loopI {s l : List Nat} {k : Nat} (hk : k < l.length) (j : Nat) : lat s (insL l k) j = lat s l (loopW s.length l.length k j) := by
  unfold lat loopW
  rw [insL_len hk]
  by_cases h : j < s.length
  · rw [if_pos h, if_pos h, if_pos h]
  · rw [if_neg h, if_neg h, insL_getD hk]
    have hm := Nat.mod_lt (j - s.length) (show 0 < l.length + 1 by omega)
    generalize (j - s.length) % (l.length + 1) = r at *
    generalize (j - s.length) / (l.length + 1) = q at *
    have hr : (if r ≤ k then r else r - 1) < l.length := by split <;> omega
    generalize (if r ≤ k then r else r - 1) = x at *
    rw [if_neg (show ¬ s.length + q * l.length + x < s.length by omega)]
    rw [show s.length + q * l.length + x - s.length = x + l.length * q by rw [Nat.mul_comm q]; omega, Nat.add_mul_mod_self_left, Nat.mod_eq_of_lt hr]
theorem truth_stut {t : Ltl} {s l s' l' : List Nat} {φ : Nat → Nat} (hw : chkW s l = 0) (hw' : chkW s' l' = 0) (hx : noX t = true) (h : Stut φ) (h0 : φ 0 = 0) (hL : ∀ j, lat s' l' j = lat s l (φ j)) : truthL s' l' t = truthL s l t := by
  have hW := chkW_ok hw
  have hW' := chkW_ok hw'
  by_cases hc : (chkF t 1 0).1 ≠ 0
  · unfold truthL holdsE
    rw [if_pos hc, if_pos hc]
  · have c1 : holdsE s l t = (holdsL s l t, 0) := by unfold holdsE; rw [if_neg hc, if_neg (by simp [hw])]
    have c2 : holdsE s' l' t = (holdsL s' l' t, 0) := by unfold holdsE; rw [if_neg hc, if_neg (by simp [hw'])]
    have wf := chkF_wf t 1 0 (by simpa using hc)
    have l1 := holdsL_len (s := s) (l := l) t wf
    have l2 := holdsL_len (s := s') (l := l') t wf
    have e : (holdsL s' l' t).getD 0 false = (holdsL s l t).getD 0 false := by
      rw [Bool.eq_iff_iff, holds_sem hW'.2 t wf 0 (by omega), holds_sem hW.2 _ wf 0 (by omega)]
      have := sem_stut h hL t hx 0
      rw [h0] at this
      exact this
    unfold truthL
    rw [c1, c2]
    dsimp only
    rw [if_neg (by omega), if_neg (by omega), e]
/-- a word in which its k-th letter comes twice -/
theorem truth_once {t : Ltl} {s l : List Nat} {k : Nat} (hw : chkW s l = 0) (hx : noX t = true) (hk : k < s.length) (hw' : chkW (insL s k) l = 0) : truthL (insL s k) l t = truthL s l t :=
  truth_stut hw hw' hx (stut_once k) (by simp) (lat_stem hk)
theorem truth_loop {t : Ltl} {s l : List Nat} {k : Nat} (hw : chkW s l = 0) (hx : noX t = true) (hk : k < l.length) (hw' : chkW s (insL l k) = 0) : truthL s (insL l k) t = truthL s l t :=
  truth_stut hw hw' hx (stut_loop hk) (by unfold loopW; split <;> simp_all) (lat_loopI hk)
theorem truthL_chk {s l : List Nat} {t : Ltl} {x : Bool} (hT : truthL s l t = (x, true)) : chkW s l = 0 := by
  unfold truthL holdsE at hT
  by_cases h1 : (chkF t 1 0).1 ≠ 0
  · rw [if_pos h1, if_pos (.inl h1)] at hT; simp at hT
  · rw [if_neg h1] at hT
    by_cases h2 : chkW s l ≠ 0
    · rw [if_pos h2, if_pos (.inl h2)] at hT; simp at hT
    · exact Classical.not_not.1 h2
end Go.Proofs.Ytllpfgcngokhnaa
/-
  watchkeep.plainly: is a formula without LNext?
-/
set_option linter.unusedVariables false
set_option linter.unusedSimpArgs false
namespace Go.Proofs.Ytllpfgcngokhnaa
open Go.RowKit

instance isFPlain1 : IsF Try.prog 157 := ⟨_, Try.func157, rfl, by decide⟩
theorem indexFunc_ltl (w0 : World) {ao : Option Addr} {cap : Nat} {xs : List Ltl} {fv : Value} (p : Ltl → Bool) (hs : Sl w0 (Old w0) ao cap xs)
    (hf : ∀ w, Ext w0 w → ∀ i (h : i < xs.length) u, Rd w (Old w0) u xs[i] → FnV Try.prog fv [u] w fun v w' => v = .bool (p xs[i]) ∧ Ext w w') :
    Rt Try.prog 157 [.slice ao xs.length cap, fv].toArray w0 fun v w' => v = .int .i64 (idxOf p xs) ∧ Ext w0 w' := by
  have hm := hs.len63
  refine Rt.enter2 Try.func157 Try.ntmps157 rfl rfl ?_
  (repeat (first | (apply WL.pure; rfl; rfl; rfl) | (apply WL.nil) | (apply EX.thenN) | (apply CW.seq) | (apply CW.region) | (apply WL.lenS; rfl; rfl; rfl) | (apply CW.block)))
  refine CW.loop (S := Nat) (fun k => [(0, .slice ao xs.length cap), (1, fv), (7, .int .i64 xs.length), (8, .int .i64 k)])
    (fun k w => k ≤ xs.length ∧ Ext w0 w ∧ ∀ j (h : j < xs.length), j < k → p xs[j] = false) (fun k => xs.length - k) 0 (by repeat (first | exact trivial | refine ⟨rfl, ?_⟩)) ⟨by omega, Ext.refl _, by omega⟩ ?_
  rintro k w ⟨hk, hB, hn⟩
  (repeat (first | (apply WL.pure; rfl; rfl; rfl) | (apply WL.nil) | (apply EX.thenN) | (apply CW.seq) | (apply CW.region)))
  refine CW.cond rfl (fun h => ?_) (fun h => ?_)
  · simp at h
    (repeat (first | (apply WL.pure; rfl; rfl; rfl) | (apply WL.nil) | (apply EX.thenN) | (apply CW.seq) | (apply CW.region) | (apply CW.block) | (apply CW.skip)))
    refine WL.elemN rfl rfl rfl rfl rfl (hs.at hB) h (fun _ => rfl) (fun u q hu => ?_)
    refine WL.callF rfl rfl rfl rfl (hf w hB k h u hu) ?_
    rintro v w' ⟨rfl, hB'⟩
    (repeat (first | (apply WL.nil) | (apply EX.thenN)))
    refine CW.cond rfl (fun h' => ?_) (fun h' => ?_)
    · (repeat (first | (apply WL.pure; rfl; rfl; rfl) | (apply WL.nil) | (apply EX.thenN) | (apply CW.seq) | (apply CW.region) | (apply CW.ret) | (apply EX.thenR) | (apply EX.inR)))
      refine EX.ret1 rfl rfl ⟨?_, hB.trans hB'⟩
      rw [idxOf_here h hn h']
    · (repeat (first | (apply WL.add; rfl; rfl; rfl; rfl; omega; omega) | (apply WL.pure; rfl; rfl; rfl) | (apply WL.nil) | (apply EX.thenN) | (apply CW.region) | (apply EX.inN) | (apply CW.skip)))
      refine EX.back (k + 1) (by repeat (first | exact trivial | refine ⟨rfl, ?_⟩)) ⟨h, hB.trans hB', ?_⟩ (by omega)
      intro j hj hlt
      by_cases e : j = k
      · subst e; exact h'
      · exact hn j hj (by omega)
  · simp at h
    (repeat (first | (apply WL.pure; rfl; rfl; rfl) | (apply WL.nil) | (apply EX.thenN) | (apply CW.seq) | (apply CW.region) | (apply CW.exit) | (apply EX.thenX) | (apply EX.inX) | (apply CW.ret)))
    refine EX.ret1 rfl rfl ⟨?_, hB⟩
    rw [idxOf_none (fun j hj => hn j hj (by omega))]

theorem noXs_any : ∀ (l : List Ltl), noXs l = !l.any (fun x => !noX x)
  | [] => rfl
  | x :: r => by
    rw [noXs, noXs_any r, List.any_cons]
    cases noX x <;> simp
theorem noX_eq (t : Ltl) : noX t = (!(t.k == 7) && !t.kids.any (fun x => !noX x)) := by
  cases t with
  | mk k n kids => rw [noX, noXs_any]; rfl
end Go.Proofs.Ytllpfgcngokhnaa
/-
  Bits of signed numbers that are not below zero. Over any program.
-/
set_option linter.unusedVariables false
set_option linter.unusedSimpArgs false
namespace Go.Proofs.Ytllpfgcngokhnaa
open Go.RowKit

theorem bits_andS (a b : Nat) (ha : a < 4611686018427387904) (hb : b < 4611686018427387904) : bits .and .i64 (a : Int) (b : Int) = ((a &&& b : Nat) : Int) := by
  have hx : a &&& b ≤ a := Nat.and_le_left
  have h1 : (BitVec.ofInt 64 (a : Int)).toNat = a := by
    rw [BitVec.ofInt_natCast, BitVec.toNat_ofNat]; exact Nat.mod_eq_of_lt (by omega)
  have h2 : (BitVec.ofInt 64 (b : Int)).toNat = b := by
    rw [BitVec.ofInt_natCast, BitVec.toNat_ofNat]; exact Nat.mod_eq_of_lt (by omega)
  show IntKind.i64.wrap ((BitVec.ofInt 64 (a : Int) &&& BitVec.ofInt 64 (b : Int)).toNat : Int) = _
  rw [BitVec.toNat_and, h1, h2, wrap_in (by omega) (by omega)]
theorem bits_orS (a b : Nat) (ha : a < 4611686018427387904) (hb : b < 4611686018427387904) : bits .or .i64 (a : Int) (b : Int) = ((a ||| b : Nat) : Int) := by
  have hx : a ||| b < 2 ^ 62 := Nat.or_lt_two_pow (by omega) (by omega)
  have h1 : (BitVec.ofInt 64 (a : Int)).toNat = a := by
    rw [BitVec.ofInt_natCast, BitVec.toNat_ofNat]; exact Nat.mod_eq_of_lt (by omega)
  have h2 : (BitVec.ofInt 64 (b : Int)).toNat = b := by
    rw [BitVec.ofInt_natCast, BitVec.toNat_ofNat]; exact Nat.mod_eq_of_lt (by omega)
  show IntKind.i64.wrap ((BitVec.ofInt 64 (a : Int) ||| BitVec.ofInt 64 (b : Int)).toNat : Int) = _
  rw [BitVec.toNat_or, h1, h2, wrap_in (by omega) (by omega)]
theorem bits_orU (a b : Nat) (ha : a < 18446744073709551616) (hb : b < 18446744073709551616) : bits .or .u64 (a : Int) (b : Int) = ((a ||| b : Nat) : Int) := bits_or_u64_nat a b ha hb
theorem shlS {s : Nat} (hs : s < 62) : IntKind.i64.wrap (1 * 2 ^ min ((s : Int)).toNat IntKind.i64.bits) = ((1 <<< s : Nat) : Int) := by
  have h1 : min s (IntKind.bits .i64) = s := by show min s 64 = s; omega
  have h2 : 2 ^ s < 2 ^ 62 := Nat.pow_lt_pow_right (by omega) hs
  simp only [Int.toNat_natCast, h1, Int.one_mul]
  have h3 : ((2 : Int) ^ s) = ((2 ^ s : Nat) : Int) := by norm_cast
  rw [h3, Nat.one_shiftLeft]
  generalize 2 ^ s = x at *
  rw [wrap_in (by omega) (by omega)]
theorem shlU {s : Nat} (hs : s < 64) : IntKind.u64.wrap (1 * 2 ^ min ((s : Int)).toNat IntKind.u64.bits) = ((1 <<< s : Nat) : Int) := by
  have h1 : min s (IntKind.bits .u64) = s := by show min s 64 = s; omega
  have h2 : 2 ^ s < 2 ^ 64 := Nat.pow_lt_pow_right (by omega) hs
  simp only [Int.toNat_natCast, h1, Int.one_mul]
  have h3 : ((2 : Int) ^ s) = ((2 ^ s : Nat) : Int) := by norm_cast
  rw [h3, Nat.one_shiftLeft, IntKind.wrap_u64]
  generalize 2 ^ s = x at *
  omega
theorem run_shrS (P : Program) (w : World) (a s : Nat) (hs : s ≤ 62) (t : TypeId) : (binOp .shr t (.int .i64 (a : Int)) (.int .i64 (s : Int))).run P w = .ok (.int .i64 ((a >>> s : Nat) : Int)) w := by
  rw [binOp_shr, shift_shr_i64 (h₀ := by omega) (h₁ := by omega), Int.toNat_natCast, Nat.shiftRight_eq_div_pow]
  have : ((a : Int) / 2 ^ s) = ((a / 2 ^ s : Nat) : Int) := by norm_cast
  rw [this]; rfl
section
variable {P : Program} {Q : Exit → Act → World → Prop} {n : Nat} {σ : Sg} {w wc : World} {L rest : List Oper} {ord : List (Nat × Bool)} {S : World → Prop} {i d : Nat} {ty : TypeId} {pos : String} {af : Array Edge} {g : Option (Nat × Bool)} {t yt : TypeId} {x y : Operand}
theorem WL.shrS {a s : Nat} (hg : gd L σ ⟨some d, .binOp .shr t x y yt, ty, pos, af, g⟩ = some true) (hd : Nat.ble (d + 1) n = true) (hx : ev σ x = some (.int .i64 (a : Int))) (hy : ev σ y = some (.int .i64 (s : Int))) (hs : s ≤ 62)
    (h : WL P L Q rest n ((d, .int .i64 ((a >>> s : Nat) : Int)) :: σ) w) : WL P L Q (⟨some d, .binOp .shr t x y yt, ty, pos, af, g⟩ :: rest) n σ w := by
  refine WL.run hg hd (fun a0 ha0 => ?_) h
  have := run_shrS P w a s hs t
  simp [execOp, ha0.ev hx, ha0.ev hy, eqG (op := .shr) rfl, this]
theorem HL.shrS {a s : Nat} (ho : nthO L i = some ⟨some d, .binOp .shr t x y yt, ty, pos, af, g⟩) (hg : gd L σ ⟨some d, .binOp .shr t x y yt, ty, pos, af, g⟩ = some true) (hd : Nat.ble (d + 1) n = true) (hx : ev σ x = some (.int .i64 (a : Int))) (hy : ev σ y = some (.int .i64 (s : Int))) (hs : s ≤ 62)
    (h : HL P L S Q ord n ((d, .int .i64 ((a >>> s : Nat) : Int)) :: σ) wc) : HL P L S Q ((i, true) :: ord) n σ wc := by
  refine HL.run ho hg hd (fun a0 ha0 w1 _ => ?_) h
  have := run_shrS P w1 a s hs t
  simp [execOp, ha0.ev hx, ha0.ev hy, eqG (op := .shr) rfl, this]
end
end Go.Proofs.Ytllpfgcngokhnaa
/-
  Package tableau: part, chosen, holds, owed, kept, bits, fair: walked.
-/
set_option linter.unusedVariables false
set_option linter.unusedSimpArgs false
namespace Go.Proofs.Ytllpfgcngokhnaa
open Go.RowKit

instance iTb1 : IsC Try.prog 133 2 true := IsC.of (by kernel_rfl) Try.underlying133 rfl
instance iTb2 : IsFd Try.prog 133 0 0 := IsFd.of (by kernel_rfl)
instance iTb3 : IsFd Try.prog 133 1 1 := IsFd.of (by kernel_rfl)
instance iTb4 : IsZC Try.prog 133 [.slice none 0 0, .slice none 0 0] := IsZC.of (z := .agg #[.slice none 0 0, .slice none 0 0]) (by kernel_rfl) rfl
instance iTb5 : IsBd Try.prog 133 [(0, 1), (1, 1)] := IsBd.of (by kernel_rfl)
/-- a maker that is read -/
structure MkA (w : World) (sb : Nat) (m : Mk2) : Prop where
  ok : ∃ ao ac po pc, Blk w sb 133 [.slice ao m.1.length ac, .slice po m.2.length pc] ∧ Sl w (Old w) ao ac m.1 ∧ Sl w (Old w) po pc m.2
theorem MkA.ext {w w' : World} {sb : Nat} {m : Mk2} (h : MkA w sb m) (hE : Ext w w') : MkA w' sb m := by
  obtain ⟨ao, ac, po, pc, h1, h2, h3⟩ := h.ok
  exact ⟨ao, ac, po, pc, h1.ext hE, h2.up hE, h3.up hE⟩
theorem part1_ok (w : World) (b : Nat) {t g : Ltl} {ao go : Option Addr} {ac gc : Nat} (hb : Blk w b 68 [.int .i64 t.k, .int .i64 t.n, .slice ao t.kids.length ac]) (ht : Sl w (Old w) ao ac t.kids) (hg : Sl w (Old w) go gc g.kids) :
    Rt Try.prog 158 [ltlV g.k g.n go g.kids.length gc, .pointer (some ⟨b, 0, none⟩)].toArray w fun v w' => v = .bool (sameB t g) ∧ Ext w w' := by
  refine Rt.enter2 Try.func158 Try.ntmps158 rfl rfl ?_
  (repeat (first | (apply CW.seq) | (apply CW.region)))
  refine WL.boxB rfl rfl rfl fun w1 hb1 e1 => ?_
  have hb := hb.ext e1
  (repeat (first | (apply WL.pure; rfl; rfl; rfl) | (apply WL.nil) | (apply EX.thenN) | (apply CW.seq) | (apply CW.region) | (apply WL.ldA; rfl; rfl; rfl; assumption; rfl)))
  refine WL.call rfl rfl rfl (pu_Same _ t g (Nat.le_refl _) w1 (Old w1) ao go ac gc (ht.up e1) (hg.up e1) (fun _ h => h)) ?_
  rintro _ w2 ⟨rfl, e2⟩
  (repeat (first | (apply WL.pure; rfl; rfl; rfl) | (apply WL.nil) | (apply EX.thenN) | (apply CW.ret)))
  exact EX.ret1 rfl rfl ⟨rfl, e1.trans e2⟩
theorem part_ok (w : World) {sb : Nat} {m : Mk2} {t : Ltl} {ko : Option Addr} {kc : Nat} (hM : MkA w sb m) (hk : Sl w (Old w) ko kc t.kids) :
    Rt Try.prog 133 [.pointer (some ⟨sb, 0, none⟩), ltlV t.k t.n ko t.kids.length kc].toArray w fun v w' => v = .int .i64 (partI m t) ∧ Ext w w' := by
  refine Rt.enter2 Try.func133 Try.ntmps133 rfl rfl ?_
  (repeat (first | (apply CW.seq) | (apply CW.region)))
  refine WL.boxB rfl rfl rfl fun w1 hb3 e1 => ?_
  obtain ⟨ao, ac, po, pc, hblk, h1, h2⟩ := (hM.ext e1).ok
  (repeat (first | (apply WL.pure; rfl; rfl; rfl) | (apply WL.nil) | (apply EX.thenN) | (apply CW.seq) | (apply CW.region) | (apply WL.makeFunc; rfl; rfl; rfl; rfl) | (apply WL.fa; rfl; rfl; rfl) | (apply WL.nck; rfl; rfl; rfl) | (apply WL.ld; rfl; rfl; rfl; assumption; rfl)))
  refine WL.call rfl rfl rfl (indexFunc_ltl w1 (sameB t) h2 (fun w2 hw i hi u hu => ?_)) ?_
  · obtain ⟨go, gc, rfl, hg⟩ := Rd.ltl hu
    exact FnV.mk (cs := [_]) (part1_ok w2 _ (hb3.ext hw) (hk.up (e1.trans hw)) (hg.mono (fun _ _ => rfl) (fun b hb => Nat.lt_of_lt_of_le hb hw.size)))
  rintro _ w2 ⟨rfl, e2⟩
  (repeat (first | (apply WL.pure; rfl; rfl; rfl) | (apply WL.nil) | (apply EX.thenN) | (apply CW.ret)))
  exact EX.ret1 rfl rfl ⟨rfl, e1.trans e2⟩
theorem cho_bit {s i : Nat} : ((((s >>> i &&& 1 : Nat) : Int)) == 1) = s.testBit i := by
  rw [Bool.eq_iff_iff, ← shr_bit]
  simp only [beq_iff_eq]
  omega
theorem chosen_ok (w0 : World) {sb : Nat} {m : Mk2} {t : Ltl} {s : Nat} {ko : Option Addr} {kc : Nat} (hM : MkA w0 sb m) (hk : Sl w0 (Old w0) ko kc t.kids) (hs : s < 1048576) (hl : m.1.length ≤ 20 ∧ m.2.length ≤ 20) (h3 : t.k = 3 → t.n ∈ m.1) (hp : t.k ≠ 3 → t ∈ m.2) :
    Rt Try.prog 136 [.pointer (some ⟨sb, 0, none⟩), ltlV t.k t.n ko t.kids.length kc, .int .i64 (s : Int)].toArray w0 fun v w' => v = .bool (choB m s t) ∧ Ext w0 w' := by
  refine Rt.enter3 Try.func136 Try.ntmps136 rfl rfl ?_
  (repeat (first | (apply CW.seq) | (apply CW.region)))
  refine WL.boxB rfl rfl rfl fun w1 hb4 e1 => ?_
  obtain ⟨ao, ac, po, pc, hblk, h1, h2⟩ := (hM.ext e1).ok
  have hsw : ∀ i : Nat, s >>> i < 4611686018427387904 := fun i => by have := Nat.shiftRight_le s i; omega
  have hD := Ext.drew w1
  have hSE : ∀ z, (fun z : World => Ext (drew w1) z) z → Ext (drew w1) z := fun _ h => h
  have hblkd := hblk.ext hD
  have hb4d := hb4.ext hD
  (repeat (first | (apply WL.pure; rfl; rfl; rfl) | (apply WL.nil) | (apply EX.thenN) | (apply CW.seq) | (apply CW.region) | (apply WL.fa; rfl; rfl; rfl) | (apply WL.ld; rfl; rfl; rfl; assumption; rfl)))
  refine CW.cond rfl (fun h => ?_) (fun h => ?_)
  · have h : t.k = 3 := by simpa using h
    obtain ⟨i, hi, he, _⟩ := atomI_in (h3 h)
    have hc : choB m s t = s.testBit i := by unfold choB; rw [if_pos h, he, Int.toNat_natCast]
    rw [hc]
    (repeat (apply CW.seq))
    refine CW.drawH (fun z : World => Ext (drew w1) z) [(0, true), (1, true), (2, true), (3, true), (4, true), (5, true), (6, true), (7, false), (8, true), (9, true), (10, true), (11, true)] mixed (by kernel_rfl) (Ext.refl _) ?_
    (repeat (first | (apply HL.pure; rfl; rfl; rfl; rfl) | (refine HL.fa rfl rfl rfl rfl ?_) | (apply HL.nck; rfl; rfl; rfl; rfl) | (refine HL.ld (by assumption) rfl rfl rfl rfl (by assumption) rfl ?_)))
    refine HL.mut rfl (WL.call rfl rfl rfl (index_int (drew w1) t.n (h1.up hD)) ?_)
    rintro _ w2 ⟨rfl, e2⟩
    refine WL.nil (EX.mut e2 ?_)
    rw [show idxOf (fun y => t.n == y) m.1 = (i : Int) from he]
    skip
    refine HL.shrS rfl rfl rfl rfl rfl (by omega) ?_
    (repeat (first | (apply HL.pure; rfl; rfl; rfl; rfl) | (apply HL.nil)))
    rw [show bits .and .i64 ((s >>> i : Nat) : Int) 1 = ((s >>> i &&& 1 : Nat) : Int) from bits_andS _ 1 (hsw i) (by omega), cho_bit]
    skip
    (repeat (first | (apply EX.thenN) | (apply CW.ret) | (apply EX.thenR)))
    exact EX.ret1 rfl rfl ⟨rfl, (e1.trans hD).trans e2⟩
  · have h : t.k ≠ 3 := by simpa using h
    obtain ⟨i, hi, he, _⟩ := partI_in (hp h)
    have hc : choB m s t = s.testBit (m.1.length + i) := by unfold choB; rw [if_neg h, he, Int.toNat_natCast]
    rw [hc]
    (repeat (first | (apply EX.thenN) | (apply CW.seq) | (apply CW.skip)))
    refine CW.drawH (fun z : World => Ext (drew w1) z) [(0, true), (1, true), (2, true), (3, true), (4, true), (5, true), (6, true), (7, true), (8, false), (9, true), (10, true), (11, true), (12, true), (13, true)] mixed (by kernel_rfl) (Ext.refl _) ?_
    (repeat (first | (apply HL.pure; rfl; rfl; rfl; rfl) | (refine HL.fa rfl rfl rfl rfl ?_) | (apply HL.nck; rfl; rfl; rfl; rfl) | (refine HL.ld (by assumption) rfl rfl rfl rfl (by assumption) rfl ?_) | (refine HL.ldA (by assumption) rfl rfl rfl rfl (by assumption) rfl ?_) | (refine HL.lenS rfl rfl rfl rfl ?_)))
    refine HL.mut rfl (WL.call rfl rfl rfl (part_ok (drew w1) (t := t) ((hM.ext e1).ext hD) (hk.up (e1.trans hD))) ?_)
    rintro _ w2 ⟨rfl, e2⟩
    refine WL.nil (EX.mut e2 ?_)
    rw [he]
    (repeat (apply HL.add; rfl; rfl; rfl; rfl; rfl; omega; omega))
    rw [show ((m.1.length : Nat) : Int) + (i : Int) = ((m.1.length + i : Nat) : Int) by omega]
    refine HL.shrS rfl rfl rfl rfl rfl (by omega) ?_
    (repeat (first | (apply HL.pure; rfl; rfl; rfl; rfl) | (apply HL.nil)))
    rw [show bits .and .i64 ((s >>> (m.1.length + i) : Nat) : Int) 1 = ((s >>> (m.1.length + i) &&& 1 : Nat) : Int) from bits_andS _ 1 (hsw _) (by omega), cho_bit]
    skip
    (repeat (first | (apply EX.thenN) | (apply CW.ret)))
    exact EX.ret1 rfl rfl ⟨rfl, (e1.trans hD).trans e2⟩
theorem wf_cases : ∀ t, wfT t → t = .mk 1 0 [] ∨ t = .mk 2 0 [] ∨ (∃ n, t = .mk 3 n []) ∨ (∃ k a, (k = 4 ∨ k = 7 ∨ k = 10 ∨ k = 11) ∧ t = .mk k 0 [a]) ∨ ∃ k a b, (k = 5 ∨ k = 6 ∨ k = 8 ∨ k = 9) ∧ t = .mk k 0 [a, b] :=
  wf_ind (M := fun t => t = .mk 1 0 [] ∨ t = .mk 2 0 [] ∨ (∃ n, t = .mk 3 n []) ∨ (∃ k a, (k = 4 ∨ k = 7 ∨ k = 10 ∨ k = 11) ∧ t = .mk k 0 [a]) ∨ ∃ k a b, (k = 5 ∨ k = 6 ∨ k = 8 ∨ k = 9) ∧ t = .mk k 0 [a, b])
    (.inl rfl) (.inr (.inl rfl)) (fun n _ _ => .inr (.inr (.inl ⟨n, rfl⟩))) (fun k a hk _ _ => .inr (.inr (.inr (.inl ⟨k, a, hk, rfl⟩)))) (fun k a b hk _ _ _ _ => .inr (.inr (.inr (.inr ⟨k, a, b, hk, rfl⟩))))
set_option maxHeartbeats 2000000 in
theorem tholds_ok : ∀ (d : Nat) (t : Ltl), t.nodes ≤ d → ∀ (w0 : World) {sb : Nat} {m : Mk2} {s : Nat} {ko : Option Addr} {kc : Nat}, MkA w0 sb m → OkF m t → Sl w0 (Old w0) ko kc t.kids → s < 1048576 → (m.1.length ≤ 20 ∧ m.2.length ≤ 20) →
    Rt Try.prog 80 [.pointer (some ⟨sb, 0, none⟩), ltlV t.k t.n ko t.kids.length kc, .int .i64 (s : Int)].toArray w0 fun v w' => v = .bool (hoB m s t) ∧ Ext w0 w' := by
  intro d
  induction d with
  | zero => intro t h; have := t.nodes_pos; omega
  | succ d ih =>
    intro t hd w0 sb m s ko kc hM hF hk hs hl
    have hc := hF.cov
    rcases wf_cases t hF.wf with rfl | rfl | ⟨n, rfl⟩ | ⟨k, a, hkk, rfl⟩ | ⟨k, a, b, hkk, rfl⟩
    · refine Rt.enter3 Try.func80 Try.ntmps80 rfl rfl ?_
      rw [ho1]
      (repeat (first | (apply CW.seq) | (apply CW.region)))
      refine WL.boxB rfl rfl rfl fun w1 hb4 e1 => ?_
      (repeat (first | (apply WL.pure; rfl; rfl; rfl) | (apply WL.nil) | (apply EX.thenN) | (apply CW.seq) | (apply CW.region) | (apply WL.fa; rfl; rfl; rfl) | (apply WL.ld; rfl; rfl; rfl; assumption; rfl) | (apply CW.block) | (apply CW.condT; rfl) | (apply CW.ret) | (apply EX.thenR) | (apply EX.inR)))
      exact EX.ret1 rfl rfl ⟨rfl, e1⟩
    · refine Rt.enter3 Try.func80 Try.ntmps80 rfl rfl ?_
      rw [ho2]
      (repeat (first | (apply CW.seq) | (apply CW.region)))
      refine WL.boxB rfl rfl rfl fun w1 hb4 e1 => ?_
      (repeat (first | (apply WL.pure; rfl; rfl; rfl) | (apply WL.nil) | (apply EX.thenN) | (apply CW.seq) | (apply CW.region) | (apply WL.fa; rfl; rfl; rfl) | (apply WL.ld; rfl; rfl; rfl; assumption; rfl) | (apply CW.block) | (apply CW.condT; rfl) | (apply CW.condF; rfl) | (apply CW.ret) | (apply EX.thenR) | (apply EX.inR)))
      exact EX.ret1 rfl rfl ⟨rfl, e1⟩
    · simp only [Cov] at hc
      have h3 := ho3 (m := m) (s := s) (n := n)
      refine Rt.enter3 Try.func80 Try.ntmps80 rfl rfl ?_
      (repeat (first | (apply CW.seq) | (apply CW.region)))
      refine WL.boxB rfl rfl rfl fun w1 hb4 e1 => ?_
      (repeat (first | (apply WL.pure; rfl; rfl; rfl) | (apply WL.nil) | (apply EX.thenN) | (apply CW.seq) | (apply CW.region) | (apply WL.fa; rfl; rfl; rfl) | (apply WL.ld; rfl; rfl; rfl; assumption; rfl) | (apply WL.ldA; rfl; rfl; rfl; assumption; rfl) | (apply CW.block) | (apply EX.inN) | (apply CW.condF; rfl) | (apply CW.skip)))
      refine WL.call rfl rfl rfl (chosen_ok w1 (t := .mk 3 n []) (hM.ext e1) (hk.up e1) hs hl (fun _ => hc.1 trivial) (fun h => absurd rfl h)) ?_
      rintro _ w2 ⟨rfl, e2⟩
      (repeat (first | (apply WL.pure; rfl; rfl; rfl) | (apply WL.nil) | (apply EX.thenN) | (apply CW.ret)))
      exact EX.ret1 rfl rfl ⟨by rw [h3]; rfl, e1.trans e2⟩
    · have ha := hF.un
      have hda : a.nodes ≤ d := by simp only [Ltl.nodes, Ltl.nodesL] at hd; omega
      rcases hkk with rfl | rfl | rfl | rfl
      · refine Rt.enter3 Try.func80 Try.ntmps80 rfl rfl ?_
        rw [ho4]
        (repeat (first | (apply CW.seq) | (apply CW.region)))
        refine WL.boxB rfl rfl rfl fun w1 hb4 e1 => ?_
        (repeat (first | (apply WL.pure; rfl; rfl; rfl) | (apply WL.nil) | (apply EX.thenN) | (apply CW.seq) | (apply CW.region) | (apply WL.fa; rfl; rfl; rfl) | (apply WL.ld; rfl; rfl; rfl; assumption; rfl) | (apply CW.block) | (apply CW.condT; rfl) | (apply CW.condF; rfl)))
        refine WL.elemN (i := 0) rfl rfl rfl rfl rfl (hk.up e1) (by simp [Ltl.kids]) (fun _ => rfl) (fun u q hu => ?_)
        obtain ⟨uo, uc, rfl, hka⟩ := Rd.ltl (t := a) hu
        (repeat (apply WL.pure; rfl; rfl; rfl))
        refine WL.call rfl rfl rfl (ih a hda w1 (hM.ext e1) ha hka hs hl) ?_
        rintro _ w2 ⟨rfl, e2⟩
        (repeat (first | (apply WL.pure; rfl; rfl; rfl) | (apply WL.nil) | (apply EX.thenN) | (apply CW.ret) | (apply EX.thenR) | (apply EX.inR)))
        exact EX.ret1 rfl rfl ⟨rfl, e1.trans e2⟩
      · simp only [Cov] at hc
        have h7 := ho7 (m := m) (s := s) (n := 0) (a := a)
        refine Rt.enter3 Try.func80 Try.ntmps80 rfl rfl ?_
        (repeat (first | (apply CW.seq) | (apply CW.region)))
        refine WL.boxB rfl rfl rfl fun w1 hb4 e1 => ?_
        (repeat (first | (apply WL.pure; rfl; rfl; rfl) | (apply WL.nil) | (apply EX.thenN) | (apply CW.seq) | (apply CW.region) | (apply WL.fa; rfl; rfl; rfl) | (apply WL.ld; rfl; rfl; rfl; assumption; rfl) | (apply WL.ldA; rfl; rfl; rfl; assumption; rfl) | (apply CW.block) | (apply EX.inN) | (apply CW.condF; rfl) | (apply CW.skip)))
        refine WL.call rfl rfl rfl (chosen_ok w1 (t := .mk 7 0 [a]) (hM.ext e1) (hk.up e1) hs hl (fun h => by cases h) (fun _ => hc.2.1 (by simp))) ?_
        rintro _ w2 ⟨rfl, e2⟩
        (repeat (first | (apply WL.pure; rfl; rfl; rfl) | (apply WL.nil) | (apply EX.thenN) | (apply CW.ret)))
        exact EX.ret1 rfl rfl ⟨by rw [h7]; rfl, e1.trans e2⟩
      · have := hF.h10; simp [hasB] at this
      · have := hF.h11; simp [hasB] at this
    · have ha := hF.b1
      have hb := hF.b2
      have hda : a.nodes ≤ d := by simp only [Ltl.nodes, Ltl.nodesL] at hd; omega
      have hdb : b.nodes ≤ d := by simp only [Ltl.nodes, Ltl.nodesL] at hd; omega
      rcases hkk with rfl | rfl | rfl | rfl
      · refine Rt.enter3 Try.func80 Try.ntmps80 rfl rfl ?_
        rw [ho5]
        (repeat (first | (apply CW.seq) | (apply CW.region)))
        refine WL.boxB rfl rfl rfl fun w1 hb4 e1 => ?_
        (repeat (first | (apply WL.pure; rfl; rfl; rfl) | (apply WL.nil) | (apply EX.thenN) | (apply CW.seq) | (apply CW.region) | (apply WL.fa; rfl; rfl; rfl) | (apply WL.ld; rfl; rfl; rfl; assumption; rfl) | (apply CW.block) | (apply CW.condT; rfl) | (apply CW.condF; rfl)))
        refine WL.elemN (i := 0) rfl rfl rfl rfl rfl (hk.up e1) (by simp [Ltl.kids]) (fun _ => rfl) (fun u q hu => ?_)
        obtain ⟨uo, uc, rfl, hka⟩ := Rd.ltl (t := a) hu
        (repeat (apply WL.pure; rfl; rfl; rfl))
        refine WL.call rfl rfl rfl (ih a hda w1 (hM.ext e1) ha hka hs hl) ?_
        rintro _ w2 ⟨rfl, e2⟩
        have hb4 := hb4.ext e2
        cases hoB m s a
        · (repeat (first | (apply WL.pure; rfl; rfl; rfl) | (apply WL.nil) | (apply EX.thenN) | (apply WL.pass; rfl; rfl) | (apply CW.ret) | (apply EX.thenR) | (apply EX.inR)))
          exact EX.ret1 rfl rfl ⟨rfl, e1.trans e2⟩
        · (repeat (first | (apply WL.pure; rfl; rfl; rfl) | (apply WL.fa; rfl; rfl; rfl) | (apply WL.ld; rfl; rfl; rfl; assumption; rfl)))
          refine WL.elemN (i := 1) rfl rfl rfl rfl rfl (hk.up (e1.trans e2)) (by simp [Ltl.kids]) (fun _ => rfl) (fun u q hu => ?_)
          obtain ⟨vo, vc, rfl, hkb⟩ := Rd.ltl (t := b) hu
          (repeat (apply WL.pure; rfl; rfl; rfl))
          refine WL.call rfl rfl rfl (ih b hdb w2 (hM.ext (e1.trans e2)) hb hkb hs hl) ?_
          rintro _ w3 ⟨rfl, e3⟩
          (repeat (first | (apply WL.pure; rfl; rfl; rfl) | (apply WL.nil) | (apply EX.thenN) | (apply CW.ret) | (apply EX.thenR) | (apply EX.inR)))
          exact EX.ret1 rfl rfl ⟨rfl, (e1.trans e2).trans e3⟩
      · refine Rt.enter3 Try.func80 Try.ntmps80 rfl rfl ?_
        rw [ho6]
        (repeat (first | (apply CW.seq) | (apply CW.region)))
        refine WL.boxB rfl rfl rfl fun w1 hb4 e1 => ?_
        (repeat (first | (apply WL.pure; rfl; rfl; rfl) | (apply WL.nil) | (apply EX.thenN) | (apply CW.seq) | (apply CW.region) | (apply WL.fa; rfl; rfl; rfl) | (apply WL.ld; rfl; rfl; rfl; assumption; rfl) | (apply CW.block) | (apply CW.condT; rfl) | (apply CW.condF; rfl)))
        refine WL.elemN (i := 0) rfl rfl rfl rfl rfl (hk.up e1) (by simp [Ltl.kids]) (fun _ => rfl) (fun u q hu => ?_)
        obtain ⟨uo, uc, rfl, hka⟩ := Rd.ltl (t := a) hu
        (repeat (apply WL.pure; rfl; rfl; rfl))
        refine WL.call rfl rfl rfl (ih a hda w1 (hM.ext e1) ha hka hs hl) ?_
        rintro _ w2 ⟨rfl, e2⟩
        have hb4 := hb4.ext e2
        cases hoB m s a
        · (repeat (first | (apply WL.pure; rfl; rfl; rfl) | (apply WL.fa; rfl; rfl; rfl) | (apply WL.ld; rfl; rfl; rfl; assumption; rfl)))
          refine WL.elemN (i := 1) rfl rfl rfl rfl rfl (hk.up (e1.trans e2)) (by simp [Ltl.kids]) (fun _ => rfl) (fun u q hu => ?_)
          obtain ⟨vo, vc, rfl, hkb⟩ := Rd.ltl (t := b) hu
          (repeat (apply WL.pure; rfl; rfl; rfl))
          refine WL.call rfl rfl rfl (ih b hdb w2 (hM.ext (e1.trans e2)) hb hkb hs hl) ?_
          rintro _ w3 ⟨rfl, e3⟩
          (repeat (first | (apply WL.pure; rfl; rfl; rfl) | (apply WL.nil) | (apply EX.thenN) | (apply CW.ret) | (apply EX.thenR) | (apply EX.inR)))
          exact EX.ret1 rfl rfl ⟨rfl, (e1.trans e2).trans e3⟩
        · (repeat (first | (apply WL.pure; rfl; rfl; rfl) | (apply WL.nil) | (apply EX.thenN) | (apply WL.pass; rfl; rfl) | (apply CW.ret) | (apply EX.thenR) | (apply EX.inR)))
          exact EX.ret1 rfl rfl ⟨rfl, e1.trans e2⟩
      · have hcb := hF.cov
        simp only [Cov] at hcb
        refine Rt.enter3 Try.func80 Try.ntmps80 rfl rfl ?_
        rw [ho8]
        (repeat (first | (apply CW.seq) | (apply CW.region)))
        refine WL.boxB rfl rfl rfl fun w1 hb4 e1 => ?_
        (repeat (first | (apply WL.pure; rfl; rfl; rfl) | (apply WL.nil) | (apply EX.thenN) | (apply CW.seq) | (apply CW.region) | (apply WL.fa; rfl; rfl; rfl) | (apply WL.ld; rfl; rfl; rfl; assumption; rfl) | (apply CW.block) | (apply CW.condT; rfl) | (apply CW.condF; rfl)))
        refine WL.elemN (i := 1) rfl rfl rfl rfl rfl (hk.up e1) (by simp [Ltl.kids]) (fun _ => rfl) (fun u q hu => ?_)
        obtain ⟨uo, uc, rfl, hkb⟩ := Rd.ltl (t := b) hu
        (repeat (apply WL.pure; rfl; rfl; rfl))
        refine WL.call rfl rfl rfl (ih b hdb w1 (hM.ext e1) hb hkb hs hl) ?_
        rintro _ w2 ⟨rfl, e2⟩
        have hb4 := hb4.ext e2
        have hE2 := e1.trans e2
        cases hoB m s b
        · (repeat (first | (apply WL.pure; rfl; rfl; rfl) | (apply WL.fa; rfl; rfl; rfl) | (apply WL.ld; rfl; rfl; rfl; assumption; rfl)))
          refine WL.elemN (i := 0) rfl rfl rfl rfl rfl (hk.up hE2) (by simp [Ltl.kids]) (fun _ => rfl) (fun u q hu => ?_)
          obtain ⟨vo, vc, rfl, hka⟩ := Rd.ltl (t := a) hu
          (repeat (apply WL.pure; rfl; rfl; rfl))
          refine WL.call rfl rfl rfl (ih a hda w2 (hM.ext hE2) ha hka hs hl) ?_
          rintro _ w3 ⟨rfl, e3⟩
          have hb4 := hb4.ext e3
          have hE3 := hE2.trans e3
          cases hoB m s a
          · (repeat (first | (apply WL.pure; rfl; rfl; rfl) | (apply WL.nil) | (apply EX.thenN) | (apply WL.pass; rfl; rfl) | (apply CW.ret) | (apply EX.thenR) | (apply EX.inR)))
            exact EX.ret1 rfl rfl ⟨rfl, hE3⟩
          · (repeat (first | (apply WL.pure; rfl; rfl; rfl) | (apply WL.ldA; rfl; rfl; rfl; assumption; rfl)))
            refine WL.call rfl rfl rfl (chosen_ok w3 (t := .mk 8 0 [a, b]) (hM.ext hE3) (hk.up hE3) hs hl (fun h => by cases h) (fun _ => hcb.2.1 (by simp))) ?_
            rintro _ w4 ⟨rfl, e4⟩
            (repeat (first | (apply WL.pure; rfl; rfl; rfl) | (apply WL.nil) | (apply EX.thenN) | (apply CW.ret) | (apply EX.thenR) | (apply EX.inR)))
            exact EX.ret1 rfl rfl ⟨rfl, hE3.trans e4⟩
        · (repeat (first | (apply WL.pure; rfl; rfl; rfl) | (apply WL.nil) | (apply EX.thenN) | (apply WL.pass; rfl; rfl) | (apply CW.ret) | (apply EX.thenR) | (apply EX.inR)))
          exact EX.ret1 rfl rfl ⟨rfl, hE2⟩
      · have hcb := hF.cov
        simp only [Cov] at hcb
        refine Rt.enter3 Try.func80 Try.ntmps80 rfl rfl ?_
        rw [ho9]
        (repeat (first | (apply CW.seq) | (apply CW.region)))
        refine WL.boxB rfl rfl rfl fun w1 hb4 e1 => ?_
        (repeat (first | (apply WL.pure; rfl; rfl; rfl) | (apply WL.nil) | (apply EX.thenN) | (apply CW.seq) | (apply CW.region) | (apply WL.fa; rfl; rfl; rfl) | (apply WL.ld; rfl; rfl; rfl; assumption; rfl) | (apply CW.block) | (apply CW.condT; rfl) | (apply CW.condF; rfl)))
        refine WL.elemN (i := 1) rfl rfl rfl rfl rfl (hk.up e1) (by simp [Ltl.kids]) (fun _ => rfl) (fun u q hu => ?_)
        obtain ⟨uo, uc, rfl, hkb⟩ := Rd.ltl (t := b) hu
        (repeat (apply WL.pure; rfl; rfl; rfl))
        refine WL.call rfl rfl rfl (ih b hdb w1 (hM.ext e1) hb hkb hs hl) ?_
        rintro _ w2 ⟨rfl, e2⟩
        have hb4 := hb4.ext e2
        have hE2 := e1.trans e2
        cases hoB m s b
        · (repeat (first | (apply WL.pure; rfl; rfl; rfl) | (apply WL.nil) | (apply EX.thenN) | (apply WL.pass; rfl; rfl) | (apply CW.ret) | (apply EX.thenR) | (apply EX.inR)))
          exact EX.ret1 rfl rfl ⟨rfl, hE2⟩
        · (repeat (first | (apply WL.pure; rfl; rfl; rfl) | (apply WL.fa; rfl; rfl; rfl) | (apply WL.ld; rfl; rfl; rfl; assumption; rfl)))
          refine WL.elemN (i := 0) rfl rfl rfl rfl rfl (hk.up hE2) (by simp [Ltl.kids]) (fun _ => rfl) (fun u q hu => ?_)
          obtain ⟨vo, vc, rfl, hka⟩ := Rd.ltl (t := a) hu
          (repeat (apply WL.pure; rfl; rfl; rfl))
          refine WL.call rfl rfl rfl (ih a hda w2 (hM.ext hE2) ha hka hs hl) ?_
          rintro _ w3 ⟨rfl, e3⟩
          have hb4 := hb4.ext e3
          have hE3 := hE2.trans e3
          cases hoB m s a
          · (repeat (first | (apply WL.pure; rfl; rfl; rfl) | (apply WL.ldA; rfl; rfl; rfl; assumption; rfl)))
            refine WL.call rfl rfl rfl (chosen_ok w3 (t := .mk 9 0 [a, b]) (hM.ext hE3) (hk.up hE3) hs hl (fun h => by cases h) (fun _ => hcb.2.1 (by simp))) ?_
            rintro _ w4 ⟨rfl, e4⟩
            (repeat (first | (apply WL.pure; rfl; rfl; rfl) | (apply WL.nil) | (apply EX.thenN) | (apply CW.ret) | (apply EX.thenR) | (apply EX.inR)))
            exact EX.ret1 rfl rfl ⟨rfl, hE3.trans e4⟩
          · (repeat (first | (apply WL.pure; rfl; rfl; rfl) | (apply WL.nil) | (apply EX.thenN) | (apply WL.pass; rfl; rfl) | (apply CW.ret) | (apply EX.thenR) | (apply EX.inR)))
            exact EX.ret1 rfl rfl ⟨rfl, hE3⟩
theorem owed_ok (w : World) {sb : Nat} {m : Mk2} {s : Nat} (hM : MkA w sb m) (hl : m.1.length ≤ 20) : Rt Try.prog 81 [.pointer (some ⟨sb, 0, none⟩), .int .i64 (s : Int)].toArray w fun v w' => v = .int .i64 ((s >>> m.1.length : Nat) : Int) ∧ w = w' := by
  obtain ⟨ao, ac, po, pc, hblk, h1, h2⟩ := hM.ok
  refine Rt.enter2 Try.func81 Try.ntmps81 rfl rfl ?_
  (repeat (first | (apply WL.pure; rfl; rfl; rfl) | (apply WL.nil) | (apply EX.thenN) | (apply CW.seq) | (apply CW.region) | (apply WL.lenS; rfl; rfl; rfl) | (apply WL.fa; rfl; rfl; rfl) | (apply WL.nck; rfl; rfl; rfl) | (apply WL.ld; rfl; rfl; rfl; assumption; rfl)))
  refine WL.shrS rfl rfl rfl rfl (by omega) ?_
  (repeat (first | (apply WL.pure; rfl; rfl; rfl) | (apply WL.nil) | (apply EX.thenN) | (apply CW.ret)))
  exact EX.ret1 rfl rfl ⟨rfl, rfl⟩
end Go.Proofs.Ytllpfgcngokhnaa
/-
  Package tableau: kept, bits, fair: walked.
-/
set_option linter.unusedVariables false
set_option linter.unusedSimpArgs false
namespace Go.Proofs.Ytllpfgcngokhnaa
open Go.RowKit

theorem argE7 {n : Int} {a : Ltl} : argE (.mk 7 n [a]) = a := rfl
theorem argE_k {k n : Int} {l : List Ltl} (h : k = 8 ∨ k = 9) : argE (.mk k n l) = .mk k n l := by
  unfold argE
  rw [if_neg (by simp only [Ltl.k]; omega)]
set_option maxHeartbeats 1000000 in
theorem kept_ok (w0 : World) {sb : Nat} {m : Mk2} {s : Nat} (hM : MkA w0 sb m) (hT : OkT m) (hs : s < 1048576) (hl : m.1.length ≤ 20 ∧ m.2.length ≤ 20) :
    Rt Try.prog 79 [.pointer (some ⟨sb, 0, none⟩), .int .i64 (s : Int)].toArray w0 fun v w' => v = .int .i64 ((keepN m s : Nat) : Int) ∧ Ext w0 w' := by
  obtain ⟨ao, ac, po, pc, hblk, h1, h2⟩ := hM.ok
  have hpl := h2.len63
  refine Rt.enter2 Try.func79 Try.ntmps79 rfl rfl ?_
  (repeat (first | (apply WL.pure; rfl; rfl; rfl) | (apply WL.nil) | (apply EX.thenN) | (apply CW.seq) | (apply CW.region) | (apply WL.lenS; rfl; rfl; rfl) | (apply WL.fa; rfl; rfl; rfl) | (apply WL.nck; rfl; rfl; rfl) | (apply WL.ld; rfl; rfl; rfl; assumption; rfl) | (apply CW.block)))
  refine CW.loop (S := Nat) (fun i => [(0, .pointer (some ⟨sb, 0, none⟩)), (1, .int .i64 (s : Int)), (5, .int .i64 ((packB (fun i => hoB m s (argE (m.2.getD i nilT))) i : Nat) : Int)), (12, .slice po m.2.length pc), (13, .int .i64 m.2.length), (14, .int .i64 i)])
    (fun i w => i ≤ m.2.length ∧ Ext w0 w) (fun i => m.2.length - i) 0 (by repeat (first | exact trivial | refine ⟨rfl, ?_⟩)) ⟨Nat.zero_le _, Ext.refl _⟩ ?_
  rintro i w ⟨hi, hE⟩
  have hpk := packB_lt (f := fun i => hoB m s (argE (m.2.getD i nilT))) (c := i)
  have hp20 : 2 ^ i ≤ 2 ^ 20 := Nat.pow_le_pow_right (by omega) (by omega)
  (repeat (first | (apply WL.pure; rfl; rfl; rfl) | (apply WL.nil) | (apply EX.thenN) | (apply CW.seq) | (apply CW.region)))
  refine CW.cond rfl (fun h => ?_) (fun h => ?_)
  · have hi' : i < m.2.length := by simp at h; omega
    have hg : m.2[i] ∈ m.2 := List.getElem_mem hi'
    have hgi : m.2.getD i nilT = m.2[i] := getNil hi'
    have hF := hT.arg hg
    have hsh := part_shape (hT.part hg).wf (hT.ok.wp _ hg).2.1
    have hnx : packB (fun i => hoB m s (argE (m.2.getD i nilT))) (i + 1) = if hoB m s (argE m.2[i]) = true then packB (fun i => hoB m s (argE (m.2.getD i nilT))) i ||| (1 <<< i) else packB (fun i => hoB m s (argE (m.2.getD i nilT))) i := by
      rw [packB, hgi]
    have h2i : 2 ^ i < 4611686018427387904 := Nat.lt_of_le_of_lt hp20 (by decide)
    generalize packB (fun i => hoB m s (argE (m.2.getD i nilT))) i = acc at *
    have hor := bits_orS acc (1 <<< i) (by omega) (by rw [Nat.one_shiftLeft]; exact h2i)
    (repeat (first | (apply WL.pure; rfl; rfl; rfl) | (apply EX.thenN) | (apply CW.seq) | (apply CW.region) | (apply CW.block) | (apply CW.skip)))
    refine WL.elemN rfl rfl rfl rfl rfl (h2.up hE) hi' (fun _ => rfl) (fun u q hu => ?_)
    generalize m.2[i] = g at *
    obtain ⟨go, gc, rfl, hgk⟩ := Rd.ltl hu
    skip
    refine WL.alloc rfl rfl (fun w1 hb7 e1 => ?_)
    have z1 := hb7.lt
    (repeat (apply WL.pure; rfl; rfl; rfl))
    refine WL.st rfl rfl rfl hb7 rfl rfl (ones_of rfl) (fun w2 hb7 hg2 => ?_)
    have e2 : Ext w w2 := e1.grown hg2 e1.size (fun g hg => by cases hg; exact Nat.le_refl _)
    (repeat (first | (apply WL.nil) | (apply EX.thenN) | (apply CW.seq) | (apply CW.region) | (apply WL.ldA; rfl; rfl; rfl; assumption; rfl)))
    refine WL.alloc rfl rfl (fun w3 hb8 e3 => ?_)
    have hb7 := hb7.ext e3
    skip
    refine WL.st rfl rfl rfl hb8 rfl rfl (ones_of rfl) (fun w4 hb8 hg4 => ?_)
    have e4 : Ext w2 w4 := e3.grown hg4 e3.size (fun g hg => by cases hg; exact Nat.le_refl _)
    have z2 := hg2.size
    have hE4 := (hE.trans e2).trans e4
    have hgk4 := hgk.up (e2.trans e4)
    have hb7 := hb7.kept hg4 (fun e => by have := Option.some.inj e; omega)
    rcases hsh with ⟨a, rfl⟩ | ⟨k, a, b, hk, rfl⟩
    · rw [argE7] at hF hnx
      (repeat (first | (apply WL.pure; rfl; rfl; rfl) | (apply WL.nil) | (apply EX.thenN) | (apply CW.seq) | (apply CW.region) | (apply WL.fa; rfl; rfl; rfl) | (apply WL.ld; rfl; rfl; rfl; assumption; rfl) | (apply CW.condT; rfl)))
      refine WL.elemN (i := 0) rfl rfl rfl rfl rfl (hgk.mono (w' := w4) (fun b hb => (e2.trans e4).block b hb) (F' := Old w) (fun _ h => h)) (by simp [Ltl.kids]) (fun _ => rfl) (fun u q hu => ?_)
      obtain ⟨uo, uc, rfl, hka⟩ := Rd.ltl (t := a) hu
      skip
      refine WL.st rfl rfl rfl hb8 rfl rfl (ones_of rfl) (fun w5 hb8 hg5 => ?_)
      have e5 : Ext w0 w5 := hE4.grown hg5 hE4.size (fun g hg => by cases hg; have := hE.size; omega)
      have z4 := (e2.trans e4).size
      have z5 := hg5.size
      have hka5 : Sl w5 (Old w5) uo uc a.kids := hka.mono (fun b hb => hg5.block b (by have hb' : b < w.heap.size := hb; omega) (fun e => by have := Option.some.inj e; have hb' : b < w.heap.size := hb; omega)) (fun b hb => by have hb' : b < w.heap.size := hb; exact (show b < w5.heap.size by omega))
      (repeat (first | (apply WL.pure; rfl; rfl; rfl) | (apply WL.nil) | (apply EX.thenN) | (apply CW.seq) | (apply CW.region) | (apply WL.ldA; rfl; rfl; rfl; assumption; rfl)))
      refine WL.call rfl rfl rfl (tholds_ok _ a (Nat.le_refl _) w5 (hM.ext e5) hF hka5 hs hl) ?_
      rintro _ w6 ⟨rfl, e6⟩
      cases hh : hoB m s a
      · rw [hh, if_neg (by decide)] at hnx
        (repeat (first | (apply WL.add; rfl; rfl; rfl; rfl; omega; omega) | (apply WL.pure; rfl; rfl; rfl) | (apply WL.nil) | (apply EX.thenN) | (apply CW.region) | (apply EX.inN) | (apply CW.condF; rfl) | (apply CW.skip)))
        refine EX.back (i + 1) ?_ ⟨hi', e5.trans e6⟩ (by omega)
        rw [hnx]; exact (by repeat (first | exact trivial | refine ⟨rfl, ?_⟩))
      · rw [hh, if_pos rfl] at hnx
        (repeat (first | (apply WL.add; rfl; rfl; rfl; rfl; omega; omega) | (apply WL.pure; rfl; rfl; rfl) | (apply WL.nil) | (apply EX.thenN) | (apply CW.region) | (apply EX.inN) | (apply CW.condT; rfl)))
        rw [shlS (show i < 62 by omega), hor]
        skip
        refine EX.back (i + 1) ?_ ⟨hi', e5.trans e6⟩ (by omega)
        rw [hnx]; exact (by repeat (first | exact trivial | refine ⟨rfl, ?_⟩))
    · rw [argE_k hk] at hF hnx
      have h7 : (k == 7) = false := by
        rw [beq_eq_false_iff_ne]; omega
      (repeat (first | (apply WL.pure; rfl; rfl; rfl) | (apply WL.nil) | (apply EX.thenN) | (apply CW.seq) | (apply CW.region) | (apply WL.fa; rfl; rfl; rfl) | (apply WL.ld; rfl; rfl; rfl; assumption; rfl)))
      refine CW.cond rfl (fun h => by rw [show ((Ltl.mk k 0 [a, b]).k == 7) = false from h7] at h; cases h) (fun _ => ?_)
      (repeat (first | (apply WL.pure; rfl; rfl; rfl) | (apply EX.thenN) | (apply CW.seq) | (apply CW.region) | (apply WL.ldA; rfl; rfl; rfl; assumption; rfl) | (apply CW.skip)))
      refine WL.call rfl rfl rfl (tholds_ok _ (.mk k 0 [a, b]) (Nat.le_refl _) w4 (hM.ext hE4) hF hgk4 hs hl) ?_
      rintro _ w6 ⟨rfl, e6⟩
      cases hh : hoB m s (.mk k 0 [a, b])
      · rw [hh, if_neg (by decide)] at hnx
        (repeat (first | (apply WL.add; rfl; rfl; rfl; rfl; omega; omega) | (apply WL.pure; rfl; rfl; rfl) | (apply WL.nil) | (apply EX.thenN) | (apply CW.region) | (apply EX.inN) | (apply CW.condF; rfl) | (apply CW.skip)))
        refine EX.back (i + 1) ?_ ⟨hi', hE4.trans e6⟩ (by omega)
        rw [hnx]; exact (by repeat (first | exact trivial | refine ⟨rfl, ?_⟩))
      · rw [hh, if_pos rfl] at hnx
        (repeat (first | (apply WL.add; rfl; rfl; rfl; rfl; omega; omega) | (apply WL.pure; rfl; rfl; rfl) | (apply WL.nil) | (apply EX.thenN) | (apply CW.region) | (apply EX.inN) | (apply CW.condT; rfl)))
        rw [shlS (show i < 62 by omega), hor]
        skip
        refine EX.back (i + 1) ?_ ⟨hi', hE4.trans e6⟩ (by omega)
        rw [hnx]; exact (by repeat (first | exact trivial | refine ⟨rfl, ?_⟩))
  · obtain rfl : i = m.2.length := by simp at h; omega
    (repeat (first | (apply WL.pure; rfl; rfl; rfl) | (apply WL.nil) | (apply EX.thenN) | (apply CW.seq) | (apply CW.region) | (apply CW.exit) | (apply EX.thenX) | (apply EX.inX) | (apply CW.ret)))
    exact EX.ret1 rfl rfl ⟨rfl, hE⟩
theorem testB {s i : Nat} (hs : s < 1048576) (is : Bool) : ((((bits .and .i64 ((s >>> i : Nat) : Int) 1 : Int) == 1)) == is) = (s.testBit i == is) := by
  rw [show bits .and .i64 ((s >>> i : Nat) : Int) 1 = ((s >>> i &&& 1 : Nat) : Int) from bits_andS _ 1 (by have := Nat.shiftRight_le s i; omega) (by omega), cho_bit]
set_option maxHeartbeats 1000000 in
theorem bits_ok (w0 : World) {sb : Nat} {m : Mk2} {s : Nat} (is : Bool) (hM : MkA w0 sb m) (hm : OkM m) (hs : s < 1048576) (hl : m.1.length ≤ 20) :
    Rt Try.prog 82 [.pointer (some ⟨sb, 0, none⟩), .int .i64 (s : Int), .bool is].toArray w0 fun v w' => v = .int .u64 ((bitsN m s is : Nat) : Int) ∧ Ext w0 w' := by
  obtain ⟨ao, ac, po, pc, hblk, h1, h2⟩ := hM.ok
  refine Rt.enter3 Try.func82 Try.ntmps82 rfl rfl ?_
  (repeat (first | (apply WL.pure; rfl; rfl; rfl) | (apply WL.nil) | (apply EX.thenN) | (apply CW.seq) | (apply CW.region) | (apply WL.lenS; rfl; rfl; rfl) | (apply WL.fa; rfl; rfl; rfl) | (apply WL.nck; rfl; rfl; rfl) | (apply WL.ld; rfl; rfl; rfl; assumption; rfl) | (apply CW.block)))
  refine CW.loop (S := Nat) (fun i => [(1, .int .i64 (s : Int)), (2, .bool is), (7, .int .u64 ((bitP m.1 s is i : Nat) : Int)), (13, .slice ao m.1.length ac), (14, .int .i64 m.1.length), (15, .int .i64 i)])
    (fun i w => i ≤ m.1.length ∧ Ext w0 w) (fun i => m.1.length - i) 0 (by repeat (first | exact trivial | refine ⟨rfl, ?_⟩)) ⟨Nat.zero_le _, Ext.refl _⟩ ?_
  rintro i w ⟨hi, hE⟩
  have hbp := bitP_lt (s := s) (is := is) (fun x hx => (hm.ra x hx).2) hi
  (repeat (first | (apply WL.pure; rfl; rfl; rfl) | (apply WL.nil) | (apply EX.thenN) | (apply CW.seq) | (apply CW.region)))
  refine CW.cond rfl (fun h => ?_) (fun h => ?_)
  · have hi' : i < m.1.length := by simp at h; omega
    have har := hm.ra _ (List.getElem_mem hi')
    have hai : m.1.getD i 0 = m.1[i] := by rw [List.getD_eq_getElem?_getD, List.getElem?_eq_getElem hi']; rfl
    have hnx : bitP m.1 s is (i + 1) = if s.testBit i = is then bitP m.1 s is i ||| (1 <<< (m.1.getD i 0).toNat) else bitP m.1 s is i := rfl
    rw [hai] at hnx
    generalize bitP m.1 s is i = acc at *
    obtain ⟨a, ha⟩ := Int.eq_ofNat_of_zero_le har.1
    have ha63 : a < 64 := by omega
    rw [ha, Int.toNat_natCast] at hnx
    have h2i : 2 ^ a < 2 ^ 64 := Nat.pow_lt_pow_right (by omega) ha63
    have hor := bits_orU acc (1 <<< a) (by omega) (by rw [Nat.one_shiftLeft]; omega)
    (repeat (first | (apply WL.pure; rfl; rfl; rfl) | (apply EX.thenN) | (apply CW.seq) | (apply CW.region) | (apply CW.block) | (apply CW.skip)))
    refine WL.elemI rfl rfl rfl rfl rfl (h1.up hE) hi' ha (fun _ => rfl) (fun q => ?_)
    (repeat (first | (apply WL.pure; rfl; rfl; rfl) | (apply WL.nil) | (apply EX.thenN) | (apply CW.seq) | (apply CW.region)))
    refine WL.shrS rfl rfl rfl rfl (by omega) ?_
    (repeat (first | (apply WL.pure; rfl; rfl; rfl) | (apply WL.nil) | (apply EX.thenN) | (apply WL.eqB; rfl; rfl; rfl; rfl)))
    rw [testB hs]
    by_cases hb : s.testBit i = is
    · rw [if_pos hb] at hnx
      rw [show (s.testBit i == is) = true by rw [hb]; simp]
      (repeat (first | (apply WL.add; rfl; rfl; rfl; rfl; omega; omega) | (apply WL.pure; rfl; rfl; rfl) | (apply WL.nil) | (apply EX.thenN) | (apply CW.region) | (apply EX.inN) | (apply CW.condT; rfl)))
      rw [shlU ha63, hor]
      skip
      refine EX.back (i + 1) ?_ ⟨hi', hE⟩ (by omega)
      rw [hnx]; exact (by repeat (first | exact trivial | refine ⟨rfl, ?_⟩))
    · rw [if_neg hb] at hnx
      rw [show (s.testBit i == is) = false by rw [beq_eq_false_iff_ne]; exact hb]
      (repeat (first | (apply WL.add; rfl; rfl; rfl; rfl; omega; omega) | (apply WL.pure; rfl; rfl; rfl) | (apply WL.nil) | (apply EX.thenN) | (apply CW.region) | (apply EX.inN) | (apply CW.condF; rfl) | (apply CW.skip)))
      refine EX.back (i + 1) ?_ ⟨hi', hE⟩ (by omega)
      rw [hnx]; exact (by repeat (first | exact trivial | refine ⟨rfl, ?_⟩))
  · obtain rfl : i = m.1.length := by simp at h; omega
    (repeat (first | (apply WL.pure; rfl; rfl; rfl) | (apply WL.nil) | (apply EX.thenN) | (apply CW.seq) | (apply CW.region) | (apply CW.exit) | (apply EX.thenX) | (apply EX.inX) | (apply CW.ret)))
    exact EX.ret1 rfl rfl ⟨rfl, hE⟩
set_option maxHeartbeats 1000000 in
theorem tfair_ok (w0 : World) {sb : Nat} {m : Mk2} {s : Nat} {k : Int} {a b : Ltl} {ko : Option Addr} {kc : Nat} (hM : MkA w0 sb m) (hF : OkF m (.mk k 0 [a, b])) (hk : k = 8 ∨ k = 9) (hka : Sl w0 (Old w0) ko kc [a, b]) (hs : s < 1048576) (hl : m.1.length ≤ 20 ∧ m.2.length ≤ 20) :
    Rt Try.prog 83 [.pointer (some ⟨sb, 0, none⟩), ltlV k 0 ko 2 kc, .int .i64 (s : Int)].toArray w0 fun v w' => v = .bool (fairB m (.mk k 0 [a, b]) s) ∧ Ext w0 w' := by
  have hb' : fairB m (.mk k 0 [a, b]) s = if k = 8 then !(hoB m s (.mk k 0 [a, b])) || hoB m s b else hoB m s (.mk k 0 [a, b]) || !(hoB m s b) := rfl
  rw [hb']
  rcases hk with rfl | rfl
  · rw [if_pos rfl]
    refine Rt.enter3 Try.func83 Try.ntmps83 rfl rfl ?_
    (repeat (first | (apply CW.seq) | (apply CW.region)))
    refine WL.boxB rfl rfl rfl fun w1 hb4 e1 => ?_
    (repeat (first | (apply WL.pure; rfl; rfl; rfl) | (apply WL.nil) | (apply EX.thenN) | (apply CW.seq) | (apply CW.region) | (apply WL.fa; rfl; rfl; rfl) | (apply WL.ld; rfl; rfl; rfl; assumption; rfl) | (apply WL.ldA; rfl; rfl; rfl; assumption; rfl) | (apply CW.condT; rfl)))
    refine WL.call rfl rfl rfl (tholds_ok _ (.mk 8 0 [a, b]) (Nat.le_refl _) w1 (hM.ext e1) hF (hka.up e1) hs hl) ?_
    rintro _ w2 ⟨rfl, e2⟩
    have hb4 := hb4.ext e2
    cases hoB m s (.mk 8 0 [a, b])
    · (repeat (first | (apply WL.pure; rfl; rfl; rfl) | (apply WL.nil) | (apply EX.thenN) | (apply WL.pass; rfl; rfl) | (apply CW.ret) | (apply EX.thenR)))
      exact EX.ret1 rfl rfl ⟨rfl, e1.trans e2⟩
    · (repeat (first | (apply WL.pure; rfl; rfl; rfl) | (apply WL.fa; rfl; rfl; rfl) | (apply WL.ld; rfl; rfl; rfl; assumption; rfl)))
      refine WL.elemN (i := 1) rfl rfl rfl rfl rfl (hka.up (e1.trans e2)) (by simp) (fun _ => rfl) (fun u q hu => ?_)
      obtain ⟨vo, vc, rfl, hkb⟩ := Rd.ltl (t := b) hu
      (repeat (apply WL.pure; rfl; rfl; rfl))
      refine WL.call rfl rfl rfl (tholds_ok _ b (Nat.le_refl _) w2 (hM.ext (e1.trans e2)) hF.b2 hkb hs hl) ?_
      rintro _ w3 ⟨rfl, e3⟩
      (repeat (first | (apply WL.pure; rfl; rfl; rfl) | (apply WL.nil) | (apply EX.thenN) | (apply CW.ret) | (apply EX.thenR)))
      exact EX.ret1 rfl rfl ⟨rfl, (e1.trans e2).trans e3⟩
  · rw [if_neg (by decide)]
    refine Rt.enter3 Try.func83 Try.ntmps83 rfl rfl ?_
    (repeat (first | (apply CW.seq) | (apply CW.region)))
    refine WL.boxB rfl rfl rfl fun w1 hb4 e1 => ?_
    (repeat (first | (apply WL.pure; rfl; rfl; rfl) | (apply WL.nil) | (apply EX.thenN) | (apply CW.seq) | (apply CW.region) | (apply WL.fa; rfl; rfl; rfl) | (apply WL.ld; rfl; rfl; rfl; assumption; rfl) | (apply WL.ldA; rfl; rfl; rfl; assumption; rfl) | (apply CW.condF; rfl) | (apply CW.skip)))
    refine WL.call rfl rfl rfl (tholds_ok _ (.mk 9 0 [a, b]) (Nat.le_refl _) w1 (hM.ext e1) hF (hka.up e1) hs hl) ?_
    rintro _ w2 ⟨rfl, e2⟩
    have hb4 := hb4.ext e2
    cases hoB m s (.mk 9 0 [a, b])
    · (repeat (first | (apply WL.pure; rfl; rfl; rfl) | (apply WL.fa; rfl; rfl; rfl) | (apply WL.ld; rfl; rfl; rfl; assumption; rfl)))
      refine WL.elemN (i := 1) rfl rfl rfl rfl rfl (hka.up (e1.trans e2)) (by simp) (fun _ => rfl) (fun u q hu => ?_)
      obtain ⟨vo, vc, rfl, hkb⟩ := Rd.ltl (t := b) hu
      (repeat (apply WL.pure; rfl; rfl; rfl))
      refine WL.call rfl rfl rfl (tholds_ok _ b (Nat.le_refl _) w2 (hM.ext (e1.trans e2)) hF.b2 hkb hs hl) ?_
      rintro _ w3 ⟨rfl, e3⟩
      (repeat (first | (apply WL.pure; rfl; rfl; rfl) | (apply WL.nil) | (apply EX.thenN) | (apply CW.ret)))
      exact EX.ret1 rfl rfl ⟨rfl, (e1.trans e2).trans e3⟩
    · (repeat (first | (apply WL.pure; rfl; rfl; rfl) | (apply WL.nil) | (apply EX.thenN) | (apply WL.pass; rfl; rfl) | (apply CW.ret)))
      exact EX.ret1 rfl rfl ⟨rfl, e1.trans e2⟩
end Go.Proofs.Ytllpfgcngokhnaa
