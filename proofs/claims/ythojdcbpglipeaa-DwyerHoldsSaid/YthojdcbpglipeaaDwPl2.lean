/-
  Package dwyer: the spans that the code looks at say the same as those of the formulas. Plain law, no program in sight.
-/
import Derived.Test.YthojdcbpglipeaaDwPl
set_option linter.unusedVariables false
set_option linter.unusedSimpArgs false
namespace Go.Proofs.Ythojdcbpglipeaa
open Go.RowKit

theorem firstF_spec {p : Nat → Bool} {e : Nat} : ∀ (m i : Nat), e - i ≤ m → i ≤ e → i ≤ firstF p e i ∧ firstF p e i ≤ e ∧ (firstF p e i < e → p (firstF p e i) = true) ∧ ∀ j, i ≤ j → j < firstF p e i → p j = false
  | 0, i, hm, hi => by rw [firstF_end (by omega)]; exact ⟨Nat.le_refl _, hi, fun h => by omega, fun j h1 h2 => by omega⟩
  | m + 1, i, hm, hi => by
    by_cases h : p i = true
    · rw [firstF_hit h]; exact ⟨Nat.le_refl _, hi, fun _ => h, fun j h1 h2 => by omega⟩
    · by_cases hlt : i < e
      · rw [Bool.not_eq_true] at h
        rw [firstF_go hlt h]
        obtain ⟨h1, h2, h3, h4⟩ := firstF_spec (p := p) (e := e) m (i + 1) (by omega) (by omega)
        refine ⟨by omega, h2, h3, fun j k1 k2 => ?_⟩
        by_cases hj : j = i
        · rw [hj]; exact h
        · exact h4 j (by omega) k2
      · rw [firstF_end hlt]; exact ⟨Nat.le_refl _, hi, fun h => by omega, fun j h1 h2 => by omega⟩
section
variable {s l : List Nat} {e P S to i : Nat} {k : Int} {st : KS}
abbrev Hs (s l : List Nat) (a : Nat) (j : Nat) : Prop := lat s l j >>> a &&& 1 = 1
theorem has_iff {a j : Nat} : hasL s l j a = true ↔ Hs s l a j := by unfold hasL Hs; rw [decide_eq_true_eq]
theorem has_no {a j : Nat} : hasL s l j a = false ↔ ¬ Hs s l a j := by rw [← has_iff, Bool.not_eq_true]
theorem firstL_spec {a : Nat} (h : i ≤ e) : i ≤ firstL s l e i a ∧ firstL s l e i a ≤ e ∧ (firstL s l e i a < e → Hs s l a (firstL s l e i a)) ∧ ∀ j, i ≤ j → j < firstL s l e i a → ¬ Hs s l a j := by
  obtain ⟨h1, h2, h3, h4⟩ := firstF_spec (p := fun j => hasL s l j a) (e - i) i (Nat.le_refl _) h
  exact ⟨h1, h2, fun h => has_iff.1 (h3 h), fun j k1 k2 => has_no.1 (h4 j k1 k2)⟩
theorem firstL_lt {a : Nat} (h : i ≤ e) (hto : to ≤ e) : firstL s l e i a < to ↔ ∃ m, i ≤ m ∧ m < to ∧ Hs s l a m := by
  obtain ⟨h1, h2, h3, h4⟩ := firstL_spec (s := s) (l := l) (a := a) h
  constructor
  · exact fun hf => ⟨_, h1, hf, h3 (by omega)⟩
  · rintro ⟨m, k1, k2, k3⟩
    exact Nat.lt_of_not_le fun hle => h4 m k1 (by omega) k3
theorem kGo_ge : ∀ m i (st : KS), to - i ≤ m → st.1 ≤ (kGo s l e k P S i to st).1
  | 0, i, st, hm => by rw [kGo_end (by omega)]; exact Nat.le_refl _
  | m + 1, i, st, hm => by
    by_cases h : i < to
    · rw [kGo_step h]
      refine Nat.le_trans ?_ (kGo_ge m (i + 1) _ (by omega))
      unfold kStep; dsimp only; split <;> simp
    · rw [kGo_end h]; exact Nat.le_refl _
theorem many_AL : ∀ m i (st : KS), to - i ≤ m → ∀ n, (n + st.1 + 1 ≤ (kGo s l e k P S i to st).1 ↔ AL (fun j => Hs s l P j ∧ j < to) n i)
  | 0, i, st, hm, n => by
    rw [kGo_end (by omega)]
    exact ⟨fun h => by omega, fun h => by obtain ⟨j, h1, h2⟩ := h.some; omega⟩
  | m + 1, i, st, hm, n => by
    by_cases h : i < to
    · rw [kGo_step h]
      by_cases hp : hasL s l i P = true
      · have e1 : (kStep s l e k P S to i st).1 = st.1 + 1 := by unfold kStep; simp [hp]
        cases n with
        | zero =>
          have := kGo_ge (e := e) (P := P) (S := S) (k := k) (s := s) (l := l) (to := to) m (i + 1) (kStep s l e k P S to i st) (by omega)
          exact ⟨fun _ => ⟨i, Nat.le_refl _, has_iff.1 hp, h⟩, fun _ => by omega⟩
        | succ n =>
          rw [show n + 1 + st.1 + 1 = n + (kStep s l e k P S to i st).1 + 1 by omega, many_AL m (i + 1) _ (by omega) n]
          exact ⟨fun h' => ⟨i, Nat.le_refl _, ⟨has_iff.1 hp, h⟩, h'⟩, fun ⟨j, h1, h2, h3⟩ => h3.low (by omega)⟩
      · have e1 : (kStep s l e k P S to i st).1 = st.1 := by unfold kStep; simp [hp]
        rw [← e1, many_AL m (i + 1) _ (by omega) n]
        refine ⟨fun h' => h'.low (by omega), fun h' => ?_⟩
        have hne : ∀ j, i ≤ j → Hs s l P j → i + 1 ≤ j := fun j hj hpj => by
          rcases Nat.lt_or_eq_of_le hj with h | h
          · exact h
          · subst h; exact absurd (has_iff.2 hpj) hp
        cases n with
        | zero => obtain ⟨j, h1, h2⟩ := h'; exact ⟨j, hne j h1 h2.1, h2⟩
        | succ n => obtain ⟨j, h1, h2, h3⟩ := h'; exact ⟨j, hne j h1 h2.1, h2, h3⟩
    · rw [kGo_end h]
      exact ⟨fun h => by omega, fun h' => by obtain ⟨j, h1, h2⟩ := h'.some; omega⟩
theorem univ_go : ∀ m i (st : KS), to - i ≤ m → ((kGo s l e k P S i to st).2.2.2 = true ↔ st.2.2.2 = true ∧ ∀ j, i ≤ j → j < to → Hs s l P j)
  | 0, i, st, hm => by rw [kGo_end (by omega)]; exact ⟨fun h => ⟨h, fun j h1 h2 => by omega⟩, fun h => h.1⟩
  | m + 1, i, st, hm => by
    by_cases h : i < to
    · rw [kGo_step h, univ_go m (i + 1) _ (by omega)]
      by_cases hp : hasL s l i P = true
      · have e1 : (kStep s l e k P S to i st).2.2.2 = st.2.2.2 := by unfold kStep; simp [hp]
        rw [e1]
        refine and_congr Iff.rfl ⟨fun x j h1 h2 => ?_, fun x j h1 h2 => x j (by omega) h2⟩
        rcases Nat.lt_or_eq_of_le h1 with h | h
        · exact x j h h2
        · subst h; exact has_iff.1 hp
      · have e1 : (kStep s l e k P S to i st).2.2.2 = false := by unfold kStep; simp [hp]
        rw [e1]
        exact ⟨fun h => absurd h.1 (by simp), fun x => absurd (has_iff.2 (x.2 i (Nat.le_refl _) h)) hp⟩
    · rw [kGo_end h]; exact ⟨fun h => ⟨h, fun j h1 h2 => by omega⟩, fun h => h.1⟩
theorem late5_go : ∀ m i (st : KS), to - i ≤ m → ((kGo s l e 5 P S i to st).2.2.1 = true ↔ st.2.2.1 = true ∧ ∀ j, i ≤ j → j < to → Hs s l P j → st.2.1 = true ∨ ∃ x, i ≤ x ∧ x ≤ j ∧ Hs s l S x)
  | 0, i, st, hm => by rw [kGo_end (by omega)]; exact ⟨fun h => ⟨h, fun j h1 h2 => by omega⟩, fun h => h.1⟩
  | m + 1, i, st, hm => by
    by_cases h : i < to
    · rw [kGo_step h, late5_go m (i + 1) _ (by omega)]
      have e1 : (kStep s l e 5 P S to i st).2.1 = (st.2.1 || hasL s l i S) := by unfold kStep; dsimp only; split <;> simp
      have tail : (∀ j, i + 1 ≤ j → j < to → Hs s l P j → (kStep s l e 5 P S to i st).2.1 = true ∨ ∃ x, i + 1 ≤ x ∧ x ≤ j ∧ Hs s l S x) ↔ (∀ j, i + 1 ≤ j → j < to → Hs s l P j → st.2.1 = true ∨ ∃ x, i ≤ x ∧ x ≤ j ∧ Hs s l S x) := by
        refine forall_congr' fun j => forall_congr' fun h1 => forall_congr' fun h2 => forall_congr' fun h3 => ?_
        rw [e1, Bool.or_eq_true, has_iff]
        constructor
        · rintro ((h | h) | ⟨x, x1, x2, x3⟩)
          · exact .inl h
          · exact .inr ⟨i, Nat.le_refl _, by omega, h⟩
          · exact .inr ⟨x, by omega, x2, x3⟩
        · rintro (h | ⟨x, x1, x2, x3⟩)
          · exact .inl (.inl h)
          · rcases Nat.lt_or_eq_of_le x1 with h | h
            · exact .inr ⟨x, h, x2, x3⟩
            · subst h; exact .inl (.inr x3)
      rw [tail]
      have split : (∀ j, i ≤ j → j < to → Hs s l P j → st.2.1 = true ∨ ∃ x, i ≤ x ∧ x ≤ j ∧ Hs s l S x) ↔ (Hs s l P i → st.2.1 = true ∨ Hs s l S i) ∧ (∀ j, i + 1 ≤ j → j < to → Hs s l P j → st.2.1 = true ∨ ∃ x, i ≤ x ∧ x ≤ j ∧ Hs s l S x) := by
        constructor
        · intro x
          refine ⟨fun hp => (x i (Nat.le_refl _) h hp).imp id ?_, fun j h1 => x j (by omega)⟩
          rintro ⟨y, y1, y2, y3⟩
          have : y = i := by omega
          exact this ▸ y3
        · rintro ⟨x1, x2⟩ j h1 h2 hp
          rcases Nat.lt_or_eq_of_le h1 with h | h
          · exact x2 j h h2 hp
          · subst h; exact (x1 hp).imp id fun hS => ⟨i, Nat.le_refl _, Nat.le_refl _, hS⟩
      rw [split, ← and_assoc]
      refine and_congr ?_ Iff.rfl
      by_cases hp : hasL s l i P = true
      · have e2 : (kStep s l e 5 P S to i st).2.2.1 = (st.2.2.1 && (st.2.1 || hasL s l i S)) := by unfold kStep; simp [hp]
        rw [e2, Bool.and_eq_true, Bool.or_eq_true, has_iff]
        exact and_congr Iff.rfl ⟨fun x _ => x, fun x => x (has_iff.1 hp)⟩
      · have e2 : (kStep s l e 5 P S to i st).2.2.1 = st.2.2.1 := by unfold kStep; simp [hp]
        rw [e2]
        exact ⟨fun x => ⟨x, fun y => absurd (has_iff.2 y) hp⟩, fun x => x.1⟩
    · rw [kGo_end h]; exact ⟨fun h => ⟨h, fun j h1 h2 => by omega⟩, fun h => h.1⟩
theorem late6_go : ∀ m i (st : KS), to - i ≤ m → ((kGo s l e 6 P S i to st).2.2.1 = true ↔ st.2.2.1 = true ∧ ∀ j, i ≤ j → j < to → Hs s l P j → firstL s l e j S < to)
  | 0, i, st, hm => by rw [kGo_end (by omega)]; exact ⟨fun h => ⟨h, fun j h1 h2 => by omega⟩, fun h => h.1⟩
  | m + 1, i, st, hm => by
    by_cases h : i < to
    · rw [kGo_step h, late6_go m (i + 1) _ (by omega)]
      have split : (∀ j, i ≤ j → j < to → Hs s l P j → firstL s l e j S < to) ↔ (Hs s l P i → firstL s l e i S < to) ∧ (∀ j, i + 1 ≤ j → j < to → Hs s l P j → firstL s l e j S < to) := by
        constructor
        · exact fun x => ⟨x i (Nat.le_refl _) h, fun j h1 => x j (by omega)⟩
        · rintro ⟨x1, x2⟩ j h1 h2 hp
          rcases Nat.lt_or_eq_of_le h1 with h | h
          · exact x2 j h h2 hp
          · subst h; exact x1 hp
      rw [split, ← and_assoc]
      refine and_congr ?_ Iff.rfl
      by_cases hp : hasL s l i P = true
      · have e2 : (kStep s l e 6 P S to i st).2.2.1 = (st.2.2.1 && decide (firstL s l e i S < to)) := by
          unfold kStep; simp [hp]; congr 1; rw [Bool.eq_iff_iff]; simp
        rw [e2, Bool.and_eq_true, decide_eq_true_eq]
        exact and_congr Iff.rfl ⟨fun x _ => x, fun x => x (has_iff.1 hp)⟩
      · have e2 : (kStep s l e 6 P S to i st).2.2.1 = st.2.2.1 := by unfold kStep; simp [hp]
        rw [e2]
        exact ⟨fun x => ⟨x, fun y => absurd (has_iff.2 y) hp⟩, fun x => x.1⟩
    · rw [kGo_end h]; exact ⟨fun h => ⟨h, fun j h1 h2 => by omega⟩, fun h => h.1⟩
theorem ans_go : ∀ m i, to - i ≤ m → (ansGo s l e P S i to = true ↔ ∀ j, i ≤ j → j < to → Hs s l P j → firstL s l e j S ≠ e)
  | 0, i, hm => by rw [ansGo, if_neg (by omega)]; exact ⟨fun _ j h1 h2 => by omega, fun _ => rfl⟩
  | m + 1, i, hm => by
    rw [ansGo]
    by_cases h : i < to
    · rw [if_pos h]
      by_cases hc : hasL s l i P = true ∧ firstL s l e i S = e
      · rw [if_pos hc]
        exact ⟨fun h => absurd h (by simp), fun x => absurd hc.2 (x i (Nat.le_refl _) h (has_iff.1 hc.1))⟩
      · rw [if_neg hc, ans_go m (i + 1) (by omega)]
        refine ⟨fun x j h1 h2 hp => ?_, fun x j h1 => x j (by omega)⟩
        rcases Nat.lt_or_eq_of_le h1 with h | h
        · exact x j h h2 hp
        · subst h; exact fun he => hc ⟨has_iff.2 hp, he⟩
    · rw [if_neg h]; exact ⟨fun _ j h1 h2 => by omega, fun _ => rfl⟩
/-- a span that is looked at whole -/
theorem keeps_span {c : Nat} (hk : 1 ≤ k ∧ k ≤ 6) (h5 : k ≠ 6 ∨ to ≤ e) (h0 : k = 4 ∨ c = c) : keepsB k (c : Int) (kGo s l e k P S i to (0, false, true, true)) = true ↔ Span k (Hs s l P) (Hs s l S) (· < to) c i := by
  unfold keepsB Span
  by_cases k1 : k = 1
  · have := many_AL (s := s) (l := l) (e := e) (k := k) (P := P) (S := S) (to := to) (to - i) i (0, false, true, true) (Nat.le_refl _) 0
    rw [if_pos k1, if_neg (by omega), if_neg (by omega), if_neg (by omega), if_neg (by omega), if_neg (by omega), decide_eq_true_eq]
    have e1 : (kGo s l e k P S i to (0, false, true, true)).1 = 0 ↔ ¬ AL (fun j => Hs s l P j ∧ j < to) 0 i := by rw [← this]; omega
    rw [e1, AL]
    exact ⟨fun h j h1 h2 h3 => h ⟨j, h1, h3, h2⟩, fun h ⟨j, h1, h3, h2⟩ => h j h1 h2 h3⟩
  rw [if_neg k1]
  by_cases k2 : k = 2
  · rw [if_pos k2, if_pos k2, univ_go (to - i) i _ (Nat.le_refl _)]
    exact ⟨fun h => h.2, fun h => ⟨rfl, h⟩⟩
  rw [if_neg k2, if_neg k2]
  by_cases k3 : k = 3
  · have := many_AL (s := s) (l := l) (e := e) (k := k) (P := P) (S := S) (to := to) (to - i) i (0, false, true, true) (Nat.le_refl _) 0
    rw [if_pos k3, if_pos k3, decide_eq_true_eq]
    have e1 : 0 < (kGo s l e k P S i to (0, false, true, true)).1 ↔ AL (fun j => Hs s l P j ∧ j < to) 0 i := by rw [← this]; omega
    rw [e1, AL]
    exact ⟨fun ⟨j, h1, h3, h2⟩ => ⟨j, h1, h2, h3⟩, fun ⟨j, h1, h2, h3⟩ => ⟨j, h1, h3, h2⟩⟩
  rw [if_neg k3, if_neg k3]
  by_cases k4 : k = 4
  · have := many_AL (s := s) (l := l) (e := e) (k := k) (P := P) (S := S) (to := to) (to - i) i (0, false, true, true) (Nat.le_refl _) c
    rw [if_pos k4, if_neg (by omega), if_neg (by omega), if_pos k4, decide_eq_true_eq, ← this]
    show ((kGo s l e k P S i to (0, false, true, true)).1 : Int) ≤ c ↔ ¬ (c + 0 + 1 ≤ _)
    omega
  rw [if_neg k4]
  by_cases k5 : k = 5
  · subst k5
    rw [if_pos rfl, late5_go (to - i) i _ (Nat.le_refl _)]
    exact ⟨fun h j h1 h2 h3 => (h.2 j h1 h2 h3).resolve_left (by simp), fun h => ⟨rfl, fun j h1 h2 h3 => .inr (h j h1 h2 h3)⟩⟩
  rw [if_neg k5]
  have k6 : k = 6 := by omega
  subst k6
  rw [if_pos rfl, late6_go (to - i) i _ (Nat.le_refl _)]
  have hto := h5.resolve_left (by simp)
  constructor
  · intro h j h1 h2 h3
    obtain ⟨m, m1, m2, m3⟩ := (firstL_lt (by omega) hto).1 (h.2 j h1 h2 h3)
    exact ⟨m, m1, m2, m3⟩
  · intro h
    refine ⟨rfl, fun j h1 h2 h3 => ?_⟩
    obtain ⟨m, m1, m2, m3⟩ := h j h1 h2 h3
    exact (firstL_lt (Nat.le_trans (Nat.le_of_lt h2) hto) hto).2 ⟨m, m1, m2, m3⟩
/- SPANS WITHOUT END -/
theorem per_hs {a : Nat} : PerP (Hs s l a) s.length l.length := fun j hj => by unfold Hs; rw [lat_loop hj]
theorem ge_bd {A : Nat → Prop} {a p M : Nat} (hA : PerP A a p) (hp : 0 < p) (hM : max i a + p ≤ M) : (∀ j, i ≤ j → j < M → A j) ↔ ∀ j, i ≤ j → A j := by
  refine ⟨fun h j hj => Classical.byContradiction fun hn => ?_, fun h j hj _ => h j hj⟩
  obtain ⟨x, x1, x2, x3, _⟩ := least_bd (A := fun j => ¬ A j) (i := i) hA.not hp ⟨j, hj, hn⟩
  exact x3 (h x x1 (by omega))
theorem ex_bd {A : Nat → Prop} {a p M : Nat} (hA : PerP A a p) (hp : 0 < p) (hM : max i a + p ≤ M) : (∃ j, i ≤ j ∧ j < M ∧ A j) ↔ ∃ j, i ≤ j ∧ A j := by
  refine ⟨fun ⟨j, h1, _, h2⟩ => ⟨j, h1, h2⟩, fun h => ?_⟩
  obtain ⟨x, x1, x2, x3, _⟩ := least_bd hA hp h
  exact ⟨x, x1, by omega, x3⟩
theorem AL.per {A : Nat → Prop} {a p : Nat} (hA : PerP A a p) : ∀ n, PerP (AL A n) a p
  | 0, j, hj => by
    constructor
    · rintro ⟨x, h1, h2⟩
      have := hA (x - p) (by omega)
      rw [show x - p + p = x by omega] at this
      exact ⟨x - p, by omega, this.1 h2⟩
    · rintro ⟨x, h1, h2⟩
      exact ⟨x + p, by omega, (hA x (by omega)).2 h2⟩
  | n + 1, j, hj => by
    constructor
    · rintro ⟨x, h1, h2, h3⟩
      have := hA (x - p) (by omega)
      rw [show x - p + p = x by omega] at this
      have h4 := AL.per hA n (x - p + 1) (by omega)
      rw [show x - p + 1 + p = x + 1 by omega] at h4
      exact ⟨x - p, by omega, this.1 h2, h4.1 h3⟩
    · rintro ⟨x, h1, h2, h3⟩
      have h4 := AL.per hA n (x + 1) (by omega)
      rw [show x + 1 + p = x + p + 1 by omega] at h4
      exact ⟨x + p, by omega, (hA x (by omega)).2 h2, h4.2 h3⟩
theorem AL.bd {A : Nat → Prop} {a p M : Nat} (hA : PerP A a p) (hp : 0 < p) : ∀ n i, max i a + (n + 1) * p ≤ M → (AL (fun j => A j ∧ j < M) n i ↔ AL A n i)
  | 0, i, hM => by
    rw [AL, AL, ← ex_bd hA hp (M := M) (by omega)]
    exact ⟨fun ⟨j, h1, h2, h3⟩ => ⟨j, h1, h3, h2⟩, fun ⟨j, h1, h3, h2⟩ => ⟨j, h1, h2, h3⟩⟩
  | n + 1, i, hM => by
    have hm : (n + 1 + 1) * p = (n + 1) * p + p := by rw [Nat.succ_mul]
    constructor
    · intro h
      have mono : ∀ n i, AL (fun j => A j ∧ j < M) n i → AL A n i := by
        intro n
        induction n with
        | zero => exact fun i ⟨j, h1, h2⟩ => ⟨j, h1, h2.1⟩
        | succ n ih => exact fun i ⟨j, h1, h2, h3⟩ => ⟨j, h1, h2.1, ih _ h3⟩
      exact mono _ _ h
    · intro h
      obtain ⟨x, x1, x2, x3, _⟩ := least_bd (A := fun j => A j ∧ AL A n (j + 1)) (i := i) (fun j hj => and_congr (hA j hj) (by have := AL.per hA n (j + 1) (by omega); rw [show j + 1 + p = j + p + 1 by omega] at this; exact this)) hp h
      exact ⟨x, x1, ⟨x3.1, by omega⟩, (AL.bd hA hp n (x + 1) (by omega)).2 x3.2⟩
theorem span_end {c : Nat} (hk : 1 ≤ k ∧ k ≤ 5) (hc : c ≤ 3) (hp : 0 < l.length) (hi : i ≤ s.length + l.length) : Span k (Hs s l P) (Hs s l S) (· < endW s l) c i ↔ Span k (Hs s l P) (Hs s l S) (fun _ => True) c i := by
  have hM : max i s.length + l.length ≤ endW s l := by unfold endW; omega
  unfold Span
  by_cases k2 : k = 2
  · rw [if_pos k2, if_pos k2, ge_bd per_hs hp hM]
    exact ⟨fun h j hj _ => h j hj, fun h j hj => h j hj trivial⟩
  rw [if_neg k2, if_neg k2]
  by_cases k3 : k = 3
  · rw [if_pos k3, if_pos k3, ex_bd per_hs hp hM]
    exact ⟨fun ⟨j, h1, h2⟩ => ⟨j, h1, trivial, h2⟩, fun ⟨j, h1, _, h2⟩ => ⟨j, h1, h2⟩⟩
  rw [if_neg k3, if_neg k3]
  by_cases k5 : k = 5
  · rw [if_pos k5, if_pos k5]
    refine ⟨fun h j hj _ hpj => ?_, fun h j hj _ => h j hj trivial⟩
    obtain ⟨x, x1, x2, x3, x4⟩ := least_bd (i := i) (per_hs (s := s) (l := l) (a := P)) hp ⟨j, hj, hpj⟩
    obtain ⟨m, m1, m2, m3⟩ := h x x1 (by omega) x3
    exact ⟨m, m1, Nat.le_trans m2 (Nat.le_of_not_lt fun hlt => x4 j hj hlt hpj), m3⟩
  have k6 : ¬ k = 6 := by omega
  rw [if_neg k5, if_neg k5, if_neg k6, if_neg k6]
  by_cases k4 : k = 4
  · rw [if_pos k4, if_pos k4]
    have : (c + 1) * l.length ≤ 4 * l.length := Nat.mul_le_mul_right _ (by omega)
    rw [AL.bd per_hs hp c i (by unfold endW; omega)]
    exact not_congr (AL.congr (fun j => ⟨fun h => ⟨h, trivial⟩, fun h => h.1⟩) c i)
  rw [if_neg k4, if_neg k4, ge_bd per_hs.not hp hM]
  exact ⟨fun h j hj _ => h j hj, fun h j hj => h j hj trivial⟩
end
section
variable {pt : LPat} {s l : List Nat} {i to : Nat}
abbrev cnt (pt : LPat) : Nat := pt.2.2.2.2.2.2.toNat
abbrev hP (pt : LPat) (s l : List Nat) : Nat → Prop := Hs s l pt.2.2.1.toNat
abbrev hS (pt : LPat) (s l : List Nat) : Nat → Prop := Hs s l pt.2.2.2.1.toNat
abbrev hQ (pt : LPat) (s l : List Nat) : Nat → Prop := Hs s l pt.2.2.2.2.1.toNat
abbrev hR (pt : LPat) (s l : List Nat) : Nat → Prop := Hs s l pt.2.2.2.2.2.1.toNat
structure Good6 (pt : LPat) (l : List Nat) : Prop where
  k : 1 ≤ pt.1 ∧ pt.1 ≤ 6
  sc : 1 ≤ pt.2.1 ∧ pt.2.1 ≤ 5
  c : 0 ≤ pt.2.2.2.2.2.2 ∧ pt.2.2.2.2.2.2 ≤ 3
  p : 0 < l.length
theorem ok_fin (h : Good6 pt l) (hto : to < endW s l) : spOk pt s l (endW s l) (i, to) = true ↔ Span pt.1 (hP pt s l) (hS pt s l) (· < to) (cnt pt) i := by
  unfold spOk
  rw [if_neg (by dsimp only; omega)]
  unfold keepsL
  have := keeps_span (s := s) (l := l) (e := endW s l) (P := pt.2.2.1.toNat) (S := pt.2.2.2.1.toNat) (to := to) (i := i) (c := cnt pt) h.k (.inr (Nat.le_of_lt hto)) (.inr rfl)
  rw [show ((cnt pt : Nat) : Int) = pt.2.2.2.2.2.2 from Int.toNat_of_nonneg h.c.1] at this
  exact this
theorem ok_inf (h : Good6 pt l) (hi : i ≤ s.length + l.length) : spOk pt s l (endW s l) (i, endW s l) = true ↔ Span pt.1 (hP pt s l) (hS pt s l) (fun _ => True) (cnt pt) i := by
  unfold spOk
  by_cases k6 : pt.1 = 6
  · rw [if_pos ⟨rfl, k6⟩]
    dsimp only
    rw [ans_go (endW s l - i) i (Nat.le_refl _)]
    unfold Span
    rw [k6, if_neg (by decide), if_neg (by decide), if_neg (by decide), if_pos rfl]
    have hper : PerP (fun j => hP pt s l j → ∃ m, j ≤ m ∧ hS pt s l m) s.length l.length := fun j hj =>
      imp_congr (per_hs j hj) (AL.per per_hs 0 j hj)
    have e1 : (∀ j, i ≤ j → True → hP pt s l j → ∃ m, j ≤ m ∧ True ∧ hS pt s l m) ↔ ∀ j, i ≤ j → (hP pt s l j → ∃ m, j ≤ m ∧ hS pt s l m) := by simp
    rw [e1, ← ge_bd hper h.p (M := endW s l) (by unfold endW; omega)]
    refine forall_congr' fun j => forall_congr' fun h1 => forall_congr' fun h2 => forall_congr' fun h3 => ?_
    have e2 := ex_bd (i := j) (per_hs (s := s) (l := l) (a := pt.2.2.2.1.toNat)) h.p (M := endW s l + l.length) (by unfold endW at h2 ⊢; omega)
    rw [← e2, ← firstL_lt (e := endW s l + l.length) (by omega) (Nat.le_refl _)]
    have := firstL_spec (s := s) (l := l) (a := pt.2.2.2.1.toNat) (i := j) (e := endW s l + l.length) (by omega)
    omega
  · rw [if_neg (fun hc => k6 hc.2)]
    unfold keepsL
    have := keeps_span (s := s) (l := l) (e := endW s l) (P := pt.2.2.1.toNat) (S := pt.2.2.2.1.toNat) (to := endW s l) (i := i) (c := cnt pt) h.k (.inr (Nat.le_refl _)) (.inr rfl)
    rw [show ((cnt pt : Nat) : Int) = pt.2.2.2.2.2.2 from Int.toNat_of_nonneg h.c.1] at this
    have hk := h.k
    have hc := h.c
    exact this.trans (span_end ⟨hk.1, by omega⟩ (by show pt.2.2.2.2.2.2.toNat ≤ 3; omega) h.p hi)
theorem good6 (h : chkP pt = 0) (hw : 0 < l.length) : Good6 pt l := by
  unfold chkP at h
  split at h
  · cases h
  · split at h
    · cases h
    · split at h
      · cases h
      · exact ⟨by omega, by omega, by omega, hw⟩
theorem up_at {weak : Bool} {n : Nat} : sem (lat s l) (upToF pt.1 pt.2.2.1 pt.2.2.2.1 pt.2.2.2.2.2.1 n weak) i ↔ UP pt.1 (hP pt s l) (hS pt s l) (hR pt s l) weak n i := up_sem
theorem gl_at {n : Nat} : sem (lat s l) (globalF pt.1 pt.2.2.1 pt.2.2.2.1 n) i ↔ Span pt.1 (hP pt s l) (hS pt s l) (fun _ => True) n i :=
  global_sem.trans (up_span ⟨fun _ _ _ h => h, .inr ⟨rfl, fun _ => trivial⟩⟩)
/-- the span from i to the first R -/
theorem fin_at {weak : Bool} (h : Good6 pt l) (hi : i ≤ endW s l) (hf : firstL s l (endW s l) i pt.2.2.2.2.2.1.toNat < endW s l) (hn : pt.2.1 = 2 ∨ True) {fr : Nat} (hfr : fr ≤ i) (hno : ∀ j, fr ≤ j → j < i → ¬ hR pt s l j) :
    sem (lat s l) (upToF pt.1 pt.2.2.1 pt.2.2.2.1 pt.2.2.2.2.2.1 (cnt pt) weak) fr ↔ spOk pt s l (endW s l) (fr, firstL s l (endW s l) i pt.2.2.2.2.2.1.toNat) = true := by
  obtain ⟨h1, h2, h3, h4⟩ := firstL_spec (s := s) (l := l) (a := pt.2.2.2.2.2.1.toNat) hi
  rw [up_at, ok_fin h hf]
  refine up_span ⟨fun j k1 k2 => ?_, .inl ⟨_, by omega, h3 hf, fun _ => Iff.rfl⟩⟩
  by_cases hj : j < i
  · exact hno j k1 hj
  · exact h4 j (by omega) k2
theorem inf_at (h : Good6 pt l) (hi : i ≤ s.length + l.length) (hno : ∀ j, i ≤ j → ¬ hR pt s l j) :
    sem (lat s l) (upToF pt.1 pt.2.2.1 pt.2.2.2.1 pt.2.2.2.2.2.1 (cnt pt) true) i ↔ spOk pt s l (endW s l) (i, endW s l) = true := by
  rw [up_at, ok_inf h hi]
  exact up_span ⟨fun j k1 _ => hno j k1, .inr ⟨rfl, fun _ => trivial⟩⟩
/-- where the first R is not met there is none -/
theorem none_at (h : Good6 pt l) {a : Nat} (hi : i ≤ s.length + l.length) (hf : ¬ firstL s l (endW s l) i a < endW s l) : ∀ j, i ≤ j → ¬ Hs s l a j := by
  have := not_congr (firstL_lt (s := s) (l := l) (a := a) (i := i) (e := endW s l) (to := endW s l) (by unfold endW; omega) (Nat.le_refl _))
  rw [ex_bd per_hs h.p (by unfold endW; omega)] at this
  exact fun j hj hr => this.1 hf ⟨j, hj, hr⟩
theorem dwyer_means (hT : chkP pt = 0) (hW : chkW s l = 0) : (meansL pt s l).1 = true ↔ sem (lat s l) (dwyF pt) 0 := by
  have h := good6 (l := l) hT (chkW_ok hW).2
  have hN : s.length + l.length ≤ endW s l := by unfold endW; omega
  rw [meansL_eq hT hW]
  unfold spansN dwyF
  dsimp only
  by_cases s1 : pt.2.1 = 1
  · rw [if_pos s1, if_neg (by omega), if_neg (by omega), if_neg (by omega), if_neg (by omega), gl_at]
    simp only [List.all_cons, List.all_nil, Bool.and_true]
    exact ok_inf h (Nat.zero_le _)
  rw [if_neg s1]
  by_cases s2 : pt.2.1 = 2
  · rw [if_pos s2, if_pos s2, sem6, not_sem, some_sem]
    obtain ⟨h1, h2, h3, h4⟩ := firstL_spec (s := s) (l := l) (a := pt.2.2.2.2.2.1.toNat) (i := 0) (e := endW s l) (Nat.zero_le _)
    by_cases hf : firstL s l (endW s l) 0 pt.2.2.2.2.2.1.toNat = endW s l
    · rw [if_pos hf]
      refine ⟨fun _ => .inl fun ⟨j, _, hj⟩ => none_at h (Nat.zero_le _) (by omega) j (Nat.zero_le _) (leaf_sem.1 hj), fun _ => rfl⟩
    · rw [if_neg hf]
      simp only [List.all_cons, List.all_nil, Bool.and_true]
      rw [← fin_at (weak := false) h (Nat.zero_le _) (by omega) (.inr trivial) (Nat.le_refl 0) (fun j _ hj => by omega)]
      exact ⟨.inr, fun x => x.resolve_left fun hn => hn ⟨_, Nat.zero_le _, leaf_sem.2 (h3 (by omega))⟩⟩
  rw [if_neg s2, if_neg s2]
  by_cases s3 : pt.2.1 = 3
  · rw [if_pos s3, if_pos s3, sem6, always_sem, sem8]
    obtain ⟨h1, h2, h3, h4⟩ := firstL_spec (s := s) (l := l) (a := pt.2.2.2.2.1.toNat) (i := 0) (e := endW s l) (Nat.zero_le _)
    by_cases hf : firstL s l (endW s l) 0 pt.2.2.2.2.1.toNat < endW s l
    · rw [if_pos hf]
      simp only [List.all_cons, List.all_nil, Bool.and_true]
      have hq := h3 hf
      have hlt : firstL s l (endW s l) 0 pt.2.2.2.2.1.toNat < s.length + l.length := by
        obtain ⟨x, x1, x2, x3, x4⟩ := least_bd (i := 0) (per_hs (s := s) (l := l) (a := pt.2.2.2.2.1.toNat)) h.p ⟨_, Nat.zero_le _, hq⟩
        apply Nat.lt_of_not_le
        intro hle
        exact h4 x (Nat.zero_le _) (by omega) x3
      rw [ok_inf h (Nat.le_of_lt hlt), ← gl_at]
      constructor
      · intro hg
        refine .inr ⟨_, Nat.zero_le _, sem5.2 ⟨leaf_sem.2 hq, hg⟩, fun m _ hm => sem4.2 fun hs => h4 m (Nat.zero_le _) hm (leaf_sem.1 hs)⟩
      · rintro (hn | ⟨j, _, hj, hjm⟩)
        · exact absurd (leaf_sem.2 hq) (sem4.1 (hn _ (Nat.zero_le _)))
        · rw [sem5] at hj
          have : j = firstL s l (endW s l) 0 pt.2.2.2.2.1.toNat := by
            rcases Nat.lt_trichotomy j (firstL s l (endW s l) 0 pt.2.2.2.2.1.toNat) with hlt | he | hgt
            · exact absurd (leaf_sem.1 hj.1) (h4 j (Nat.zero_le _) hlt)
            · exact he
            · exact absurd (leaf_sem.2 hq) (sem4.1 (hjm _ (Nat.zero_le _) hgt))
          rw [← this]; exact hj.2
    · rw [if_neg hf]
      exact ⟨fun _ => .inl fun j _ => sem4.2 fun hj => none_at h (Nat.zero_le _) hf j (Nat.zero_le _) (leaf_sem.1 hj), fun _ => rfl⟩
  rw [if_neg s3, if_neg s3]
  have hall : ∀ (f : Nat → List (Nat × Nat)) (q : Nat × Nat → Bool) (N : Nat), (((List.range N).flatMap f).all q = true) ↔ ∀ j, j < N → (f j).all q = true := by
    intro f q N
    rw [List.all_eq_true]
    constructor
    · intro x j hj
      rw [List.all_eq_true]
      exact fun y hy => x y (List.mem_flatMap.2 ⟨j, List.mem_range.2 hj, hy⟩)
    · intro x y hy
      obtain ⟨j, hj, hy⟩ := List.mem_flatMap.1 hy
      exact List.all_eq_true.1 (x j (List.mem_range.1 hj)) y hy
  have hsc := h.sc
  by_cases s4 : pt.2.1 = 4
  · rw [if_pos s4, hall, semG h.p (Nat.le_refl _)]
    refine forall_congr' fun j => forall_congr' fun hj => ?_
    rw [sem6, not_sem, sem5, sem5, not_sem, leaf_sem, leaf_sem, some_sem]
    unfold spAt
    by_cases hc : hasL s l j pt.2.2.2.2.1.toNat = true ∧ hasL s l j pt.2.2.2.2.2.1.toNat = false
    · rw [if_pos hc]
      have c1 := has_iff.1 hc.1
      have c2 := has_no.1 hc.2
      by_cases hf : firstL s l (endW s l) (j + 1) pt.2.2.2.2.2.1.toNat < endW s l
      · rw [if_pos (.inl hf)]
        simp only [List.all_cons, List.all_nil, Bool.and_true]
        rw [← fin_at (weak := false) h (by omega) hf (.inr trivial) (fr := j) (by omega) (fun m h1 h2 => (show m = j by omega) ▸ c2)]
        have hr := (firstL_spec (s := s) (l := l) (a := pt.2.2.2.2.2.1.toNat) (i := j + 1) (e := endW s l) (by omega))
        exact ⟨.inr, fun x => x.resolve_left fun hn => hn ⟨⟨c1, c2⟩, _, by omega, leaf_sem.2 (hr.2.2.1 hf)⟩⟩
      · rw [if_neg (by omega)]
        refine ⟨fun _ => .inl ?_, fun _ => rfl⟩
        rintro ⟨_, x, x1, x2⟩
        rcases Nat.lt_or_eq_of_le x1 with hlt | he
        · exact none_at h (by omega) hf x hlt (leaf_sem.1 x2)
        · subst he; exact c2 (leaf_sem.1 x2)
    · rw [if_neg hc]
      refine ⟨fun _ => .inl fun x => hc ⟨has_iff.2 x.1.1, has_no.2 x.1.2⟩, fun _ => rfl⟩
  · have s5 : pt.2.1 = 5 := by omega
    rw [if_neg s4, if_pos s5, hall, semG h.p (Nat.le_refl _)]
    refine forall_congr' fun j => forall_congr' fun hj => ?_
    rw [sem6, not_sem, sem5, not_sem, leaf_sem, leaf_sem]
    unfold spAt
    by_cases hc : hasL s l j pt.2.2.2.2.1.toNat = true ∧ hasL s l j pt.2.2.2.2.2.1.toNat = false
    · rw [if_pos hc, if_pos (.inr s5)]
      have c1 := has_iff.1 hc.1
      have c2 := has_no.1 hc.2
      simp only [List.all_cons, List.all_nil, Bool.and_true]
      have hcc : (¬ (At (lat s l) pt.2.2.2.2.1 j ∧ ¬ At (lat s l) pt.2.2.2.2.2.1 j) ∨ sem (lat s l) (upToF pt.1 pt.2.2.1 pt.2.2.2.1 pt.2.2.2.2.2.1 (cnt pt) true) j) ↔ sem (lat s l) (upToF pt.1 pt.2.2.1 pt.2.2.2.1 pt.2.2.2.2.2.1 (cnt pt) true) j :=
        ⟨fun x => x.resolve_left fun hn => hn ⟨c1, c2⟩, .inr⟩
      refine Iff.trans ?_ hcc.symm
      by_cases hf : firstL s l (endW s l) (j + 1) pt.2.2.2.2.2.1.toNat < endW s l
      · exact (fin_at (weak := true) h (by omega) hf (.inr trivial) (fr := j) (by omega) (fun m h1 h2 => (show m = j by omega) ▸ c2)).symm
      · have hfe : firstL s l (endW s l) (j + 1) pt.2.2.2.2.2.1.toNat = endW s l := by
          have := firstL_le (s := s) (l := l) (e := endW s l) (i := j + 1) (a := pt.2.2.2.2.2.1.toNat) (by omega)
          omega
        rw [hfe]
        refine (inf_at h (by omega) (fun x x1 => ?_)).symm
        rcases Nat.lt_or_eq_of_le x1 with hlt | he
        · exact none_at h (by omega) hf x hlt
        · subst he; exact c2
    · rw [if_neg hc]
      refine ⟨fun _ => .inl fun x => hc ⟨has_iff.2 x.1, has_no.2 x.2⟩, fun _ => rfl⟩
end
end Go.Proofs.Ythojdcbpglipeaa
