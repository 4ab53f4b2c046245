/-
  Ways through a graph that meet sets again and again: plain lists, no program in sight.
-/
import Derived.Test.YthefpigolikmeaaRch
set_option linter.unusedVariables false
set_option linter.unusedSimpArgs false
namespace Go.Proofs.Ythefpigolikmeaa

/-- n steps of E along p -/
structure Wlk (E : Nat → Nat → Prop) (p : Nat → Nat) (n a b : Nat) : Prop where
  first : p 0 = a
  last : p n = b
  step : ∀ i, i < n → E (p i) (p (i + 1))
def glue (p q : Nat → Nat) (n : Nat) : Nat → Nat := fun i => if i < n then p i else q (i - n)
theorem glue_lt {p q : Nat → Nat} {n i : Nat} (h : i < n) : glue p q n i = p i := by unfold glue; rw [if_pos h]
theorem glue_ge {p q : Nat → Nat} {n i : Nat} (h : n ≤ i) : glue p q n i = q (i - n) := by unfold glue; rw [if_neg (by omega)]
theorem glue_le {p q : Nat → Nat} {n i : Nat} (h : i ≤ n) (he : p n = q 0) : glue p q n i = p i := by
  by_cases hi : i < n
  · exact glue_lt hi
  · obtain rfl : i = n := by omega
    rw [glue_ge (Nat.le_refl _), Nat.sub_self, he]
theorem Wlk.trans {E : Nat → Nat → Prop} {p q : Nat → Nat} {n m a b c : Nat} (h : Wlk E p n a b) (k : Wlk E q m b c) : Wlk E (glue p q n) (n + m) a c := by
  have he : p n = q 0 := h.last.trans k.first.symm
  refine ⟨(glue_le (Nat.zero_le _) he).trans h.first, ?_, fun i hi => ?_⟩
  · rw [glue_ge (by omega), show n + m - n = m by omega]; exact k.last
  · by_cases hn : i < n
    · rw [glue_lt hn, glue_le (i := i + 1) (Nat.succ_le_of_lt hn) he]; exact h.step i hn
    · rw [glue_ge (by omega), glue_ge (by omega), show i + 1 - n = (i - n) + 1 by omega]
      exact k.step _ (by omega)
def Rc (E : Nat → Nat → Prop) (a b : Nat) : Prop := ∃ p n, Wlk E p n a b
theorem Rc.refl {E : Nat → Nat → Prop} (a : Nat) : Rc E a a := ⟨fun _ => a, 0, rfl, rfl, fun i h => absurd h (by omega)⟩
theorem Rc.trans {E : Nat → Nat → Prop} {a b c : Nat} : Rc E a b → Rc E b c → Rc E a c
  | ⟨_, _, h⟩, ⟨_, _, k⟩ => ⟨_, _, h.trans k⟩
theorem Wlk.one {E : Nat → Nat → Prop} {a b : Nat} (h : E a b) : Wlk E (fun i => if i = 0 then a else b) 1 a b :=
  ⟨rfl, rfl, fun i hi => by obtain rfl : i = 0 := by omega
                            exact h⟩
theorem Rc.one {E : Nat → Nat → Prop} {a b : Nat} (h : E a b) : Rc E a b := ⟨_, _, Wlk.one h⟩
theorem Rc.of_way {E : Nat → Nat → Prop} {r : Nat → Nat} (h : ∀ i, E (r i) (r (i + 1))) {i j : Nat} (hij : i ≤ j) : Rc E (r i) (r j) :=
  ⟨fun k => r (i + k), j - i, by simp, by rw [show i + (j - i) = j by omega], fun k _ => by
    have := h (i + k)
    rwa [show i + k + 1 = i + (k + 1) by omega] at this⟩
theorem Rc.mono {E E' : Nat → Nat → Prop} (h : ∀ a b, E a b → E' a b) {a b : Nat} : Rc E a b → Rc E' a b
  | ⟨p, n, k⟩ => ⟨p, n, k.first, k.last, fun i hi => h _ _ (k.step i hi)⟩

theorem inf_often : ∀ (N : Nat) (r : Nat → Nat), (∀ i, r i < N) → ∃ v, v < N ∧ ∀ i, ∃ j, i ≤ j ∧ r j = v
  | 0, r, h => absurd (h 0) (by omega)
  | N + 1, r, h => by
    by_cases hv : ∀ i, ∃ j, i ≤ j ∧ r j = N
    · exact ⟨N, by omega, hv⟩
    · obtain ⟨i0, h0⟩ := Classical.not_forall.1 hv
      have h1 : ∀ j, i0 ≤ j → r j ≠ N := fun j hj he => h0 ⟨j, hj, he⟩
      obtain ⟨v, hv1, hv2⟩ := inf_often N (fun k => r (i0 + k)) (fun k => by
        have a := h (i0 + k); have b := h1 (i0 + k) (by omega); omega)
      refine ⟨v, by omega, fun i => ?_⟩
      obtain ⟨j, hj1, hj2⟩ := hv2 i
      exact ⟨i0 + j, by omega, hj2⟩

/-- a round from v that meets all of some sets -/
theorem loop_all {E : Nat → Nat → Prop} {v u : Nat} (hu : E v u) (hb : Rc E u v) : ∀ Ps : List (Nat → Prop), (∀ P ∈ Ps, ∃ x, P x ∧ Rc E v x ∧ Rc E x v) →
    ∃ p n, 0 < n ∧ Wlk E p n v v ∧ ∀ P ∈ Ps, ∃ i, i < n ∧ P (p i)
  | [], _ => by
    obtain ⟨q, m, hq⟩ := hb
    exact ⟨_, _, by omega, (Wlk.one hu).trans hq, fun P hP => by cases hP⟩
  | P :: Ps, h => by
    obtain ⟨p, n, hn, hp, hall⟩ := loop_all hu hb Ps (fun Q hQ => h Q (by simp [hQ]))
    obtain ⟨x, hx, ⟨q1, n1, h1⟩, ⟨q2, n2, h2⟩⟩ := h P (by simp)
    refine ⟨glue p (glue q1 q2 n1) n, n + (n1 + n2), by omega, hp.trans (h1.trans h2), fun Q hQ => ?_⟩
    rcases List.mem_cons.1 hQ with rfl | hQ
    · by_cases h0 : n2 = 0
      · subst h0
        have hxv : x = v := h2.first.symm.trans h2.last
        exact ⟨0, by omega, by rw [glue_lt hn, hp.first, ← hxv]; exact hx⟩
      · refine ⟨n + n1, by omega, ?_⟩
        rw [glue_ge (by omega), show n + n1 - n = n1 by omega, glue_ge (Nat.le_refl _), Nat.sub_self, h2.first]
        exact hx
    · obtain ⟨i, hi, hq⟩ := hall Q hQ
      exact ⟨i, by omega, by rw [glue_lt hi]; exact hq⟩

/-- a way without end from a that meets each of some sets again and again -/
def Way8 (E : Nat → Nat → Prop) (Ps : List (Nat → Prop)) (r : Nat → Nat) : Prop := (∀ i, E (r i) (r (i + 1))) ∧ ∀ P ∈ Ps, ∀ i, ∃ j, i ≤ j ∧ P (r j)
def Core (E : Nat → Nat → Prop) (Ps : List (Nat → Prop)) (v : Nat) : Prop := (∃ u, E v u ∧ Rc E u v) ∧ ∀ P ∈ Ps, ∃ x, P x ∧ Rc E v x ∧ Rc E x v
theorem way8_core {E : Nat → Nat → Prop} {Ps : List (Nat → Prop)} {N : Nat} {r : Nat → Nat} (hN : ∀ i, r i < N) (h : Way8 E Ps r) : ∃ v, Rc E (r 0) v ∧ Core E Ps v ∧ ∃ i, r i = v := by
  obtain ⟨v, _, hv⟩ := inf_often N r hN
  obtain ⟨i0, _, h0⟩ := hv 0
  refine ⟨v, by rw [← h0]; exact Rc.of_way h.1 (Nat.zero_le _), ⟨⟨r (i0 + 1), by rw [← h0]; exact h.1 i0, ?_⟩, fun P hP => ?_⟩, i0, h0⟩
  · obtain ⟨j, hj, hr⟩ := hv (i0 + 1)
    rw [← hr]; exact Rc.of_way h.1 hj
  · obtain ⟨j, hj, hr⟩ := h.2 P hP i0
    obtain ⟨k, hk, hkr⟩ := hv j
    exact ⟨r j, hr, by rw [← h0]; exact Rc.of_way h.1 hj, by rw [← hkr]; exact Rc.of_way h.1 hk⟩
/-- a stem, and a round again and again -/
def lassoW (q p : Nat → Nat) (m n : Nat) : Nat → Nat := glue q (fun i => p (i % n)) m
theorem lassoW_step {E : Nat → Nat → Prop} {q p : Nat → Nat} {m n a v : Nat} (hn : 0 < n) (hq : Wlk E q m a v) (hp : Wlk E p n v v) : ∀ i, E (lassoW q p m n i) (lassoW q p m n (i + 1)) := by
  intro i
  have he : q m = (fun i => p (i % n)) 0 := by show _ = p (0 % n); rw [Nat.zero_mod, hp.first, hq.last]
  unfold lassoW
  by_cases h : i < m
  · rw [glue_lt h, glue_le (q := fun i => p (i % n)) (i := i + 1) (Nat.succ_le_of_lt h) he]; exact hq.step i h
  · rw [glue_ge (by omega), glue_ge (by omega), show i + 1 - m = (i - m) + 1 by omega]
    generalize i - m = k
    have hlt := Nat.mod_lt k hn
    have hs := hp.step (k % n) hlt
    show E (p (k % n)) (p ((k + 1) % n))
    by_cases h1 : k % n + 1 = n
    · rw [h1, hp.last] at hs
      have : (k + 1) % n = 0 := by rw [Nat.add_mod]; by_cases hn1 : n = 1
                                   · subst hn1; omega
                                   · rw [Nat.mod_eq_of_lt (show 1 < n by omega), h1, Nat.mod_self]
      rw [this, hp.first]; exact hs
    · have : (k + 1) % n = k % n + 1 := by
        rw [Nat.add_mod, Nat.mod_eq_of_lt (show 1 < n by omega), Nat.mod_eq_of_lt (by omega)]
      rw [this]; exact hs
theorem core_way8 {E : Nat → Nat → Prop} {Ps : List (Nat → Prop)} {a v : Nat} (hr : Rc E a v) (h : Core E Ps v) : ∃ r, r 0 = a ∧ Way8 E Ps r := by
  obtain ⟨⟨u, hu, hb⟩, hP⟩ := h
  obtain ⟨p, n, hn, hp, hall⟩ := loop_all hu hb Ps hP
  obtain ⟨q, m, hq⟩ := hr
  refine ⟨lassoW q p m n, ?_, lassoW_step hn hq hp, fun P hP i => ?_⟩
  · have he : q m = (fun i => p (i % n)) 0 := by show _ = p (0 % n); rw [Nat.zero_mod, hp.first, hq.last]
    show glue q (fun i => p (i % n)) m 0 = a
    rw [glue_le (q := fun i => p (i % n)) (Nat.zero_le _) he]; exact hq.first
  · obtain ⟨k, hk, hx⟩ := hall P hP
    refine ⟨m + (i * n + k), by have := Nat.le_mul_of_pos_right i hn; omega, ?_⟩
    unfold lassoW
    rw [glue_ge (by omega), show m + (i * n + k) - m = i * n + k by omega]
    show P (p ((i * n + k) % n))
    rw [Nat.add_comm, Nat.add_mul_mod_self_right, Nat.mod_eq_of_lt hk]
    exact hx
theorem fair_iff {E : Nat → Nat → Prop} {Ps : List (Nat → Prop)} {N a : Nat} (hN : ∀ u v, E u v → v < N) (ha : a < N) : (∃ r, r 0 = a ∧ Way8 E Ps r) ↔ ∃ v, Rc E a v ∧ Core E Ps v := by
  constructor
  · rintro ⟨r, h0, h⟩
    obtain ⟨v, h1, h2, _⟩ := way8_core (N := N) (fun i => by
      cases i with
      | zero => rw [h0]; exact ha
      | succ i => exact hN _ _ (h.1 i)) h
    exact ⟨v, by rw [← h0]; exact h1, h2⟩
  · rintro ⟨v, h1, h2⟩
    exact core_way8 h1 h2

/- GRAPHS OF LISTS -/
def Eg (g : Graph) (u v : Nat) : Prop := (v : Int) ∈ g.getD u []
theorem Eg.lt {g : Graph} (hg : okG g) {u v : Nat} (h : Eg g u v) : v < g.length := by have := okG_row hg u _ h; omega
theorem rch_rc {g : Graph} (hg : okG g) {f : List Int} (hf : ∀ x ∈ f, 0 ≤ x) {b : Nat} : Rch g f b ↔ ∃ a : Nat, (a : Int) ∈ f ∧ Rc (Eg g) a b := by
  constructor
  · intro h
    induction h with
    | base hx => rename_i x; exact ⟨x.toNat, by rw [show ((x.toNat : Nat) : Int) = x by have := hf x hx; omega]; exact hx, Rc.refl _⟩
    | step _ hx ih =>
      obtain ⟨a, h1, h2⟩ := ih
      refine ⟨a, h1, h2.trans (Rc.one ?_)⟩
      rename_i n x _
      have := (okG_row hg n x hx).1
      show ((x.toNat : Nat) : Int) ∈ _
      rw [show ((x.toNat : Nat) : Int) = x by omega]; exact hx
  · rintro ⟨a, h1, p, n, h⟩
    have : ∀ i, i ≤ n → Rch g f (p i) := by
      intro i
      induction i with
      | zero => intro _; rw [h.first]; exact Rch.base (x := (a : Int)) h1
      | succ i ih => intro hi; exact Rch.step (x := (p (i + 1) : Int)) (ih (by omega)) (h.step i (by omega))
    rw [← h.last]; exact this n (Nat.le_refl _)
theorem rch1 {g : Graph} (hg : okG g) {a b : Nat} : Rch g [(a : Int)] b ↔ Rc (Eg g) a b := by
  rw [rch_rc hg (fun x hx => by simp at hx; omega)]
  constructor
  · rintro ⟨c, hc, h⟩
    simp at hc
    obtain rfl : c = a := by omega
    exact h
  · exact fun h => ⟨a, by simp, h⟩
end Go.Proofs.Ythefpigolikmeaa
