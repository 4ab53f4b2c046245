/-
  Package declare: the formula of a template means what the template means. Plain law, no program in sight.
-/
import Derived.Test.YtdepjllboiolpaaDcForm
import Derived.Test.YtdepjllboiolpaaDeclare5
import Derived.Test.YtdepjllboiolpaaPer
set_option linter.unusedVariables false
set_option linter.unusedSimpArgs false
namespace Go.Proofs.Ytdepjllboiolpaa
open Go.RowKit

section
variable {L : Nat → Nat} {i : Nat} {n a b : Int}
def Sn (L : Nat → Nat) (j : Nat) : Prop := ¬ (L j >>> 63 &&& 1 = 1)
def Ev (L : Nat → Nat) (a : Nat) (j : Nat) : Prop := L j >>> a &&& 1 = 1 ∧ Sn L j
theorem ev_sem : sem L (eventL n) i ↔ Ev L n.toNat i := by unfold eventL Ev Sn; rw [sem5, sem3, sem4, sem3]; rfl
end

section
variable {t : LTpl} {s l : List Nat}
/-- the seen places of a stretch -/
def seenI (t : LTpl) (s l : List Nat) (j c : Nat) : List (Bool × Bool) := (List.range' j c).flatMap (seenAt t s l)
theorem seenR_eq (k : Nat) : seenR t s l k = seenI t s l 0 k := by unfold seenR seenI; rw [List.range_eq_range']
theorem seenI_add (j c d : Nat) : seenI t s l j (c + d) = seenI t s l j c ++ seenI t s l (j + c) d := by
  unfold seenI; rw [← List.range'_append_1, List.flatMap_append]
theorem seenI_cons (j c : Nat) : seenI t s l j (c + 1) = seenAt t s l j ++ seenI t s l (j + 1) c := by
  unfold seenI; rw [List.range'_succ, List.flatMap_cons]
theorem bit_iff {a j : Nat} : bitL s l j a = true ↔ lat s l j >>> a &&& 1 = 1 := by unfold bitL; rw [decide_eq_true_eq]
abbrev eA (t : LTpl) (s l : List Nat) : Nat → Prop := Ev (lat s l) t.2.1.toNat
abbrev eB (t : LTpl) (s l : List Nat) : Nat → Prop := Ev (lat s l) t.2.2.1.toNat
theorem sn_iff {j : Nat} : Sn (lat s l) j ↔ bitL s l j 63 = false := by unfold Sn; rw [← bit_iff, Bool.not_eq_true]
theorem seenAt_no {j : Nat} (h : ¬ Sn (lat s l) j) : seenAt t s l j = [] := by
  unfold seenAt
  rw [if_pos]
  rw [sn_iff, Bool.not_eq_false] at h; exact h
theorem seenAt_yes {j : Nat} (h : Sn (lat s l) j) : seenAt t s l j = [(bitL s l j t.2.1.toNat, bitL s l j t.2.2.1.toNat)] := by
  unfold seenAt
  rw [if_neg]
  rw [sn_iff] at h; simp [h]
theorem eA_iff {j : Nat} (h : Sn (lat s l) j) : eA t s l j ↔ bitL s l j t.2.1.toNat = true := by unfold eA Ev; rw [bit_iff]; exact ⟨fun x => x.1, fun x => ⟨x, h⟩⟩
theorem eB_iff {j : Nat} (h : Sn (lat s l) j) : eB t s l j ↔ bitL s l j t.2.2.1.toNat = true := by unfold eB Ev; rw [bit_iff]; exact ⟨fun x => x.1, fun x => ⟨x, h⟩⟩
theorem eA_no {j : Nat} (h : ¬ Sn (lat s l) j) : ¬ eA t s l j := fun x => h x.2
theorem eB_no {j : Nat} (h : ¬ Sn (lat s l) j) : ¬ eB t s l j := fun x => h x.2
theorem cons_iff {P Q : Nat → Prop} {j c : Nat} : (∃ i, j ≤ i ∧ i < j + (c + 1) ∧ P i ∧ ∀ m, j ≤ m → m < i → Q m) ↔ P j ∨ (Q j ∧ ∃ i, j + 1 ≤ i ∧ i < j + 1 + c ∧ P i ∧ ∀ m, j + 1 ≤ m → m < i → Q m) := by
  constructor
  · rintro ⟨i, h1, h2, h3, h4⟩
    by_cases h : i = j
    · subst h; exact .inl h3
    · exact .inr ⟨h4 j (Nat.le_refl _) (by omega), i, by omega, by omega, h3, fun m hm hm2 => h4 m (by omega) hm2⟩
  · rintro (h | ⟨hq, i, h1, h2, h3, h4⟩)
    · exact ⟨j, Nat.le_refl _, by omega, h, fun m h1 h2 => by omega⟩
    · refine ⟨i, by omega, by omega, h3, fun m hm hm2 => ?_⟩
      by_cases h : m = j
      · subst h; exact hq
      · exact h4 m (by omega) hm2
theorem all_cons {P : Nat → Prop} {j c : Nat} : (∀ m, j ≤ m → m < j + (c + 1) → P m) ↔ P j ∧ ∀ m, j + 1 ≤ m → m < j + 1 + c → P m := by
  constructor
  · exact fun h => ⟨h j (Nat.le_refl _) (by omega), fun m h1 h2 => h m (by omega) (by omega)⟩
  · rintro ⟨h0, h⟩ m h1 h2
    by_cases hm : m = j
    · subst hm; exact h0
    · exact h m (by omega) (by omega)
theorem any_A : ∀ c j, ((seenI t s l j c).any bA = true ↔ ∃ i, j ≤ i ∧ i < j + c ∧ eA t s l i ∧ ∀ m, j ≤ m → m < i → True)
  | 0, j => by simp [seenI]; intro x h1 h2; omega
  | c + 1, j => by
    rw [seenI_cons, cons_iff, List.any_append, Bool.or_eq_true, any_A c (j + 1)]
    refine or_congr ?_ (by simp)
    by_cases h : Sn (lat s l) j
    · rw [seenAt_yes h, eA_iff h]; simp [bA]
    · rw [seenAt_no h]; simp [eA_no h]
theorem any_B : ∀ c j, ((seenI t s l j c).any bB = true ↔ ∃ i, j ≤ i ∧ i < j + c ∧ eB t s l i ∧ ∀ m, j ≤ m → m < i → True)
  | 0, j => by simp [seenI]; intro x h1 h2; omega
  | c + 1, j => by
    rw [seenI_cons, cons_iff, List.any_append, Bool.or_eq_true, any_B c (j + 1)]
    refine or_congr ?_ (by simp)
    by_cases h : Sn (lat s l) j
    · rw [seenAt_yes h, eB_iff h]; simp [bB]
    · rw [seenAt_no h]; simp [eB_no h]
theorem alt_I : ∀ c j, (altB (seenI t s l j c) = true ↔ ∃ i, j ≤ i ∧ i < j + c ∧ eB t s l i ∧ ∀ m, j ≤ m → m < i → ¬ eA t s l m)
  | 0, j => by simp [seenI, altB]; intro x h1 h2; omega
  | c + 1, j => by
    rw [seenI_cons, cons_iff, ← alt_I c (j + 1)]
    by_cases h : Sn (lat s l) j
    · rw [seenAt_yes h, eB_iff h, eA_iff h]
      simp only [List.cons_append, List.nil_append, altB]
      cases bitL s l j t.2.2.1.toNat <;> cases bitL s l j t.2.1.toNat <;> simp
    · rw [seenAt_no h]; simp [eB_no h, eA_no h]
theorem prec_I : ∀ c j, (precB (seenI t s l j c) = true ↔ (∃ i, j ≤ i ∧ i < j + c ∧ eA t s l i ∧ ∀ m, j ≤ m → m < i → ¬ eB t s l m) ∨ ∀ m, j ≤ m → m < j + c → ¬ eB t s l m)
  | 0, j => by simp [seenI, precB]; exact .inr fun m h1 h2 => by omega
  | c + 1, j => by
    rw [seenI_cons, cons_iff, all_cons]
    have ih := prec_I c (j + 1)
    by_cases h : Sn (lat s l) j
    · rw [seenAt_yes h, eB_iff h, eA_iff h]
      simp only [List.cons_append, List.nil_append, precB]
      cases bitL s l j t.2.2.1.toNat <;> cases bitL s l j t.2.1.toNat <;> simp
      · exact ih
    · rw [seenAt_no h, List.nil_append, ih]; simp [eB_no h, eA_no h]
/-- the next seen place -/
theorem head_I (q : Bool × Bool → Bool) (Q : Nat → Prop) (hq : ∀ j, Q j → Sn (lat s l) j) (hQ : ∀ j, Sn (lat s l) j → (Q j ↔ q (bitL s l j t.2.1.toNat, bitL s l j t.2.2.1.toNat) = true)) : ∀ c j, ((∃ x r, seenI t s l j c = x :: r ∧ q x = true) ↔ ∃ i, j ≤ i ∧ i < j + c ∧ Q i ∧ ∀ m, j ≤ m → m < i → ¬ Sn (lat s l) m)
  | 0, j => by simp [seenI]; intro x h1 h2; omega
  | c + 1, j => by
    rw [seenI_cons, cons_iff, ← head_I q Q hq hQ c (j + 1)]
    by_cases h : Sn (lat s l) j
    · rw [seenAt_yes h, hQ j h]
      simp [h]
    · rw [seenAt_no h]; simp [h]
      intro hx; exact absurd (hq j hx) h
theorem nil_I : ∀ c j, (seenI t s l j c = [] ↔ ∀ m, j ≤ m → m < j + c → ¬ Sn (lat s l) m)
  | 0, j => by simp [seenI]; intro x h1 h2; omega
  | c + 1, j => by
    rw [seenI_cons, all_cons, ← nil_I c (j + 1)]
    by_cases h : Sn (lat s l) j
    · rw [seenAt_yes h]; simp [h]
    · rw [seenAt_no h]; simp [h]
/-- each place that says something new -/
theorem each_I (ok : Nat → Bool) (xs : List (Bool × Bool)) : ∀ K, (∀ j, j < K → Sn (lat s l) j → xs.getD (seenR t s l j).length (false, false) = (bitL s l j t.2.1.toNat, bitL s l j t.2.2.1.toNat)) →
    (eachB ok xs (seenR t s l K).length = true ↔ ∀ j, j < K → eA t s l j → ok (seenR t s l j).length = true)
  | 0, _ => by simp [seenR, eachB]
  | K + 1, hx => by
    have ih := each_I ok xs K (fun j hj => hx j (by omega))
    have hs : (∀ j, j < K + 1 → eA t s l j → ok (seenR t s l j).length = true) ↔ (∀ j, j < K → eA t s l j → ok (seenR t s l j).length = true) ∧ (eA t s l K → ok (seenR t s l K).length = true) := by
      constructor
      · exact fun h => ⟨fun j hj => h j (by omega), h K (by omega)⟩
      · rintro ⟨h1, h2⟩ j hj
        by_cases he : j = K
        · subst he; exact h2
        · exact h1 j (by omega)
    rw [hs, ← ih, seenR_go]
    by_cases h : Sn (lat s l) K
    · rw [seenAt_yes h, List.length_append, List.length_singleton, eachB_go, Bool.and_eq_true, hx K (by omega) h, eA_iff h]
      cases bitL s l K t.2.1.toNat <;> simp
    · rw [seenAt_no h, List.append_nil]; simp [eA_no h]
theorem seenR_split {j M : Nat} (hj : j ≤ M) : seenR t s l M = seenR t s l j ++ seenI t s l j (M - j) := by
  rw [seenR_eq, seenR_eq, show M = j + (M - j) by omega, seenI_add, Nat.zero_add, show j + (M - j) - j = M - j by omega]
theorem drop_R {j M : Nat} (hj : j ≤ M) : (seenR t s l M).drop (seenR t s l j).length = seenI t s l j (M - j) := by
  rw [seenR_split hj, List.drop_left]
theorem drop_R1 {j M : Nat} (hj : j < M) (h : Sn (lat s l) j) : (seenR t s l M).drop ((seenR t s l j).length + 1) = seenI t s l (j + 1) (M - (j + 1)) := by
  rw [← List.drop_drop, drop_R (by omega), show M - j = (M - (j + 1)) + 1 by omega, seenI_cons, seenAt_yes h]
  rfl
theorem get_R {j M : Nat} (hj : j < M) (h : Sn (lat s l) j) : (seenR t s l M).getD (seenR t s l j).length (false, false) = (bitL s l j t.2.1.toNat, bitL s l j t.2.2.1.toNat) := by
  have := drop_R (t := t) (s := s) (l := l) (j := j) (M := M) (by omega)
  rw [show M - j = (M - (j + 1)) + 1 by omega, seenI_cons, seenAt_yes h] at this
  rw [List.getD_eq_getElem?_getD, ← Nat.add_zero (seenR t s l j).length, ← List.getElem?_drop, this]
  rfl
end

section
variable {t : LTpl} {s l : List Nat}
theorem per_sn : PerP (Sn (lat s l)) s.length l.length := fun j hj => by unfold Sn; rw [lat_loop hj]
theorem per_ev {a : Nat} : PerP (Ev (lat s l) a) s.length l.length := fun j hj => by unfold Ev Sn; rw [lat_loop hj]
theorem semA {j : Nat} : sem (lat s l) (eventL t.2.1) j ↔ eA t s l j := ev_sem
theorem semB {j : Nat} : sem (lat s l) (eventL t.2.2.1) j ↔ eB t s l j := ev_sem
theorem sem63 {j : Nat} : sem (lat s l) (.mk 3 63 []) j ↔ ¬ Sn (lat s l) j := by rw [sem3]; unfold Sn; rw [Classical.not_not]; rfl
theorem semN {u : Ltl} {j : Nat} : sem (lat s l) (.mk 4 0 [u]) j ↔ ¬ sem (lat s l) u j := sem4
abbrev xsM (t : LTpl) (s l : List Nat) : List (Bool × Bool) := seenR t s l (farW s l)
theorem far_eq : farW s l = s.length + 6 * l.length := by unfold farW; omega
theorem L1A (hp : 0 < l.length) : laterB bA (xsM t s l) 0 = true ↔ sem (lat s l) (.mk 10 0 [eventL t.2.1]) 0 := by
  unfold laterB xsM
  rw [List.drop_zero, seenR_eq, any_A, semS hp (M := 0 + farW s l) (by rw [far_eq]; omega)]
  simp only [semA]
theorem L2 (hp : 0 < l.length) {j : Nat} (hj : j < s.length + l.length) : laterB bB (xsM t s l) (seenR t s l j).length = true ↔ sem (lat s l) (.mk 10 0 [eventL t.2.2.1]) j := by
  have hf := far_eq (s := s) (l := l)
  unfold laterB xsM
  rw [drop_R (by omega), any_B, semS hp (M := j + (farW s l - j)) (by rw [hf]; omega)]
  simp only [semB]
theorem L1B (hp : 0 < l.length) : laterB bB (xsM t s l) 0 = true ↔ sem (lat s l) (.mk 10 0 [eventL t.2.2.1]) 0 := L2 (j := 0) hp (by omega)
theorem L3 (hp : 0 < l.length) {j : Nat} (hj : j < s.length + l.length) (h : Sn (lat s l) j) : laterB bB (xsM t s l) ((seenR t s l j).length + 1) = true ↔ sem (lat s l) (.mk 10 0 [eventL t.2.2.1]) (j + 1) := by
  have hf := far_eq (s := s) (l := l)
  unfold laterB xsM
  rw [drop_R1 (by omega) h, any_B, semS hp (M := j + 1 + (farW s l - (j + 1))) (by rw [hf]; omega)]
  simp only [semB]
theorem L4 (hp : 0 < l.length) {j : Nat} (hj : j < s.length + l.length) (h : Sn (lat s l) j) : altB ((xsM t s l).drop ((seenR t s l j).length + 1)) = true ↔ sem (lat s l) (.mk 8 0 [.mk 4 0 [eventL t.2.1], eventL t.2.2.1]) (j + 1) := by
  have hf := far_eq (s := s) (l := l)
  unfold xsM
  rw [drop_R1 (by omega) h, alt_I, semU hp (M := j + 1 + (farW s l - (j + 1))) (by rw [hf]; omega)]
  simp only [semB, semN, semA]
theorem head_iff {xs : List (Bool × Bool)} {i : Nat} : (decide (i < xs.length) && (xs.getD i (false, false)).2) = true ↔ ∃ x r, xs.drop i = x :: r ∧ x.2 = true := by
  by_cases h : i < xs.length
  · have e : (decide (i < xs.length) && (xs.getD i (false, false)).2) = xs[i].2 := by rw [List.getD_eq_getElem?_getD, List.getElem?_eq_getElem h]; simp [h]
    rw [e, List.drop_eq_getElem_cons h]
    constructor
    · exact fun hx => ⟨_, _, rfl, hx⟩
    · rintro ⟨x, r, hx, hx2⟩
      injection hx with h1 h2
      rw [h1]; exact hx2
  · rw [List.drop_eq_nil_of_le (by omega)]; simp [h]
theorem L5 (hp : 0 < l.length) {j : Nat} (hj : j < s.length + l.length) (h : Sn (lat s l) j) : chainB (xsM t s l) (seenR t s l j).length = true ↔ sem (lat s l) (.mk 8 0 [.mk 3 63 [], eventL t.2.2.1]) (j + 1) := by
  have hf := far_eq (s := s) (l := l)
  unfold chainB xsM
  rw [head_iff, drop_R1 (by omega) h, head_I (fun x => x.2) (eB t s l) (fun j h => h.2) (fun j h => eB_iff h), semU hp (M := j + 1 + (farW s l - (j + 1))) (by rw [hf]; omega)]
  simp only [semB, sem63]
theorem L6 (hp : 0 < l.length) {ok : Nat → Bool} {u : Ltl} (h : ∀ j, j < s.length + l.length → Sn (lat s l) j → (ok (seenR t s l j).length = true ↔ sem (lat s l) u j)) :
    eachB ok (xsM t s l) (seenR t s l (s.length + l.length)).length = true ↔ sem (lat s l) (.mk 11 0 [.mk 6 0 [.mk 4 0 [eventL t.2.1], u]]) 0 := by
  have hf := far_eq (s := s) (l := l)
  unfold xsM
  rw [each_I ok _ _ (fun j hj hs => get_R (by omega) hs), semG hp (Nat.le_refl _)]
  refine forall_congr' fun j => forall_congr' fun hj => ?_
  rw [sem6, sem4, semA]
  by_cases hs : Sn (lat s l) j
  · rw [h j hj hs]; exact ⟨fun x => (Classical.em (eA t s l j)).elim (fun h => .inr (x h)) .inl, fun x ha => x.elim (absurd ha) id⟩
  · exact ⟨fun _ => .inl (eA_no hs), fun _ ha => absurd ha (eA_no hs)⟩
theorem L7 (hp : 0 < l.length) : precB (xsM t s l) = true ↔ sem (lat s l) (precL t.2.1 t.2.2.1) 0 := by
  have hf := far_eq (s := s) (l := l)
  unfold xsM precL
  rw [seenR_eq, prec_I, sem6, semU hp (M := 0 + farW s l) (by rw [hf]; omega), semG hp (M := 0 + farW s l) (by rw [hf]; omega)]
  simp only [semN, semA, semB]
  refine or_congr Iff.rfl ⟨fun h j hj => h j (Nat.zero_le _) hj, fun h j _ hj => h j hj⟩
theorem L8 (hp : 0 < l.length) : (decide ((xsM t s l).length = 0) || ((xsM t s l).getD 0 (false, false)).1) = true ↔ sem (lat s l) (.mk 6 0 [.mk 8 0 [.mk 3 63 [], eventL t.2.1], .mk 11 0 [.mk 3 63 []]]) 0 := by
  have hf := far_eq (s := s) (l := l)
  unfold xsM
  have h1 := nil_I (t := t) (s := s) (l := l) (farW s l) 0
  have h2 := head_I (t := t) (s := s) (l := l) (fun x => x.1) (eA t s l) (fun j h => h.2) (fun j h => eA_iff h) (farW s l) 0
  rw [seenR_eq, sem6, semU hp (M := 0 + farW s l) (by rw [hf]; omega), semG hp (M := 0 + farW s l) (by rw [hf]; omega)]
  simp only [semA, sem63]
  rw [← h2]
  have e : (∀ j, j < 0 + farW s l → ¬ Sn (lat s l) j) ↔ seenI t s l 0 (farW s l) = [] := by
    rw [h1]; exact ⟨fun h j _ hj => h j hj, fun h j hj => h j (Nat.zero_le _) hj⟩
  rw [e]
  cases seenI t s l 0 (farW s l) <;> simp
/-- how many -/
theorem many_I (t : LTpl) (s l : List Nat) (hp : 0 < l.length) : ∀ n i T, max i s.length + (n + 1) * l.length ≤ T → sem (lat s l) (manyL t.2.1 n) i → n + 1 ≤ (seenI t s l i (T - i)).countP bA := by
  have hcut : ∀ i j T, i ≤ j → j < T → eA t s l j → 1 + (seenI t s l (j + 1) (T - (j + 1))).countP bA ≤ (seenI t s l i (T - i)).countP bA := by
    intro i j T h1 h2 h3
    rw [show T - i = (j - i) + ((T - (j + 1)) + 1) by omega, seenI_add, show i + (j - i) = j by omega, seenI_cons, seenAt_yes h3.2, List.countP_append, List.countP_append]
    have := (eA_iff (t := t) h3.2).1 h3
    rw [show List.countP bA [(bitL s l j t.2.1.toNat, bitL s l j t.2.2.1.toNat)] = 1 by simp [bA, this]]
    omega
  intro n
  induction n with
  | zero =>
    intro i T hT h
    rw [manyL, some_sem] at h
    obtain ⟨j, h1, h2, h3, _⟩ := least_bd (A := sem (lat s l) (eventL t.2.1)) per_sem hp h
    have := hcut i j T h1 (by omega) (semA.1 h3)
    omega
  | succ n ih =>
    intro i T hT h
    rw [manyL, some_sem] at h
    obtain ⟨j, h1, h2, h3, _⟩ := least_bd (A := sem (lat s l) _) per_sem hp h
    rw [sem5, sem7] at h3
    have hm : (n + 1 + 1) * l.length = (n + 1) * l.length + l.length := by rw [Nat.succ_mul]
    have h4 : l.length ≤ (n + 1) * l.length := Nat.le_mul_of_pos_left _ (by omega)
    have := hcut i j T h1 (by omega) (semA.1 h3.1)
    have := ih (j + 1) T (by omega) h3.2
    omega
theorem first_I (t : LTpl) (s l : List Nat) : ∀ c j, 1 ≤ (seenI t s l j c).countP bA → ∃ i c', j ≤ i ∧ eA t s l i ∧ (seenI t s l j c).countP bA = 1 + (seenI t s l (i + 1) c').countP bA
  | 0, j, h => by simp [seenI] at h
  | c + 1, j, h => by
    by_cases ha : eA t s l j
    · refine ⟨j, c, Nat.le_refl _, ha, ?_⟩
      rw [seenI_cons, seenAt_yes ha.2, List.countP_append, show List.countP bA [(bitL s l j t.2.1.toNat, bitL s l j t.2.2.1.toNat)] = 1 by simp [bA, (eA_iff (t := t) ha.2).1 ha]]
    · have e : (seenI t s l j (c + 1)).countP bA = (seenI t s l (j + 1) c).countP bA := by
        rw [seenI_cons, List.countP_append]
        by_cases hs : Sn (lat s l) j
        · rw [seenAt_yes hs]
          rw [eA_iff hs, Bool.not_eq_true] at ha
          simp [bA, ha]
        · rw [seenAt_no hs]; simp
      rw [e] at h ⊢
      obtain ⟨i, c', h1, h2, h3⟩ := first_I t s l c (j + 1) h
      exact ⟨i, c', by omega, h2, h3⟩
theorem many_J (t : LTpl) (s l : List Nat) : ∀ n i c, n + 1 ≤ (seenI t s l i c).countP bA → sem (lat s l) (manyL t.2.1 n) i := by
  intro n
  induction n with
  | zero =>
    intro i c h
    obtain ⟨j, c', h1, h2, h3⟩ := first_I t s l c i (by omega)
    rw [manyL, some_sem]
    exact ⟨j, h1, semA.2 h2⟩
  | succ n ih =>
    intro i c h
    obtain ⟨j, c', h1, h2, h3⟩ := first_I t s l c i (by omega)
    rw [manyL, some_sem]
    refine ⟨j, h1, ?_⟩
    rw [sem5, sem7]
    exact ⟨semA.2 h2, ih (j + 1) c' (by omega)⟩
theorem L9 (hp : 0 < l.length) {n : Nat} (hn : n ≤ 3) : n + 1 ≤ manyA (xsM t s l) ↔ sem (lat s l) (manyL t.2.1 n) 0 := by
  unfold manyA xsM
  rw [seenR_eq]
  constructor
  · exact many_J t s l n 0 _
  · intro h
    have := many_I t s l hp n 0 (farW s l) (by
      have : (n + 1) * l.length ≤ 4 * l.length := Nat.mul_le_mul_right _ (by omega)
      rw [far_eq]; omega) h
    exact this
theorem decl_means (hT : chkT t = 0) (hW : chkW s l = 0) : (meansT t s l).1 = true ↔ sem (lat s l) (declF t.1 t.2.1 t.2.2.1 t.2.2.2) 0 := by
  have hp := (chkW_ok hW).2
  have hr : 1 ≤ t.1 ∧ t.1 ≤ 14 ∧ (1 ≤ t.1 ∧ t.1 ≤ 3 → 1 ≤ t.2.2.2 ∧ t.2.2.2 ≤ 3) := by
    unfold chkT countedB at hT
    split at hT
    · cases hT
    · rename_i h1
      split at hT
      · cases hT
      · rename_i h2
        simp at h1 h2
        omega
  unfold meansT declF
  rw [if_neg (by simp [hT]), if_neg (by simp [hW])]
  by_cases h3 : t.1 ≤ 3
  · obtain ⟨hc1, hc3⟩ := hr.2.2 ⟨hr.1, h3⟩
    rw [if_neg (by unfold countedB; simp; omega)]
    obtain ⟨n, hn⟩ : ∃ n : Nat, t.2.2.2 = ((n + 1 : Nat) : Int) := ⟨(t.2.2.2 - 1).toNat, by omega⟩
    have e1 : ((n + 1 : Nat) : Int).toNat - 1 = n := by omega
    have e2 : ((n + 1 : Nat) : Int).toNat = n + 1 := by omega
    rw [hn, e1, e2]
    have l1 := L9 (t := t) (s := s) hp (n := n) (by omega)
    have l2 := L9 (t := t) (s := s) hp (n := n + 1) (by omega)
    unfold xsM at l1 l2
    by_cases k1 : t.1 = 1
    · rw [if_pos k1, if_pos k1, ← l1]; simp; omega
    · rw [if_neg k1, if_neg k1]
      by_cases k2 : t.1 = 2
      · rw [if_pos k2, if_pos k2, semN, ← l1]; simp; omega
      · rw [if_neg k2, if_neg k2, if_pos (by omega), sem5, semN, ← l1, ← l2]; simp; omega
  · rw [if_pos (by unfold countedB; simp; omega), if_neg (by omega), if_neg (by omega), if_neg (by omega)]
    unfold keepsT
    by_cases h4 : t.1 = 4
    · rw [if_pos h4, if_pos h4]; exact L8 hp
    rw [if_neg h4, if_neg h4]
    by_cases h5 : t.1 = 5
    · rw [if_pos h5, if_pos h5, sem6, Bool.or_eq_true]; exact or_congr (L1A hp) (L1B hp)
    rw [if_neg h5, if_neg h5]
    by_cases h6 : t.1 = 6
    · rw [if_pos h6, if_pos h6, sem6, Bool.or_eq_true, semN, Bool.not_eq_true', ← Bool.not_eq_true]; exact or_congr (not_congr (L1A hp)) (L1B hp)
    rw [if_neg h6, if_neg h6]
    by_cases h7 : t.1 = 7
    · rw [if_pos h7, if_pos h7, sem5, sem6, sem6, semN, semN, ← L1A hp, ← L1B hp]
      show (laterB bA (xsM t s l) 0 == laterB bB (xsM t s l) 0) = true ↔ _
      cases laterB bA (xsM t s l) 0 <;> cases laterB bB (xsM t s l) 0 <;> simp
    rw [if_neg h7, if_neg h7]
    by_cases h13 : t.1 = 13
    · rw [if_pos h13, if_pos h13, semN, sem5, ← L1A hp, ← L1B hp]
      show (!laterB bA (xsM t s l) 0 || !laterB bB (xsM t s l) 0) = true ↔ _
      cases laterB bA (xsM t s l) 0 <;> cases laterB bB (xsM t s l) 0 <;> simp
    rw [if_neg h13, if_neg h13]
    have hresp := L6 (t := t) (s := s) hp (ok := laterB bB (xsM t s l)) (u := .mk 10 0 [eventL t.2.2.1]) (fun j hj hs => L2 hp hj)
    by_cases h8 : t.1 = 8
    · rw [if_pos h8, if_pos h8]; exact hresp
    rw [if_neg h8, if_neg h8]
    by_cases h9 : t.1 = 9
    · rw [if_pos h9, if_pos h9]; exact L7 hp
    rw [if_neg h9, if_neg h9]
    by_cases h10 : t.1 = 10
    · rw [if_pos h10, if_pos h10, sem5, Bool.and_eq_true]; exact and_congr hresp (L7 hp)
    rw [if_neg h10, if_neg h10]
    by_cases h11 : t.1 = 11
    · rw [if_pos h11, if_pos h11]
      exact L6 hp (fun j hj hs => by rw [sem7]; exact L4 hp hj hs)
    rw [if_neg h11, if_neg h11]
    by_cases h12 : t.1 = 12
    · rw [if_pos h12, if_pos h12]
      exact L6 hp (fun j hj hs => by rw [sem7]; exact L5 hp hj hs)
    rw [if_neg h12, if_neg h12]
    exact L6 hp (fun j hj hs => by rw [semN, sem7, ← L3 hp hj hs, Bool.not_eq_true', Bool.not_eq_true])
end
end Go.Proofs.Ytdepjllboiolpaa
