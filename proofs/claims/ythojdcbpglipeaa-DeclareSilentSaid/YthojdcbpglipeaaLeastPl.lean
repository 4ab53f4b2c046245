/-
  The least way to write a word that goes round: plain part.
-/
import Derived.Test.YthojdcbpglipeaaLasso
set_option linter.unusedVariables false
set_option linter.unusedSimpArgs false
namespace Go.Proofs.Ythojdcbpglipeaa
open Go.RowKit

/-- d is a period from n on -/
def Per (L : Nat → Nat) (n d : Nat) : Prop := ∀ i, n ≤ i → L (i + d) = L i
theorem Per.later {L : Nat → Nat} {n m d : Nat} (h : Per L n d) (hm : n ≤ m) : Per L m d := fun i hi => h i (by omega)
theorem Per.mul {L : Nat → Nat} {n d : Nat} (h : Per L n d) : ∀ k, Per L n (k * d)
  | 0 => fun i _ => by simp
  | k + 1 => fun i hi => by
    rw [Nat.add_mul, Nat.one_mul, ← Nat.add_assoc, h _ (by omega)]
    exact Per.mul h k i hi
theorem Per.sub {L : Nat → Nat} {n p q : Nat} (hp : Per L n p) (hq : Per L n q) (h : p ≤ q) : Per L n (q - p) := by
  intro i hi
  rw [← hp (i + (q - p)) (by omega)]
  have : i + (q - p) + p = i + q := by omega
  rw [this]
  exact hq i hi
theorem Per.gcd {L : Nat → Nat} {n : Nat} : ∀ (k p q : Nat), p + q ≤ k → Per L n p → Per L n q → Per L n (Nat.gcd p q)
  | 0, p, q, hk, hp, hq => by
    have e1 : p = 0 := by omega
    have e2 : q = 0 := by omega
    subst e1 e2
    exact hp
  | k + 1, p, q, hk, hp, hq => by
    by_cases hp0 : p = 0
    · subst hp0; rw [Nat.gcd_zero_left]; exact hq
    by_cases hq0 : q = 0
    · subst hq0; rw [Nat.gcd_zero_right]; exact hp
    by_cases h : p ≤ q
    · have := Per.gcd k p (q - p) (by omega) hp (hp.sub hq h)
      rwa [Nat.gcd_sub_self_right h] at this
    · have := Per.gcd k (p - q) q (by omega) (hq.sub hp (by omega)) hq
      rwa [Nat.gcd_sub_self_left (by omega)] at this
/-- an eventual period is one from where the word goes round on -/
theorem Per.early {L : Nat → Nat} {n m p d : Nat} (hp : Per L n p) (h0 : 0 < p) (hd : Per L m d) : Per L n d := by
  intro i hi
  have h1 := hp.mul m (i + d) (by omega)
  have h2 := hp.mul m i hi
  have hm : m ≤ m * p := Nat.le_mul_of_pos_right m h0
  have h3 := hd (i + m * p) (by omega)
  have e : i + m * p + d = i + d + m * p := by omega
  rw [e, h1, h2] at h3
  exact h3
/-- the least eventual period -/
def Least (L : Nat → Nat) (p : Nat) : Prop := ∀ d m, 0 < d → Per L m d → p ≤ d

theorem lat_perP {s l : List Nat} (h0 : 0 < l.length) : Per (lat s l) s.length l.length := by
  intro i hi
  unfold lat
  rw [if_neg (by omega), if_neg (by omega)]
  congr 1
  have : i + l.length - s.length = (i - s.length) + l.length := by omega
  rw [this, Nat.add_mod_right]
theorem lat_loopP {s l : List Nat} {j : Nat} (h : j < l.length) : lat s l (s.length + j) = l.getD j 0 := by
  unfold lat
  rw [if_neg (by omega)]
  congr 1
  rw [Nat.add_sub_cancel_left, Nat.mod_eq_of_lt h]
/-- two ways to write one word, both least, are one -/
structure LeastW (L : Nat → Nat) (s l : List Nat) : Prop where
  pos : 0 < l.length
  same : ∀ i, lat s l i = L i
  least : Least L l.length
  tight : ∀ h : 0 < s.length, s[s.length - 1]? ≠ l[l.length - 1]?
theorem leastW_len {L : Nat → Nat} {s l t m : List Nat} (h : LeastW L s l) (k : LeastW L t m) : l.length = m.length := by
  have h1 : Per L s.length l.length := fun i hi => by rw [← h.same, ← h.same]; exact lat_perP h.pos i hi
  have h2 : Per L t.length m.length := fun i hi => by rw [← k.same, ← k.same]; exact lat_perP k.pos i hi
  have a := h.least m.length t.length k.pos h2
  have b := k.least l.length s.length h.pos h1
  omega
theorem leastW_stem {L : Nat → Nat} {s l t m : List Nat} (h : LeastW L s l) (k : LeastW L t m) : t.length ≤ s.length := by
  apply Classical.byContradiction
  intro hlt
  have hl := leastW_len h k
  have hp := h.pos
  have ht : 0 < t.length := by omega
  apply k.tight ht
  have h1 : Per L s.length l.length := fun i hi => by rw [← h.same, ← h.same]; exact lat_perP h.pos i hi
  have e1 := h1 (t.length - 1) (by omega)
  have e2 : lat t m (t.length - 1) = t.getD (t.length - 1) 0 := by unfold lat; rw [if_pos (by omega)]
  have e3 : lat t m (t.length + (m.length - 1)) = m.getD (m.length - 1) 0 := lat_loopP (by omega)
  rw [← k.same, ← k.same, e2, show t.length - 1 + l.length = t.length + (m.length - 1) by omega, e3] at e1
  rw [List.getD_eq_getElem?_getD, List.getD_eq_getElem?_getD, List.getElem?_eq_getElem (by omega), List.getElem?_eq_getElem (by omega)] at e1
  rw [List.getElem?_eq_getElem (by omega), List.getElem?_eq_getElem (by omega)]
  simp only [Option.getD_some] at e1
  rw [e1]
theorem leastW_eq {L : Nat → Nat} {s l t m : List Nat} (h : LeastW L s l) (k : LeastW L t m) : s = t ∧ l = m := by
  have hl := leastW_len h k
  have hs : s.length = t.length := Nat.le_antisymm (leastW_stem k h) (leastW_stem h k)
  constructor
  · apply List.ext_getElem hs
    intro i h1 h2
    have e1 := h.same i
    have e2 := k.same i
    unfold lat at e1 e2
    rw [if_pos h1] at e1
    rw [if_pos h2] at e2
    rw [← e2] at e1
    rw [List.getD_eq_getElem?_getD, List.getD_eq_getElem?_getD, List.getElem?_eq_getElem h1, List.getElem?_eq_getElem h2] at e1
    exact e1
  · apply List.ext_getElem hl
    intro i h1 h2
    have e1 := h.same (s.length + i)
    have e2 := k.same (t.length + i)
    rw [lat_loopP h1] at e1
    rw [lat_loopP h2, ← hs] at e2
    rw [← e2] at e1
    rw [List.getD_eq_getElem?_getD, List.getD_eq_getElem?_getD, List.getElem?_eq_getElem h1, List.getElem?_eq_getElem h2] at e1
    exact e1

/- WHAT least COMPUTES -/
def turnsB (l : List Nat) (n : Nat) : Bool := (List.range l.length).all fun i => decide (i < n) || (l.getD i 0 == l.getD (i - n) 0)
/-- the first n from k on that fits -/
def perGo (l : List Nat) : Nat → Nat → List Nat
  | 0, _ => l
  | f + 1, n => if l.length % n = 0 ∧ turnsB l n = true then l.take n else perGo l f (n + 1)
def perL (l : List Nat) : List Nat := perGo l l.length 1
def rollGo : Nat → List Nat → List Nat → List Nat × List Nat
  | 0, s, l => (s, l)
  | f + 1, s, l => if 0 < s.length ∧ s.getD (s.length - 1) 0 = l.getD (l.length - 1) 0 then rollGo f (s.take (s.length - 1)) (l.getD (l.length - 1) 0 :: l.take (l.length - 1)) else (s, l)
def leastL (s l : List Nat) : List Nat × List Nat := rollGo s.length s (perL l)

theorem turns_per {s l : List Nat} {n : Nat} (hn : 0 < n) (hd : l.length % n = 0) (h0 : 0 < l.length) : turnsB l n = true ↔ Per (lat s l) s.length n := by
  have hnl : n ≤ l.length := Nat.le_of_dvd h0 (Nat.dvd_of_mod_eq_zero hd)
  constructor
  · intro h i hi
    unfold turnsB at h
    rw [List.all_eq_true] at h
    have hget : ∀ j, j < l.length → n ≤ j → l.getD j 0 = l.getD (j - n) 0 := by
      intro j hj hnj
      have := h j (List.mem_range.2 hj)
      simp only [Bool.or_eq_true, decide_eq_true_eq, beq_iff_eq] at this
      rcases this with h1 | h1
      · omega
      · exact h1
    -- by steps of n: a letter is that at the place's rest by n
    have hrest : ∀ j, j < l.length → l.getD j 0 = l.getD (j % n) 0 := by
      intro j
      induction j using Nat.strongRecOn with
      | _ j ih =>
        intro hj
        by_cases hjn : j < n
        · rw [Nat.mod_eq_of_lt hjn]
        · rw [hget j hj (by omega), ih (j - n) (by omega) (by omega), ← Nat.mod_eq_sub_mod (by omega)]
    unfold lat
    rw [if_neg (by omega), if_neg (by omega)]
    have hm1 : (i + n - s.length) % l.length < l.length := Nat.mod_lt _ h0
    have hm2 : (i - s.length) % l.length < l.length := Nat.mod_lt _ h0
    rw [hrest _ hm1, hrest _ hm2]
    congr 1
    have hdv : n ∣ l.length := Nat.dvd_of_mod_eq_zero hd
    rw [Nat.mod_mod_of_dvd _ hdv, Nat.mod_mod_of_dvd _ hdv]
    rw [show i + n - s.length = (i - s.length) + n by omega, Nat.add_mod_right]
  · intro h
    unfold turnsB
    rw [List.all_eq_true]
    intro i hi
    rw [List.mem_range] at hi
    simp only [Bool.or_eq_true, decide_eq_true_eq, beq_iff_eq]
    by_cases hin : i < n
    · exact .inl hin
    · right
      have := h (s.length + (i - n)) (by omega)
      rw [show s.length + (i - n) + n = s.length + i by omega, lat_loopP hi, lat_loopP (by omega)] at this
      exact this
theorem perGo_spec {s l : List Nat} (h0 : 0 < l.length) : ∀ (f n : Nat), 0 < n → n + f = l.length + 1 → (∀ d, 0 < d → d < n → ¬ (l.length % d = 0 ∧ turnsB l d = true)) →
    0 < (perGo l f n).length ∧ (∀ i, lat s (perGo l f n) i = lat s l i) ∧ Least (lat s l) (perGo l f n).length ∧ (perGo l f n).length ≤ l.length
  | 0, n, hn, hf, hno => by
    exfalso
    refine hno l.length h0 (by omega) ⟨Nat.mod_self _, ?_⟩
    rw [turns_per (s := s) h0 (Nat.mod_self _) h0]
    exact lat_perP h0
  | f + 1, n, hn, hf, hno => by
    by_cases hc : l.length % n = 0 ∧ turnsB l n = true
    · have e : perGo l (f + 1) n = l.take n := by rw [perGo, if_pos hc]
      have hper := (turns_per (s := s) hn hc.1 h0).1 hc.2
      have hdv : n ∣ l.length := Nat.dvd_of_mod_eq_zero hc.1
      have hnl : n ≤ l.length := Nat.le_of_dvd h0 hdv
      have hlen : (l.take n).length = n := by rw [List.length_take]; omega
      rw [e, hlen]
      refine ⟨hn, fun i => ?_, fun d m hd hm => ?_, hnl⟩
      · by_cases his : i < s.length
        · unfold lat; rw [if_pos his, if_pos his]
        · have hrest : ∀ q j, lat s l (s.length + (q * n + j)) = lat s l (s.length + j) := by
            intro q j
            have := hper.mul q (s.length + j) (by omega)
            rw [← this]; congr 1; omega
          have hlt : (i - s.length) % n < n := Nat.mod_lt _ hn
          have h1 : lat s (l.take n) i = (l.take n).getD ((i - s.length) % n) 0 := by unfold lat; rw [if_neg his, hlen]
          have h2 := hrest ((i - s.length) / n) ((i - s.length) % n)
          have hdm : (i - s.length) / n * n + (i - s.length) % n = i - s.length := by rw [Nat.mul_comm]; exact Nat.div_add_mod _ _
          rw [hdm, show s.length + (i - s.length) = i by omega, lat_loopP (by omega)] at h2
          rw [h1, h2, List.getD_eq_getElem?_getD, List.getElem?_take_of_lt hlt, ← List.getD_eq_getElem?_getD]
      · have hd' : Per (lat s l) s.length d := (lat_perP h0).early h0 hm
        have hg := Per.gcd _ d n (Nat.le_refl _) hd' hper
        have hgpos : 0 < Nat.gcd d n := Nat.gcd_pos_of_pos_left _ hd
        have hgl : l.length % Nat.gcd d n = 0 := Nat.mod_eq_zero_of_dvd (Nat.dvd_trans (Nat.gcd_dvd_right d n) hdv)
        have hgn : Nat.gcd d n ≤ n := Nat.le_of_dvd hn (Nat.gcd_dvd_right d n)
        have hgd : Nat.gcd d n ≤ d := Nat.le_of_dvd hd (Nat.gcd_dvd_left d n)
        have := hno (Nat.gcd d n) hgpos
        by_cases hlt : Nat.gcd d n < n
        · exact absurd ⟨hgl, (turns_per (s := s) hgpos hgl h0).2 hg⟩ (this hlt)
        · omega
    · have e : perGo l (f + 1) n = perGo l f (n + 1) := by rw [perGo, if_neg hc]
      rw [e]
      refine perGo_spec h0 f (n + 1) (by omega) (by omega) (fun d hd hdn => ?_)
      by_cases hde : d = n
      · subst hde; exact hc
      · exact hno d hd (by omega)
theorem lat_roll {s l : List Nat} (hs : 0 < s.length) (hl : 0 < l.length) (he : s.getD (s.length - 1) 0 = l.getD (l.length - 1) 0) (i : Nat) : lat (s.take (s.length - 1)) (l.getD (l.length - 1) 0 :: l.take (l.length - 1)) i = lat s l i := by
  have hls : (s.take (s.length - 1)).length = s.length - 1 := by rw [List.length_take]; omega
  have hll : (l.getD (l.length - 1) 0 :: l.take (l.length - 1)).length = l.length := by rw [List.length_cons, List.length_take]; omega
  unfold lat
  rw [hls, hll]
  by_cases h1 : i < s.length - 1
  · rw [if_pos h1, if_pos (by omega), List.getD_eq_getElem?_getD, List.getElem?_take_of_lt h1, ← List.getD_eq_getElem?_getD]
  · rw [if_neg h1]
    have hget : ∀ j, j < l.length → (l.getD (l.length - 1) 0 :: l.take (l.length - 1)).getD j 0 = if j = 0 then l.getD (l.length - 1) 0 else l.getD (j - 1) 0 := by
      intro j hj
      cases j with
      | zero => rfl
      | succ j =>
        rw [if_neg (by omega), List.getD_eq_getElem?_getD, List.getElem?_cons_succ, List.getElem?_take_of_lt (by omega), ← List.getD_eq_getElem?_getD]
        rfl
    by_cases h2 : i < s.length
    · have : i = s.length - 1 := by omega
      subst this
      rw [if_pos h2, Nat.sub_self, Nat.zero_mod, hget 0 hl, if_pos rfl, he]
    · rw [if_neg h2, hget _ (Nat.mod_lt _ hl)]
      have e : i - (s.length - 1) = (i - s.length) + 1 := by omega
      rw [e]
      have hm := Nat.mod_lt (i - s.length) hl
      rw [Nat.add_mod]
      by_cases h3 : (i - s.length) % l.length = l.length - 1
      · rw [h3]
        by_cases h1l : l.length = 1
        · rw [h1l]; simp
        · have : (l.length - 1 + 1 % l.length) % l.length = 0 := by rw [Nat.mod_eq_of_lt (show 1 < l.length by omega), show l.length - 1 + 1 = l.length by omega, Nat.mod_self]
          rw [this, if_pos rfl]
      · have h1l : 1 < l.length := by omega
        rw [Nat.mod_eq_of_lt h1l, Nat.mod_eq_of_lt (by omega), if_neg (by omega)]
        rfl
theorem rollGo_spec {L : Nat → Nat} : ∀ (f : Nat) (s l : List Nat), s.length ≤ f → 0 < l.length → (∀ i, lat s l i = L i) → Least L l.length → LeastW L (rollGo f s l).1 (rollGo f s l).2
  | 0, s, l, hf, h0, hs, hl => ⟨h0, hs, hl, fun h => by have h : 0 < s.length := h; omega⟩
  | f + 1, s, l, hf, h0, hs, hl => by
    by_cases hc : 0 < s.length ∧ s.getD (s.length - 1) 0 = l.getD (l.length - 1) 0
    · rw [rollGo, if_pos hc]
      have hll : (l.getD (l.length - 1) 0 :: l.take (l.length - 1)).length = l.length := by rw [List.length_cons, List.length_take]; omega
      refine rollGo_spec f _ _ (by rw [List.length_take]; omega) (by rw [hll]; exact h0) (fun i => ?_) (by rw [hll]; exact hl)
      rw [lat_roll hc.1 h0 hc.2]; exact hs i
    · rw [rollGo, if_neg hc]
      refine ⟨h0, hs, hl, fun h e => hc ⟨h, ?_⟩⟩
      rw [List.getD_eq_getElem?_getD, List.getD_eq_getElem?_getD, e]
theorem leastL_spec {s l : List Nat} (h0 : 0 < l.length) : LeastW (lat s l) (leastL s l).1 (leastL s l).2 := by
  have h := perGo_spec (s := s) h0 l.length 1 (by omega) (by omega) (fun d hd hd1 => by omega)
  exact rollGo_spec s.length s (perL l) (Nat.le_refl _) h.1 h.2.1 h.2.2.1
/-- one word, however it is written, has one least way to write it -/
theorem leastL_eq {s l t m : List Nat} (h0 : 0 < l.length) (h1 : 0 < m.length) (h : ∀ i, lat s l i = lat t m i) : leastL s l = leastL t m := by
  have a := leastL_spec (s := s) h0
  have b := leastL_spec (s := t) h1
  have e : lat s l = lat t m := funext h
  rw [e] at a
  have := leastW_eq a b
  exact Prod.ext this.1 this.2
/-- some letters of the loop are put into the stem -/
theorem lat_unroll {s l : List Nat} (h0 : 0 < l.length) {n : Nat} (hn : n ≤ l.length) (i : Nat) : lat (s ++ l.take n) (l.drop n ++ l.take n) i = lat s l i := by
  have hlen : (l.drop n ++ l.take n).length = l.length := by rw [List.length_append, List.length_drop, List.length_take]; omega
  have hst : (s ++ l.take n).length = s.length + n := by rw [List.length_append, List.length_take]; omega
  unfold lat
  rw [hst, hlen]
  by_cases h1 : i < s.length
  · rw [if_pos h1, if_pos (by omega), List.getD_eq_getElem?_getD, List.getElem?_append_left h1, ← List.getD_eq_getElem?_getD]
  · rw [if_neg h1]
    by_cases h2 : i < s.length + n
    · rw [if_pos h2, List.getD_eq_getElem?_getD, List.getElem?_append_right (by omega), List.getElem?_take_of_lt (by omega), ← List.getD_eq_getElem?_getD, Nat.mod_eq_of_lt (by omega)]
    · rw [if_neg h2]
      have hm := Nat.mod_lt (i - (s.length + n)) h0
      have e : i - s.length = (i - (s.length + n)) + n := by omega
      rw [e]
      generalize i - (s.length + n) = j at *
      have hj : (j + n) % l.length = (j % l.length + n) % l.length := (Nat.mod_add_mod j l.length n).symm
      rw [hj]
      generalize j % l.length = r at *
      by_cases h3 : r < l.length - n
      · rw [List.getD_eq_getElem?_getD, List.getElem?_append_left (by rw [List.length_drop]; exact h3), List.getElem?_drop, ← List.getD_eq_getElem?_getD, Nat.mod_eq_of_lt (by omega), Nat.add_comm]
      · rw [List.getD_eq_getElem?_getD, List.getElem?_append_right (by rw [List.length_drop]; omega), List.length_drop, List.getElem?_take_of_lt (by omega), ← List.getD_eq_getElem?_getD]
        rw [Nat.mod_eq_sub_mod (by omega), Nat.mod_eq_of_lt (by omega)]
        congr 1; omega
end Go.Proofs.Ythojdcbpglipeaa
