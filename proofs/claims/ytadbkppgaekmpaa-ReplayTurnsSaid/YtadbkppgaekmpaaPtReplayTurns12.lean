import Derived.DeepKeys4
import Derived.Maps.Keyed
import Derived.Test.YtadbkppgaekmpaaPtReplayTurns11
/-
  The least way to write a word that goes round: plain part.
-/
set_option linter.unusedVariables false
set_option linter.unusedSimpArgs false
namespace Go.Proofs.Ytadbkppgaekmpaa
open Go.RowKit

/-- d is a period from n on -/
def Per (L : Nat → Nat) (n d : Nat) : Prop := ∀ i, n ≤ i → L (i + d) = L i
theorem Per.later {L : Nat → Nat} {n m d : Nat} (h : Per L n d) (hm : n ≤ m) : Per L m d := fun i hi => h i (by omega)
theorem Per.mul {L : Nat → Nat} {n d : Nat} (h : Per L n d) : ∀ k, Per L n (k * d)
  | 0 => fun i _ => by simp
  | k + 1 => fun i hi => by
    rw [Nat.add_mul, Nat.one_mul, ← Nat.add_assoc, h _ (by omega)]
    exact Per.mul h k i hi
theorem Per.sub {L : Nat → Nat} {n p q : Nat} (hp : Per L n p) (hq : Per L n q) (h : p ≤ q) : Per L n (q - p) := by
  intro i hi
  rw [← hp (i + (q - p)) (by omega)]
  have : i + (q - p) + p = i + q := by omega
  rw [this]
  exact hq i hi
theorem Per.gcd {L : Nat → Nat} {n : Nat} : ∀ (k p q : Nat), p + q ≤ k → Per L n p → Per L n q → Per L n (Nat.gcd p q)
  | 0, p, q, hk, hp, hq => by
    have e1 : p = 0 := by omega
    have e2 : q = 0 := by omega
    subst e1 e2
    exact hp
  | k + 1, p, q, hk, hp, hq => by
    by_cases hp0 : p = 0
    · subst hp0; rw [Nat.gcd_zero_left]; exact hq
    by_cases hq0 : q = 0
    · subst hq0; rw [Nat.gcd_zero_right]; exact hp
    by_cases h : p ≤ q
    · have := Per.gcd k p (q - p) (by omega) hp (hp.sub hq h)
      rwa [Nat.gcd_sub_self_right h] at this
    · have := Per.gcd k (p - q) q (by omega) (hq.sub hp (by omega)) hq
      rwa [Nat.gcd_sub_self_left (by omega)] at this
/-- an eventual period is one from where the word goes round on -/
theorem Per.early {L : Nat → Nat} {n m p d : Nat} (hp : Per L n p) (h0 : 0 < p) (hd : Per L m d) : Per L n d := by
  intro i hi
  have h1 := hp.mul m (i + d) (by omega)
  have h2 := hp.mul m i hi
  have hm : m ≤ m * p := Nat.le_mul_of_pos_right m h0
  have h3 := hd (i + m * p) (by omega)
  have e : i + m * p + d = i + d + m * p := by omega
  rw [e, h1, h2] at h3
  exact h3
/-- the least eventual period -/
def Least (L : Nat → Nat) (p : Nat) : Prop := ∀ d m, 0 < d → Per L m d → p ≤ d

theorem lat_perP {s l : List Nat} (h0 : 0 < l.length) : Per (lat s l) s.length l.length := by
  intro i hi
  unfold lat
  rw [if_neg (by omega), if_neg (by omega)]
  congr 1
  have : i + l.length - s.length = (i - s.length) + l.length := by omega
  rw [this, Nat.add_mod_right]
theorem lat_loopP {s l : List Nat} {j : Nat} (h : j < l.length) : lat s l (s.length + j) = l.getD j 0 := by
  unfold lat
  rw [if_neg (by omega)]
  congr 1
  rw [Nat.add_sub_cancel_left, Nat.mod_eq_of_lt h]
/-- two ways to write one word, both least, are one -/
structure LeastW (L : Nat → Nat) (s l : List Nat) : Prop where
  pos : 0 < l.length
  same : ∀ i, lat s l i = L i
  least : Least L l.length
  tight : ∀ h : 0 < s.length, s[s.length - 1]? ≠ l[l.length - 1]?
theorem leastW_len {L : Nat → Nat} {s l t m : List Nat} (h : LeastW L s l) (k : LeastW L t m) : l.length = m.length := by
  have h1 : Per L s.length l.length := fun i hi => by rw [← h.same, ← h.same]; exact lat_perP h.pos i hi
  have h2 : Per L t.length m.length := fun i hi => by rw [← k.same, ← k.same]; exact lat_perP k.pos i hi
  have a := h.least m.length t.length k.pos h2
  have b := k.least l.length s.length h.pos h1
  omega
theorem leastW_stem {L : Nat → Nat} {s l t m : List Nat} (h : LeastW L s l) (k : LeastW L t m) : t.length ≤ s.length := by
  apply Classical.byContradiction
  intro hlt
  have hl := leastW_len h k
  have hp := h.pos
  have ht : 0 < t.length := by omega
  apply k.tight ht
  have h1 : Per L s.length l.length := fun i hi => by rw [← h.same, ← h.same]; exact lat_perP h.pos i hi
  have e1 := h1 (t.length - 1) (by omega)
  have e2 : lat t m (t.length - 1) = t.getD (t.length - 1) 0 := by unfold lat; rw [if_pos (by omega)]
  have e3 : lat t m (t.length + (m.length - 1)) = m.getD (m.length - 1) 0 := lat_loopP (by omega)
  rw [← k.same, ← k.same, e2, show t.length - 1 + l.length = t.length + (m.length - 1) by omega, e3] at e1
  rw [List.getD_eq_getElem?_getD, List.getD_eq_getElem?_getD, List.getElem?_eq_getElem (by omega), List.getElem?_eq_getElem (by omega)] at e1
  rw [List.getElem?_eq_getElem (by omega), List.getElem?_eq_getElem (by omega)]
  simp only [Option.getD_some] at e1
  rw [e1]
theorem leastW_eq {L : Nat → Nat} {s l t m : List Nat} (h : LeastW L s l) (k : LeastW L t m) : s = t ∧ l = m := by
  have hl := leastW_len h k
  have hs : s.length = t.length := Nat.le_antisymm (leastW_stem k h) (leastW_stem h k)
  constructor
  · apply List.ext_getElem hs
    intro i h1 h2
    have e1 := h.same i
    have e2 := k.same i
    unfold lat at e1 e2
    rw [if_pos h1] at e1
    rw [if_pos h2] at e2
    rw [← e2] at e1
    rw [List.getD_eq_getElem?_getD, List.getD_eq_getElem?_getD, List.getElem?_eq_getElem h1, List.getElem?_eq_getElem h2] at e1
    exact e1
  · apply List.ext_getElem hl
    intro i h1 h2
    have e1 := h.same (s.length + i)
    have e2 := k.same (t.length + i)
    rw [lat_loopP h1] at e1
    rw [lat_loopP h2, ← hs] at e2
    rw [← e2] at e1
    rw [List.getD_eq_getElem?_getD, List.getD_eq_getElem?_getD, List.getElem?_eq_getElem h1, List.getElem?_eq_getElem h2] at e1
    exact e1

/- WHAT least COMPUTES -/
def turnsB (l : List Nat) (n : Nat) : Bool := (List.range l.length).all fun i => decide (i < n) || (l.getD i 0 == l.getD (i - n) 0)
/-- the first n from k on that fits -/
def perGo (l : List Nat) : Nat → Nat → List Nat
  | 0, _ => l
  | f + 1, n => if l.length % n = 0 ∧ turnsB l n = true then l.take n else perGo l f (n + 1)
def perL (l : List Nat) : List Nat := perGo l l.length 1
def rollGo : Nat → List Nat → List Nat → List Nat × List Nat
  | 0, s, l => (s, l)
  | f + 1, s, l => if 0 < s.length ∧ s.getD (s.length - 1) 0 = l.getD (l.length - 1) 0 then rollGo f (s.take (s.length - 1)) (l.getD (l.length - 1) 0 :: l.take (l.length - 1)) else (s, l)
def leastL (s l : List Nat) : List Nat × List Nat := rollGo s.length s (perL l)

theorem turns_per {s l : List Nat} {n : Nat} (hn : 0 < n) (hd : l.length % n = 0) (h0 : 0 < l.length) : turnsB l n = true ↔ Per (lat s l) s.length n := by
  have hnl : n ≤ l.length := Nat.le_of_dvd h0 (Nat.dvd_of_mod_eq_zero hd)
  constructor
  · intro h i hi
    unfold turnsB at h
    rw [List.all_eq_true] at h
    have hget : ∀ j, j < l.length → n ≤ j → l.getD j 0 = l.getD (j - n) 0 := by
      intro j hj hnj
      have := h j (List.mem_range.2 hj)
      simp only [Bool.or_eq_true, decide_eq_true_eq, beq_iff_eq] at this
      rcases this with h1 | h1
      · omega
      · exact h1
    -- by steps of n: a letter is that at the place's rest by n
    have hrest : ∀ j, j < l.length → l.getD j 0 = l.getD (j % n) 0 := by
      intro j
      induction j using Nat.strongRecOn with
      | _ j ih =>
        intro hj
        by_cases hjn : j < n
        · rw [Nat.mod_eq_of_lt hjn]
        · rw [hget j hj (by omega), ih (j - n) (by omega) (by omega), ← Nat.mod_eq_sub_mod (by omega)]
    unfold lat
    rw [if_neg (by omega), if_neg (by omega)]
    have hm1 : (i + n - s.length) % l.length < l.length := Nat.mod_lt _ h0
    have hm2 : (i - s.length) % l.length < l.length := Nat.mod_lt _ h0
    rw [hrest _ hm1, hrest _ hm2]
    congr 1
    have hdv : n ∣ l.length := Nat.dvd_of_mod_eq_zero hd
    rw [Nat.mod_mod_of_dvd _ hdv, Nat.mod_mod_of_dvd _ hdv]
    rw [show i + n - s.length = (i - s.length) + n by omega, Nat.add_mod_right]
  · intro h
    unfold turnsB
    rw [List.all_eq_true]
    intro i hi
    rw [List.mem_range] at hi
    simp only [Bool.or_eq_true, decide_eq_true_eq, beq_iff_eq]
    by_cases hin : i < n
    · exact .inl hin
    · right
      have := h (s.length + (i - n)) (by omega)
      rw [show s.length + (i - n) + n = s.length + i by omega, lat_loopP hi, lat_loopP (by omega)] at this
      exact this
theorem perGo_spec {s l : List Nat} (h0 : 0 < l.length) : ∀ (f n : Nat), 0 < n → n + f = l.length + 1 → (∀ d, 0 < d → d < n → ¬ (l.length % d = 0 ∧ turnsB l d = true)) →
    0 < (perGo l f n).length ∧ (∀ i, lat s (perGo l f n) i = lat s l i) ∧ Least (lat s l) (perGo l f n).length ∧ (perGo l f n).length ≤ l.length
  | 0, n, hn, hf, hno => by
    exfalso
    refine hno l.length h0 (by omega) ⟨Nat.mod_self _, ?_⟩
    rw [turns_per (s := s) h0 (Nat.mod_self _) h0]
    exact lat_perP h0
  | f + 1, n, hn, hf, hno => by
    by_cases hc : l.length % n = 0 ∧ turnsB l n = true
    · have e : perGo l (f + 1) n = l.take n := by rw [perGo, if_pos hc]
      have hper := (turns_per (s := s) hn hc.1 h0).1 hc.2
      have hdv : n ∣ l.length := Nat.dvd_of_mod_eq_zero hc.1
      have hnl : n ≤ l.length := Nat.le_of_dvd h0 hdv
      have hlen : (l.take n).length = n := by rw [List.length_take]; omega
      rw [e, hlen]
      refine ⟨hn, fun i => ?_, fun d m hd hm => ?_, hnl⟩
      · by_cases his : i < s.length
        · unfold lat; rw [if_pos his, if_pos his]
        · have hrest : ∀ q j, lat s l (s.length + (q * n + j)) = lat s l (s.length + j) := by
            intro q j
            have := hper.mul q (s.length + j) (by omega)
            rw [← this]; congr 1; omega
          have hlt : (i - s.length) % n < n := Nat.mod_lt _ hn
          have h1 : lat s (l.take n) i = (l.take n).getD ((i - s.length) % n) 0 := by unfold lat; rw [if_neg his, hlen]
          have h2 := hrest ((i - s.length) / n) ((i - s.length) % n)
          have hdm : (i - s.length) / n * n + (i - s.length) % n = i - s.length := by rw [Nat.mul_comm]; exact Nat.div_add_mod _ _
          rw [hdm, show s.length + (i - s.length) = i by omega, lat_loopP (by omega)] at h2
          rw [h1, h2, List.getD_eq_getElem?_getD, List.getElem?_take_of_lt hlt, ← List.getD_eq_getElem?_getD]
      · have hd' : Per (lat s l) s.length d := (lat_perP h0).early h0 hm
        have hg := Per.gcd _ d n (Nat.le_refl _) hd' hper
        have hgpos : 0 < Nat.gcd d n := Nat.gcd_pos_of_pos_left _ hd
        have hgl : l.length % Nat.gcd d n = 0 := Nat.mod_eq_zero_of_dvd (Nat.dvd_trans (Nat.gcd_dvd_right d n) hdv)
        have hgn : Nat.gcd d n ≤ n := Nat.le_of_dvd hn (Nat.gcd_dvd_right d n)
        have hgd : Nat.gcd d n ≤ d := Nat.le_of_dvd hd (Nat.gcd_dvd_left d n)
        have := hno (Nat.gcd d n) hgpos
        by_cases hlt : Nat.gcd d n < n
        · exact absurd ⟨hgl, (turns_per (s := s) hgpos hgl h0).2 hg⟩ (this hlt)
        · omega
    · have e : perGo l (f + 1) n = perGo l f (n + 1) := by rw [perGo, if_neg hc]
      rw [e]
      refine perGo_spec h0 f (n + 1) (by omega) (by omega) (fun d hd hdn => ?_)
      by_cases hde : d = n
      · subst hde; exact hc
      · exact hno d hd (by omega)
theorem lat_roll {s l : List Nat} (hs : 0 < s.length) (hl : 0 < l.length) (he : s.getD (s.length - 1) 0 = l.getD (l.length - 1) 0) (i : Nat) : lat (s.take (s.length - 1)) (l.getD (l.length - 1) 0 :: l.take (l.length - 1)) i = lat s l i := by
  have hls : (s.take (s.length - 1)).length = s.length - 1 := by rw [List.length_take]; omega
  have hll : (l.getD (l.length - 1) 0 :: l.take (l.length - 1)).length = l.length := by rw [List.length_cons, List.length_take]; omega
  unfold lat
  rw [hls, hll]
  by_cases h1 : i < s.length - 1
  · rw [if_pos h1, if_pos (by omega), List.getD_eq_getElem?_getD, List.getElem?_take_of_lt h1, ← List.getD_eq_getElem?_getD]
  · rw [if_neg h1]
    have hget : ∀ j, j < l.length → (l.getD (l.length - 1) 0 :: l.take (l.length - 1)).getD j 0 = if j = 0 then l.getD (l.length - 1) 0 else l.getD (j - 1) 0 := by
      intro j hj
      cases j with
      | zero => rfl
      | succ j =>
        rw [if_neg (by omega), List.getD_eq_getElem?_getD, List.getElem?_cons_succ, List.getElem?_take_of_lt (by omega), ← List.getD_eq_getElem?_getD]
        rfl
    by_cases h2 : i < s.length
    · have : i = s.length - 1 := by omega
      subst this
      rw [if_pos h2, Nat.sub_self, Nat.zero_mod, hget 0 hl, if_pos rfl, he]
    · rw [if_neg h2, hget _ (Nat.mod_lt _ hl)]
      have e : i - (s.length - 1) = (i - s.length) + 1 := by omega
      rw [e]
      have hm := Nat.mod_lt (i - s.length) hl
      rw [Nat.add_mod]
      by_cases h3 : (i - s.length) % l.length = l.length - 1
      · rw [h3]
        by_cases h1l : l.length = 1
        · rw [h1l]; simp
        · have : (l.length - 1 + 1 % l.length) % l.length = 0 := by rw [Nat.mod_eq_of_lt (show 1 < l.length by omega), show l.length - 1 + 1 = l.length by omega, Nat.mod_self]
          rw [this, if_pos rfl]
      · have h1l : 1 < l.length := by omega
        rw [Nat.mod_eq_of_lt h1l, Nat.mod_eq_of_lt (by omega), if_neg (by omega)]
        rfl
theorem rollGo_spec {L : Nat → Nat} : ∀ (f : Nat) (s l : List Nat), s.length ≤ f → 0 < l.length → (∀ i, lat s l i = L i) → Least L l.length → LeastW L (rollGo f s l).1 (rollGo f s l).2
  | 0, s, l, hf, h0, hs, hl => ⟨h0, hs, hl, fun h => by have h : 0 < s.length := h; omega⟩
  | f + 1, s, l, hf, h0, hs, hl => by
    by_cases hc : 0 < s.length ∧ s.getD (s.length - 1) 0 = l.getD (l.length - 1) 0
    · rw [rollGo, if_pos hc]
      have hll : (l.getD (l.length - 1) 0 :: l.take (l.length - 1)).length = l.length := by rw [List.length_cons, List.length_take]; omega
      refine rollGo_spec f _ _ (by rw [List.length_take]; omega) (by rw [hll]; exact h0) (fun i => ?_) (by rw [hll]; exact hl)
      rw [lat_roll hc.1 h0 hc.2]; exact hs i
    · rw [rollGo, if_neg hc]
      refine ⟨h0, hs, hl, fun h e => hc ⟨h, ?_⟩⟩
      rw [List.getD_eq_getElem?_getD, List.getD_eq_getElem?_getD, e]
theorem leastL_spec {s l : List Nat} (h0 : 0 < l.length) : LeastW (lat s l) (leastL s l).1 (leastL s l).2 := by
  have h := perGo_spec (s := s) h0 l.length 1 (by omega) (by omega) (fun d hd hd1 => by omega)
  exact rollGo_spec s.length s (perL l) (Nat.le_refl _) h.1 h.2.1 h.2.2.1
/-- one word, however it is written, has one least way to write it -/
theorem leastL_eq {s l t m : List Nat} (h0 : 0 < l.length) (h1 : 0 < m.length) (h : ∀ i, lat s l i = lat t m i) : leastL s l = leastL t m := by
  have a := leastL_spec (s := s) h0
  have b := leastL_spec (s := t) h1
  have e : lat s l = lat t m := funext h
  rw [e] at a
  have := leastW_eq a b
  exact Prod.ext this.1 this.2
/-- some letters of the loop are put into the stem -/
theorem lat_unroll {s l : List Nat} (h0 : 0 < l.length) {n : Nat} (hn : n ≤ l.length) (i : Nat) : lat (s ++ l.take n) (l.drop n ++ l.take n) i = lat s l i := by
  have hlen : (l.drop n ++ l.take n).length = l.length := by rw [List.length_append, List.length_drop, List.length_take]; omega
  have hst : (s ++ l.take n).length = s.length + n := by rw [List.length_append, List.length_take]; omega
  unfold lat
  rw [hst, hlen]
  by_cases h1 : i < s.length
  · rw [if_pos h1, if_pos (by omega), List.getD_eq_getElem?_getD, List.getElem?_append_left h1, ← List.getD_eq_getElem?_getD]
  · rw [if_neg h1]
    by_cases h2 : i < s.length + n
    · rw [if_pos h2, List.getD_eq_getElem?_getD, List.getElem?_append_right (by omega), List.getElem?_take_of_lt (by omega), ← List.getD_eq_getElem?_getD, Nat.mod_eq_of_lt (by omega)]
    · rw [if_neg h2]
      have hm := Nat.mod_lt (i - (s.length + n)) h0
      have e : i - s.length = (i - (s.length + n)) + n := by omega
      rw [e]
      generalize i - (s.length + n) = j at *
      have hj : (j + n) % l.length = (j % l.length + n) % l.length := (Nat.mod_add_mod j l.length n).symm
      rw [hj]
      generalize j % l.length = r at *
      by_cases h3 : r < l.length - n
      · rw [List.getD_eq_getElem?_getD, List.getElem?_append_left (by rw [List.length_drop]; exact h3), List.getElem?_drop, ← List.getD_eq_getElem?_getD, Nat.mod_eq_of_lt (by omega), Nat.add_comm]
      · rw [List.getD_eq_getElem?_getD, List.getElem?_append_right (by rw [List.length_drop]; omega), List.length_drop, List.getElem?_take_of_lt (by omega), ← List.getD_eq_getElem?_getD]
        rw [Nat.mod_eq_sub_mod (by omega), Nat.mod_eq_of_lt (by omega)]
        congr 1; omega
end Go.Proofs.Ytadbkppgaekmpaa
/-
  What is told is played: plain lists, no program in sight.
-/
set_option linter.unusedVariables false
set_option linter.unusedSimpArgs false
namespace Go.Proofs.Ytadbkppgaekmpaa

noncomputable def oneE (p : LProc) (m : List Int) (k : Int) : List Int × Int := if k ≠ -1 then fireE p m k else if 0 < (canE p m).length then ([], 9) else (m, 0)
noncomputable def frGo (p : LProc) : List Int → List Int → List (List Int) → List (List Int) × List Int × Int
  | [], m, out => (out, m, 0)
  | k :: r, m, out => if (oneE p m k).2 ≠ 0 then ([], [], (oneE p m k).2) else frGo p r (oneE p m k).1 (out ++ [(oneE p m k).1])
noncomputable def framesE (p : LProc) (s l : List Int) : List (List Int) × Int :=
  if (stepsE p).2 ≠ 0 then ([], (stepsE p).2) else if l.length = 0 then ([], 1) else if s.length > 60000 ∨ l.length > 60000 - s.length then ([], 2)
  else if (frGo p (s ++ l) (beginL p) [beginL p]).2.2 ≠ 0 then ([], (frGo p (s ++ l) (beginL p) [beginL p]).2.2)
  else if (frGo p (s ++ l) (beginL p) [beginL p]).1.getD s.length [] = (frGo p (s ++ l) (beginL p) [beginL p]).2.1 then ((frGo p (s ++ l) (beginL p) [beginL p]).1, 0) else ([], 9)
section
variable {p : LProc}
/-- does every step go? -/
def okM (p : LProc) : List Int → List Int → Prop
  | _, [] => True
  | m, k :: r => (oneE p m k).2 = 0 ∧ okM p (oneE p m k).1 r
noncomputable def lastM (p : LProc) : List Int → List Int → List Int
  | m, [] => m
  | m, k :: r => lastM p (oneE p m k).1 r
noncomputable def scanM (p : LProc) : List Int → List Int → List (List Int)
  | _, [] => []
  | m, k :: r => (oneE p m k).1 :: scanM p (oneE p m k).1 r
theorem frGo_ok : ∀ (r m : List Int) (out : List (List Int)), okM p m r → frGo p r m out = (out ++ scanM p m r, lastM p m r, 0)
  | [], m, out, _ => by simp [frGo, scanM, lastM]
  | k :: r, m, out, h => by
    rw [frGo, if_neg (by simp [h.1]), frGo_ok r _ _ h.2]
    simp [scanM, lastM]
theorem frGo_of : ∀ (r m : List Int) (out : List (List Int)), (frGo p r m out).2.2 = 0 → okM p m r
  | [], m, out, _ => trivial
  | k :: r, m, out, h => by
    rw [frGo] at h
    split at h
    · rename_i g; exact absurd h g
    · rename_i g; exact ⟨by simpa using g, frGo_of r _ _ h⟩
theorem okM_app : ∀ (a b m : List Int), okM p m (a ++ b) ↔ okM p m a ∧ okM p (lastM p m a) b
  | [], b, m => by simp [okM, lastM]
  | k :: a, b, m => by simp [okM, lastM, okM_app a b, and_assoc]
theorem lastM_app : ∀ (a b m : List Int), lastM p m (a ++ b) = lastM p (lastM p m a) b
  | [], b, m => rfl
  | k :: a, b, m => by simp [lastM, lastM_app a b]
theorem scanM_app : ∀ (a b m : List Int), scanM p m (a ++ b) = scanM p m a ++ scanM p (lastM p m a) b
  | [], b, m => rfl
  | k :: a, b, m => by simp [scanM, lastM, scanM_app a b]
theorem scanM_len : ∀ (a m : List Int), (scanM p m a).length = a.length
  | [], m => rfl
  | k :: a, m => by simp [scanM, scanM_len a]
theorem scanM_get : ∀ (a m : List Int) (i : Nat), i ≤ a.length → (m :: scanM p m a).getD i [] = lastM p m (a.take i)
  | a, m, 0, _ => by simp [lastM]
  | [], m, i + 1, h => by simp at h
  | k :: a, m, i + 1, h => by
    have := scanM_get a (oneE p m k).1 i (by simpa using h)
    simpa [scanM, lastM] using this
structure FrOk (p : LProc) (s l : List Int) : Prop where
  z : (stepsE p).2 = 0
  l0 : 0 < l.length
  sz : s.length ≤ 60000 ∧ l.length ≤ 60000 - s.length
  ok : okM p (beginL p) (s ++ l)
  cl : lastM p (beginL p) s = lastM p (beginL p) (s ++ l)
  eq : (framesE p s l).1 = beginL p :: scanM p (beginL p) (s ++ l)
theorem take_left' {s l : List Int} : (s ++ l).take s.length = s := by simp
theorem framesE_ok {s l : List Int} (h : (framesE p s l).2 = 0) : FrOk p s l := by
  unfold framesE at h
  split at h
  · rename_i g; exact absurd h g
  rename_i g1
  split at h
  · cases h
  rename_i g2
  split at h
  · cases h
  rename_i g3
  split at h
  · rename_i g; exact absurd h g
  rename_i g4
  split at h
  case isFalse => cases h
  rename_i g5
  have hok := frGo_of _ _ _ (by simpa using g4 : (frGo p (s ++ l) (beginL p) [beginL p]).2.2 = 0)
  rw [frGo_ok _ _ _ hok] at g5
  dsimp only at g5
  rw [List.singleton_append, scanM_get _ _ _ (by simp), take_left'] at g5
  refine ⟨by simpa using g1, by omega, by omega, hok, g5, ?_⟩
  unfold framesE
  rw [if_neg g1, if_neg g2, if_neg g3, if_neg g4, frGo_ok _ _ _ hok, if_pos]
  · simp
  · dsimp only
    rw [List.singleton_append, scanM_get _ _ _ (by simp), take_left']; exact g5
theorem framesE_of {s l : List Int} (z : (stepsE p).2 = 0) (l0 : 0 < l.length) (sz : s.length ≤ 60000 ∧ l.length ≤ 60000 - s.length) (ok : okM p (beginL p) (s ++ l)) (cl : lastM p (beginL p) s = lastM p (beginL p) (s ++ l)) : (framesE p s l).2 = 0 := by
  unfold framesE
  rw [if_neg (by simp [z]), if_neg (by omega), if_neg (by omega), frGo_ok _ _ _ ok, if_neg (by simp), if_pos]
  dsimp only
  rw [List.singleton_append, scanM_get _ _ _ (by simp), take_left']; exact cl
theorem framesE_err {s l : List Int} (h : (framesE p s l).2 ≠ 0) : (framesE p s l).1 = [] := by
  unfold framesE at h ⊢
  split
  · rfl
  rename_i g1
  rw [if_neg g1] at h
  split
  · rfl
  rename_i g2
  rw [if_neg g2] at h
  split
  · rfl
  rename_i g3
  rw [if_neg g3] at h
  split
  · rfl
  rename_i g4
  rw [if_neg g4] at h
  split
  · rename_i g5; rw [if_pos g5] at h; exact absurd rfl h
  · rfl
/-- the marking ahead of place i -/
noncomputable def mrk (p : LProc) (s l : List Int) (i : Nat) : List Int := (framesE p s l).1.getD i []
theorem mrk_at {s l : List Int} (h : FrOk p s l) {i : Nat} (hi : i ≤ s.length + l.length) : mrk p s l i = lastM p (beginL p) ((s ++ l).take i) := by
  unfold mrk
  rw [h.eq, scanM_get _ _ _ (by rw [List.length_append]; exact hi)]
theorem unroll_app {s l : List Int} {n : Nat} (hn : n ≤ l.length) : (s ++ l.take n) ++ (l.drop n ++ l.take n) = (s ++ l) ++ l.take n := by
  rw [List.append_assoc, ← List.append_assoc (l.take n), List.take_append_drop, List.append_assoc]
/-- unrolled, it plays too -/
theorem frames_unroll {s l : List Int} (h : FrOk p s l) {n : Nat} (hn : n ≤ l.length) (h200 : s.length + l.length ≤ 200) : FrOk p (s ++ l.take n) (l.drop n ++ l.take n) := by
  have hl : (l.drop n ++ l.take n).length = l.length := by simp; omega
  have hs : (s ++ l.take n).length = s.length + n := by simp; omega
  have hok1 := (okM_app s l (beginL p)).1 h.ok
  have hok2 : okM p (lastM p (beginL p) s) (l.take n) := by
    have := hok1.2
    rw [← List.take_append_drop n l] at this
    exact ((okM_app _ _ _).1 this).1
  have hok : okM p (beginL p) ((s ++ l.take n) ++ (l.drop n ++ l.take n)) := by
    rw [unroll_app hn, okM_app]
    exact ⟨h.ok, by rw [← h.cl]; exact hok2⟩
  have hcl : lastM p (beginL p) (s ++ l.take n) = lastM p (beginL p) ((s ++ l.take n) ++ (l.drop n ++ l.take n)) := by
    rw [unroll_app hn, lastM_app s, lastM_app (s ++ l), ← h.cl]
  exact framesE_ok (framesE_of h.z (by rw [hl]; exact h.l0) (by omega) hok hcl)
/-- the first frames are the same -/
theorem frames_prefix {s l : List Int} (h : FrOk p s l) {n : Nat} (hn : n ≤ l.length) (h' : FrOk p (s ++ l.take n) (l.drop n ++ l.take n)) : (framesE p s l).1.length ≤ (framesE p (s ++ l.take n) (l.drop n ++ l.take n)).1.length ∧ (framesE p (s ++ l.take n) (l.drop n ++ l.take n)).1.take (framesE p s l).1.length = (framesE p s l).1 := by
  rw [h.eq, h'.eq, unroll_app hn, scanM_app (s ++ l)]
  constructor
  · simp
  · rw [← List.cons_append, List.take_left']
    rfl
/-- markings in the loop -/
theorem mrk_loop {s l : List Int} (h : FrOk p s l) {n : Nat} (hn : n ≤ l.length) (h' : FrOk p (s ++ l.take n) (l.drop n ++ l.take n)) {i : Nat} (hi : i < l.length) :
    mrk p (s ++ l.take n) (l.drop n ++ l.take n) ((s ++ l.take n).length + i) = mrk p s l (s.length + if n + i < l.length then n + i else n + i - l.length) := by
  have hs : (s ++ l.take n).length = s.length + n := by simp; omega
  have hl : (l.drop n ++ l.take n).length = l.length := by simp; omega
  rw [mrk_at h' (by omega), mrk_at h (by split <;> omega), unroll_app hn, hs]
  split
  · rename_i hlt
    rw [List.take_append_of_le_length (by rw [List.length_append]; omega), show s.length + n + i = s.length + (n + i) by omega]
  · rename_i hge
    have e1 : ((s ++ l) ++ l.take n).take (s.length + n + i) = (s ++ l) ++ l.take (n + i - l.length) := by
      rw [List.take_append, List.take_of_length_le (by rw [List.length_append]; omega), List.length_append, List.take_take]
      congr 2
      omega
    have e2 : (s ++ l).take (s.length + (n + i - l.length)) = s ++ l.take (n + i - l.length) := by
      rw [List.take_append, List.take_of_length_le (by omega)]
      congr 2
      omega
    rw [e1, e2, lastM_app (s ++ l), ← h.cl, lastM_app s]
end
/- FAIR -/
/-- how many places of the loop let a step go -/
noncomputable def cntK (p : LProc) (s l : List Int) (k : Nat) (j : Nat) : Nat := (List.range j).countP fun i => decide ((k : Int) ∈ canE p (mrk p s l (s.length + i)))
noncomputable def fairR (p : LProc) (s l : List Int) : Bool := (List.range (stepsE p).1.length).all fun k => !(decide (cntK p s l k l.length = l.length) && !l.contains (k : Int))
theorem cnt_all {p : LProc} {s l : List Int} {k : Nat} : cntK p s l k l.length = l.length ↔ ∀ i, i < l.length → (k : Int) ∈ canE p (mrk p s l (s.length + i)) := by
  unfold cntK
  have h := List.countP_eq_length (l := List.range l.length) (p := fun i => decide ((k : Int) ∈ canE p (mrk p s l (s.length + i))))
  rw [List.length_range] at h
  rw [h]
  simp
theorem fair_unroll {p : LProc} {s l : List Int} (h : FrOk p s l) {n : Nat} (hn : n ≤ l.length) (h' : FrOk p (s ++ l.take n) (l.drop n ++ l.take n)) : fairR p (s ++ l.take n) (l.drop n ++ l.take n) = fairR p s l := by
  unfold fairR
  congr 1
  funext k
  have hl : (l.drop n ++ l.take n).length = l.length := by simp; omega
  have hc : (l.drop n ++ l.take n).contains (k : Int) = l.contains (k : Int) := by
    rw [Bool.eq_iff_iff, List.contains_iff_mem, List.contains_iff_mem, List.mem_append]
    constructor
    · rintro (h | h)
      · exact List.mem_of_mem_drop h
      · exact List.mem_of_mem_take h
    · intro h
      rw [← List.take_append_drop n l] at h
      exact (List.mem_append.1 h).symm
  rw [hc]
  congr 2
  rw [Bool.eq_iff_iff, decide_eq_true_iff, decide_eq_true_iff]
  have c1 := cnt_all (p := p) (s := s ++ l.take n) (l := l.drop n ++ l.take n) (k := k)
  rw [hl] at c1
  rw [hl, c1, cnt_all]
  constructor
  · intro hx j hj
    by_cases e : n ≤ j
    · have := hx (j - n) (by omega)
      rw [mrk_loop h hn h' (by omega), if_pos (by omega), show n + (j - n) = j by omega] at this
      exact this
    · have := hx (l.length + j - n) (by omega)
      rw [mrk_loop h hn h' (by omega), if_neg (by omega), show n + (l.length + j - n) - l.length = j by omega] at this
      exact this
  · intro hx i hi
    rw [mrk_loop h hn h' hi]
    exact hx _ (by split <;> omega)
/- LETTERS -/
noncomputable def letK (p : LProc) (k : Int) : Nat := if k < 0 then 9223372036854775808 else 2 ^ ((stepsE p).1.getD k.toNat (0, 0, 0)).1.toNat
noncomputable def lettersR (p : LProc) (l : List Int) : List Nat := l.map (letK p)
theorem letters_unroll {p : LProc} {s l : List Int} {n : Nat} : lettersR p (s ++ l.take n) = lettersR p s ++ (lettersR p l).take n ∧ lettersR p (l.drop n ++ l.take n) = (lettersR p l).drop n ++ (lettersR p l).take n := by
  unfold lettersR
  simp [List.map_take, List.map_drop]
theorem holds_unroll {s l : List Nat} (h0 : 0 < l.length) {n : Nat} (hn : n ≤ l.length) {t : Ltl} (hw : wfT t) : (holdsL (s ++ l.take n) (l.drop n ++ l.take n) t).getD 0 false = (holdsL s l t).getD 0 false := by
  have hl : (l.drop n ++ l.take n).length = l.length := by simp; omega
  rw [Bool.eq_iff_iff, holds_sem (by rw [hl]; exact h0) t hw 0 (by rw [hl]; omega), holds_sem h0 t hw 0 (by omega)]
  exact sem_congr t 0 0 (fun j => by rw [Nat.zero_add]; exact lat_unroll h0 hn j)
noncomputable def provesE (p : LProc) (s l : List Int) (t : Ltl) : Bool × Int :=
  if (framesE p s l).2 ≠ 0 then (false, (framesE p s l).2) else if (chkF t 1 0).1 ≠ 0 then (false, (chkF t 1 0).1)
  else (fairR p s l && !(holdsL (lettersR p s) (lettersR p l) t).getD 0 false, 0)
theorem proves_unroll {p : LProc} {s l : List Int} {t : Ltl} (h : FrOk p s l) (ht : (chkF t 1 0).1 = 0) {n : Nat} (hn : n ≤ l.length) (h200 : s.length + l.length ≤ 200) (hf : (framesE p s l).2 = 0) :
    provesE p (s ++ l.take n) (l.drop n ++ l.take n) t = provesE p s l t := by
  have h' := frames_unroll h hn h200
  have hf' : (framesE p (s ++ l.take n) (l.drop n ++ l.take n)).2 = 0 := framesE_of h'.z h'.l0 h'.sz h'.ok h'.cl
  unfold provesE
  rw [if_neg (fun g => g hf'), if_neg (fun g => g ht), if_neg (fun g => g hf), if_neg (fun g => g ht), fair_unroll h hn h', letters_unroll.1, (letters_unroll (s := s)).2]
  have hll : (lettersR p l).length = l.length := by simp [lettersR]
  rw [holds_unroll (by rw [hll]; exact h.l0) (by rw [hll]; exact hn) (chkF_wf t 1 0 ht)]
end Go.Proofs.Ytadbkppgaekmpaa
/-
  Package replay: one and Frames: walked.
-/
set_option linter.unusedVariables false
set_option linter.unusedSimpArgs false
namespace Go.Proofs.Ytadbkppgaekmpaa
open Go.RowKit

abbrev verdV (hb : Bool) (so : Option Addr) (sc : Nat) (lo : Option Addr) (lc : Nat) (s l : List Int) : Value := .agg [.bool hb, .slice so s.length sc, .slice lo l.length lc].toArray
theorem Rd.verd {w : World} {F : Nat → Prop} {v : Value} {x : Bool × List Int × List Int} (h : Rd w F v x) : ∃ hb so sc lo lc, v = verdV hb so sc lo lc x.2.1 x.2.2 ∧ Sl w F so sc x.2.1 ∧ Sl w F lo lc x.2.2 := by
  obtain ⟨c1, c2, rfl, h1, h2⟩ := h.pr
  obtain ⟨c3, c4, rfl, h3, h4⟩ := rd_pr h2
  obtain ⟨so, sc, rfl, k1⟩ := rd_sl h3
  obtain ⟨lo, lc, rfl, k2⟩ := rd_sl h4
  have e : c1 = [.bool x.1] := h1
  subst e
  exact ⟨x.1, so, sc, lo, lc, rfl, k1, k2⟩

theorem rone_ok (w0 : World) {so fo mo : Option Addr} {sc fc mc : Nat} {ns : List LNode} {fl : List LFlow} {m : List Int} (hs : Sl w0 (Old w0) so sc ns) (hf : Sl w0 (Old w0) fo fc fl) (hm : Sl w0 (Old w0) mo mc m) (hml : m.length ≤ 30) (k : Int) :
    Rt Try.prog 122 [procV so sc fo fc ns.length fl.length, .slice mo m.length mc, .int .i64 k].toArray w0 fun v w' => ∃ x, v = .tuple ⟨[x, .int .i64 (oneE (ns, fl) m k).2]⟩ ∧ Own w' w0.heap.size 3 Non x (oneE (ns, fl) m k).1 ∧ Ext w0 w' := by
  refine Rt.enter3 Try.func122 Try.ntmps122 rfl rfl ?_
  have hE := Ext.refl w0
  (repeat (first | (apply CW.seq) | (apply CW.region)))
  refine WL.boxB rfl rfl rfl fun w1 hb1 e1 => ?_
  have hE := hE.trans e1
  unfold oneE
  (repeat (first | (apply WL.pure; rfl; rfl; rfl) | (apply WL.nil) | (apply EX.thenN) | (apply CW.seq) | (apply CW.region)))
  refine CW.cond rfl (fun h => ?_) (fun h => ?_)
  · have h : k ≠ -1 := by simpa using h
    rw [if_pos h]
    (repeat (first | (apply WL.pure; rfl; rfl; rfl) | (apply CW.seq) | (apply CW.region) | (apply WL.ldA; rfl; rfl; rfl; assumption; rfl)))
    refine WL.call rfl rfl rfl (Fire_ok w1 (hs.up hE) (hf.up hE) (hm.up hE) k) ?_
    rintro _ w2 ⟨x, rfl, hox, e2⟩
    (repeat (first | (apply WL.pure; rfl; rfl; rfl) | (apply WL.nil) | (apply EX.thenN) | (apply CW.ret) | (apply EX.thenR)))
    exact EX.ret2 rfl rfl rfl ⟨_, rfl, hox.low hE.size, hE.trans e2⟩
  · have h : ¬ k ≠ -1 := by simpa using h
    rw [if_neg h]
    (repeat (first | (apply WL.pure; rfl; rfl; rfl) | (apply EX.thenN) | (apply CW.seq) | (apply CW.region) | (apply WL.ldA; rfl; rfl; rfl; assumption; rfl) | (apply CW.skip)))
    refine WL.call rfl rfl rfl (Enabled_ok w1 (hs.up hE) (hf.up hE) (hm.up hE)) ?_
    rintro _ w2 ⟨x, rfl, hox, e2⟩
    have hE := hE.trans e2
    have hce : (if chkM (ns, fl) m = 0 then canL (ns, fl) m else []) = canE (ns, fl) m := rfl
    rw [hce] at hox
    have hcl := canE_len (p := (ns, fl)) (m := m)
    obtain ⟨xo, xc, rfl, hxs⟩ := hox.oldN.sl
    (repeat (first | (apply WL.pure; rfl; rfl; rfl) | (apply WL.nil) | (apply EX.thenN) | (apply CW.seq) | (apply CW.region) | (apply WL.lenS; rfl; rfl; rfl)))
    refine CW.cond rfl (fun h => ?_) (fun h => ?_)
    · have h : 0 < (canE (ns, fl) m).length := by simpa using h
      rw [if_pos h]
      (repeat (first | (apply WL.pure; rfl; rfl; rfl) | (apply WL.nil) | (apply EX.thenN) | (apply CW.seq) | (apply CW.region) | (apply CW.ret) | (apply EX.thenR)))
      exact EX.ret2 rfl rfl rfl ⟨_, rfl, Own.nil, hE⟩
    · have h : ¬ 0 < (canE (ns, fl) m).length := by simpa using h
      rw [if_neg h]
      (repeat (first | (apply WL.pure; rfl; rfl; rfl) | (apply EX.thenN) | (apply CW.seq) | (apply CW.region) | (apply CW.skip)))
      refine WL.call rfl rfl rfl (clone_int w2 (hm.up hE) (by omega)) ?_
      rintro v w3 ⟨ho3, e3⟩
      (repeat (first | (apply WL.pure; rfl; rfl; rfl) | (apply WL.nil) | (apply EX.thenN) | (apply CW.ret)))
      exact EX.ret2 rfl rfl rfl ⟨_, rfl, ho3.low hE.size, hE.trans e3⟩
theorem stepsE_chk {p : LProc} (h : (stepsE p).2 = 0) : chkPr p = 0 := by
  unfold stepsE at h
  split at h
  · rename_i h1; exact absurd h h1
  · rename_i h1; simpa using h1
theorem one_mark {p : LProc} {m : List Int} {k : Int} (hm : MarkOk p m) (h : (oneE p m k).2 = 0) : MarkOk p (oneE p m k).1 := by
  unfold oneE at h ⊢
  split
  · rename_i g; rw [if_pos g] at h; exact fireE_mark h
  · rename_i g
    rw [if_neg g] at h
    split
    · rename_i g2; rw [if_pos g2] at h; cases h
    · exact hm
/-- what is left to play when list j of the two begins -/
def rstF (s l : List Int) (j : Nat) : List Int := if j = 0 then s ++ l else if j = 1 then l else []
theorem frGo_err {p : LProc} : ∀ {r m : List Int} {out : List (List Int)}, (frGo p r m out).2.2 ≠ 0 → (frGo p r m out).1 = []
  | [], m, out, h => absurd rfl h
  | k :: r, m, out, h => by
    rw [frGo] at h ⊢
    split
    · rfl
    · rename_i g; rw [if_neg g] at h; exact frGo_err h
set_option maxHeartbeats 1000000 in
theorem Frames_ok (w0 : World) {so fo ao bo : Option Addr} {sc fc ac bc : Nat} {hb : Bool} {ns : List LNode} {fl : List LFlow} {s l : List Int} (hs : Sl w0 (Old w0) so sc ns) (hf : Sl w0 (Old w0) fo fc fl) (hst : Sl w0 (Old w0) ao ac s) (hlp : Sl w0 (Old w0) bo bc l) :
    Rt Try.prog 58 [procV so sc fo fc ns.length fl.length, verdV hb ao ac bo bc s l].toArray w0 fun v w' => ∃ mv, v = .tuple ⟨[mv, .int .i64 (framesE (ns, fl) s l).2]⟩ ∧ Rd w' (Old w') mv (framesE (ns, fl) s l).1 ∧ Ext w0 w' := by
  have hsl := hst.len63
  have hll := hlp.len63
  have hnil : ∀ w : World, Rd w (Old w) (.slice none 0 0) ([] : List (List Int)) := fun w => (Own.nil (B := 0) (F := Non) (e := 0) (α := List Int)).old (fun _ h => h.elim)
  refine Rt.enter2 Try.func58 Try.ntmps58 rfl rfl ?_
  have hE := Ext.refl w0
  (repeat (first | (apply CW.seq) | (apply CW.region)))
  refine WL.boxB rfl rfl rfl fun w1 hb2 e1 => ?_
  have hE := hE.trans e1
  skip
  refine WL.boxB rfl rfl rfl fun w1' hb3 e1' => ?_
  have hb2 := hb2.ext e1'
  have hE := hE.trans e1'
  (repeat (first | (apply WL.pure; rfl; rfl; rfl) | (apply WL.nil) | (apply EX.thenN) | (apply CW.seq) | (apply CW.region) | (apply WL.ldA; rfl; rfl; rfl; assumption; rfl)))
  refine WL.call rfl rfl rfl (Begin_ok w1' (hs.up hE) (hf.up hE)) ?_
  rintro _ w2 ⟨x, rfl, hox, e2⟩
  have hE := hE.trans e2
  have hb2 := hb2.ext e2
  have hb3 := hb3.ext e2
  unfold framesE
  by_cases hz : (stepsE (ns, fl)).2 = 0
  case neg =>
    have hz1 : ((stepsE (ns, fl)).2 != 0) = true := by simpa using hz
    rw [if_pos hz]
    (repeat (first | (apply WL.pure; rfl; rfl; rfl) | (apply WL.nil) | (apply EX.thenN) | (apply CW.seq) | (apply CW.region) | (apply CW.block)))
    rw [hz1]
    (repeat (first | (apply WL.pure; rfl; rfl; rfl) | (apply WL.nil) | (apply EX.thenN) | (apply CW.seq) | (apply CW.region) | (apply CW.condT; rfl) | (apply CW.ret) | (apply EX.thenR) | (apply EX.inR)))
    exact EX.ret2 rfl rfl rfl ⟨_, rfl, hnil _, hE⟩
  rw [if_pos hz] at hox
  rw [if_neg (by simp [hz]), hz]
  obtain ⟨xo, xc, rfl, hxs⟩ := hox.oldN.sl
  have hbx := fun g hg => (hox.lt g hg)
  have hmk : MarkOk (ns, fl) (beginL (ns, fl)) := beginL_ok
  have h30 : fl.length ≤ 30 := (chkPr_ok (stepsE_chk hz)).f
  generalize beginL (ns, fl) = m0 at *
  (repeat (first | (apply WL.pure; rfl; rfl; rfl) | (apply WL.nil) | (apply EX.thenN) | (apply CW.seq) | (apply CW.region) | (apply WL.lenS; rfl; rfl; rfl) | (apply WL.fa; rfl; rfl; rfl) | (apply WL.ld; rfl; rfl; rfl; assumption; rfl) | (apply CW.block) | (apply CW.condF; rfl)))
  refine CW.cond rfl (fun h => ?_) (fun h => ?_)
  · have h : l.length = 0 := by simpa using h
    rw [if_pos h]
    (repeat (first | (apply WL.pure; rfl; rfl; rfl) | (apply WL.nil) | (apply EX.thenN) | (apply CW.seq) | (apply CW.region) | (apply CW.ret) | (apply EX.thenR) | (apply EX.inR)))
    exact EX.ret2 rfl rfl rfl ⟨_, rfl, hnil _, hE⟩
  have h0 : ¬ l.length = 0 := by simpa using h
  rw [if_neg h0]
  generalize hG : frGo (ns, fl) (s ++ l) m0 [m0] = G
  (repeat (first | (apply WL.pure; rfl; rfl; rfl) | (apply CW.seq) | (apply CW.region) | (apply WL.lenS; rfl; rfl; rfl) | (apply WL.fa; rfl; rfl; rfl) | (apply WL.ld; rfl; rfl; rfl; assumption; rfl)))
  (refine WL.lookG rfl rfl (fun h => ?_) (fun h => ?_))
  · have h : s.length > 60000 := by simp at h; omega
    rw [if_pos (.inl h)]
    (repeat (first | (apply WL.pure; rfl; rfl; rfl) | (apply WL.nil) | (apply EX.thenN) | (apply CW.seq) | (apply CW.region) | (apply WL.pass; rfl; rfl) | (apply CW.condT; rfl) | (apply CW.ret) | (apply EX.thenR) | (apply EX.inR)))
    exact EX.ret2 rfl rfl rfl ⟨_, rfl, hnil _, hE⟩
  have hs6 : ¬ s.length > 60000 := by simp at h; omega
  (repeat (first | (apply WL.sub'; rfl; rfl; rfl; rfl; omega; omega) | (apply WL.pure; rfl; rfl; rfl) | (apply WL.nil) | (apply EX.thenN) | (apply WL.lenS; rfl; rfl; rfl) | (apply WL.fa; rfl; rfl; rfl) | (apply WL.ld; rfl; rfl; rfl; assumption; rfl)))
  refine CW.cond rfl (fun h => ?_) (fun h => ?_)
  · have h : l.length > 60000 - s.length := by simp at h; omega
    rw [if_pos (.inr h)]
    (repeat (first | (apply WL.pure; rfl; rfl; rfl) | (apply WL.nil) | (apply EX.thenN) | (apply CW.seq) | (apply CW.region) | (apply CW.ret) | (apply EX.thenR) | (apply EX.inR)))
    exact EX.ret2 rfl rfl rfl ⟨_, rfl, hnil _, hE⟩
  have hl6 : ¬ l.length > 60000 - s.length := by simp at h; omega
  rw [if_neg (by omega)]
  (repeat (first | (apply WL.pure; rfl; rfl; rfl) | (apply EX.thenN) | (apply CW.seq) | (apply CW.region) | (apply EX.inN) | (apply CW.skip)))
  refine WL.lit (α := Raw) (F := Non) (ys := [(⟨.slice xo m0.length xc⟩ : Raw)]) rfl rfl rfl rfl rfl (.cons (Rd.mkRaw _ _ _ rfl) .nil) (by show 1 * 1 ≤ 16777216; decide) (fun _ h => h.elim) (fun w3 ho3 hg3 => ?_)
  have e3 : Ext w2 w3 := (Ext.refl _).grown hg3 (Nat.le_refl _) (fun k h => by cases h)
  have hm0 : Sl w3 (Fx w3 (.slice (some ⟨w2.heap.size, 0, none⟩) 1 1) (.slice none 0 0)) xo xc m0 := hxs.mono (fun b hb => e3.block b hb) fun b hb => ⟨Nat.lt_of_lt_of_le hb e3.size, fun e => by
    have e : some w2.heap.size = some b := e
    injection e with e; have : b < w2.heap.size := hb; omega, fun e => by cases e⟩
  have hM : Marks w3 w2.heap.size (.slice (some ⟨w2.heap.size, 0, none⟩) 1 1) (.slice none 0 0) [(⟨.slice xo m0.length xc⟩ : Raw)] [m0] [] :=
    ⟨ho3, Own.nil, (fun g _ h => by cases h), rfl, fun i h1 h2 => by
      obtain rfl : i = 0 := by simp at h1; omega
      exact ⟨xo, xc, rfl, hm0⟩⟩
  have hb23 := hb2.ext e3
  have hb33 := hb3.ext e3
  clear ho3 hg3 hox hxs hbx
  generalize Value.slice (some ⟨w2.heap.size, 0, none⟩) 1 1 = mv0 at *
  (repeat (first | (apply WL.pure; rfl; rfl; rfl) | (apply WL.nil) | (apply EX.thenN) | (apply CW.seq) | (apply CW.region) | (apply WL.fa; rfl; rfl; rfl) | (apply WL.ld; rfl; rfl; rfl; assumption; rfl)))
  refine WL.lit (α := Raw) (F := Non) (ys := [(⟨.slice ao s.length ac⟩ : Raw), (⟨.slice bo l.length bc⟩ : Raw)]) rfl rfl rfl rfl rfl (.cons (Rd.mkRaw _ _ _ rfl) (.cons (Rd.mkRaw _ _ _ rfl) .nil)) (by show 2 * 1 ≤ 16777216; decide) (fun _ h => h.elim) (fun w4 ho4 hg4 => ?_)
  have e4 : Ext w3 w4 := (Ext.refl _).grown hg4 (Nat.le_refl _) (fun k h => by cases h)
  have hM0 := hM
  have hM := hM.ext e4
  have hm0 := Fx.ext e4 hm0
  have hb24 := hb2.ext (e3.trans e4)
  have hb34 := hb3.ext (e3.trans e4)
  have z3 := e3.size
  have e24 := e3.trans e4
  have hne0 : ∀ g, mv0.ownBlock = some g → g ≠ w3.heap.size := fun g hg => by have := (hM0.own.lt g hg).2.1; omega
  clear hg4 e3 e4 hM0
  (repeat (first | (apply WL.pure; rfl; rfl; rfl) | (apply WL.nil) | (apply EX.thenN) | (apply WL.lenS; rfl; rfl; rfl) | (apply CW.block)))
  refine CW.loop (S := Nat × (Option Addr × Nat) × Value × List Raw × List (List Int) × List Int) (fun s => [(2, .pointer (some ⟨w0.heap.size, 0, none⟩)), (3, .pointer (some ⟨w1.heap.size, 0, none⟩)), (6, .slice s.2.1.1 s.2.2.2.2.2.length s.2.1.2), (8, s.2.2.1), (48, .slice (some ⟨w3.heap.size, 0, none⟩) 2 2), (49, .int .i64 2), (50, .int .i64 s.1)])
    (fun x w => x.1 ≤ 2 ∧ frGo (ns, fl) (rstF s l x.1) x.2.2.2.2.2 x.2.2.2.2.1 = G ∧ MarkOk (ns, fl) x.2.2.2.2.2
      ∧ Marks w w2.heap.size x.2.2.1 (.slice none 0 0) x.2.2.2.1 x.2.2.2.2.1 [] ∧ Sl w (Fx w x.2.2.1 (.slice none 0 0)) x.2.1.1 x.2.1.2 x.2.2.2.2.2 ∧ x.2.2.2.1.length + (rstF s l x.1).length = s.length + l.length + 1 ∧ Ext w2 w ∧ (∀ g, x.2.2.1.ownBlock = some g → g ≠ w3.heap.size) ∧ Own w w3.heap.size 22 Non (.slice (some ⟨w3.heap.size, 0, none⟩) 2 2) [(⟨.slice ao s.length ac⟩ : Raw), (⟨.slice bo l.length bc⟩ : Raw)]) (fun s => 2 - s.1)
    (0, (xo, xc), mv0, [(⟨.slice xo m0.length xc⟩ : Raw)], [m0], m0) (by repeat (first | exact trivial | refine ⟨rfl, ?_⟩)) ⟨Nat.zero_le _, hG, hmk, hM, hm0, by simp [rstF]; omega, e24, hne0, ho4⟩ ?_
  clear hM hm0 ho4
  rintro ⟨j, ⟨yo, yc⟩, mv, vs, xs, m⟩ w5 ⟨hj, hT, hmk, hM, hm, hvl, e5, hne, ho5⟩
  dsimp only at hj hT hmk hM hm hvl e5 hne ho5 ⊢
  have hE5 := hE.trans e5
  have hb25 := hb2.ext e5
  have hb35 := hb3.ext e5
  (repeat (first | (apply WL.pure; rfl; rfl; rfl) | (apply WL.nil) | (apply EX.thenN) | (apply CW.seq) | (apply CW.region)))
  refine CW.cond rfl (fun h => ?_) (fun h => ?_)
  · have hj2 : j < 2 := by simp at h; omega
    (repeat (first | (apply EX.thenN) | (apply CW.seq) | (apply CW.region) | (apply CW.block) | (apply CW.skip)))
    refine WL.elemON rfl rfl rfl rfl rfl ho5 hj2 (fun _ => rfl) (fun u p hu => ?_)
    obtain ⟨rfl, _⟩ := hu.raw
    obtain ⟨qo, qc, q, hq, hqs, hr1, hr2⟩ : ∃ qo qc q, ([(⟨.slice ao s.length ac⟩ : Raw), (⟨.slice bo l.length bc⟩ : Raw)][j]).v = .slice qo q.length qc ∧ Sl w0 (Old w0) qo qc q ∧ rstF s l j = q ++ rstF s l (j + 1) ∧ q.length ≤ 60000 := by
      match j, hj2 with
      | 0, _ => exact ⟨ao, ac, s, rfl, hst, rfl, by omega⟩
      | 1, _ => exact ⟨bo, bc, l, rfl, hlp, by simp [rstF], by omega⟩
    rw [hq]
    rw [hr1] at hT hvl
    (repeat (first | (apply WL.pure; rfl; rfl; rfl) | (apply WL.nil) | (apply EX.thenN) | (apply CW.seq) | (apply CW.region) | (apply WL.lenS; rfl; rfl; rfl) | (apply CW.block)))
    refine CW.loop (S := Nat × (Option Addr × Nat) × Value × List Raw × List (List Int) × List Int) (fun s => [(2, .pointer (some ⟨w0.heap.size, 0, none⟩)), (3, .pointer (some ⟨w1.heap.size, 0, none⟩)), (6, .slice s.2.1.1 s.2.2.2.2.2.length s.2.1.2), (8, s.2.2.1), (48, .slice (some ⟨w3.heap.size, 0, none⟩) 2 2), (49, .int .i64 2), (50, .int .i64 j), (54, .slice qo q.length qc), (55, .int .i64 q.length), (56, .int .i64 s.1)])
      (fun x w => x.1 ≤ q.length ∧ frGo (ns, fl) (q.drop x.1 ++ rstF s l (j + 1)) x.2.2.2.2.2 x.2.2.2.2.1 = G ∧ MarkOk (ns, fl) x.2.2.2.2.2
        ∧ Marks w w2.heap.size x.2.2.1 (.slice none 0 0) x.2.2.2.1 x.2.2.2.2.1 [] ∧ Sl w (Fx w x.2.2.1 (.slice none 0 0)) x.2.1.1 x.2.1.2 x.2.2.2.2.2 ∧ x.2.2.2.1.length + (q.length - x.1) + (rstF s l (j + 1)).length = s.length + l.length + 1 ∧ Ext w2 w ∧ (∀ g, x.2.2.1.ownBlock = some g → g ≠ w3.heap.size) ∧ Own w w3.heap.size 22 Non (.slice (some ⟨w3.heap.size, 0, none⟩) 2 2) [(⟨.slice ao s.length ac⟩ : Raw), (⟨.slice bo l.length bc⟩ : Raw)]) (fun s => q.length - s.1)
      (0, (yo, yc), mv, vs, xs, m) (by repeat (first | exact trivial | refine ⟨rfl, ?_⟩)) ⟨Nat.zero_le _, by simpa using hT, hmk, hM, hm, by simp only [List.length_append] at hvl; dsimp only; omega, e5, hne, ho5⟩ ?_
    clear hM hm hmk hT hvl hE5 hb25 hb35 ho5 e5 hne
    rintro ⟨i, ⟨yo, yc⟩, mv, vs, xs, m⟩ w6 ⟨hi, hT, hmk, hM, hm, hvl, e6, hne, ho6⟩
    dsimp only at hi hT hmk hM hm hvl e6 hne ho6 ⊢
    have hE6 := hE.trans e6
    have hb26 := hb2.ext e6
    have hb36 := hb3.ext e6
    (repeat (first | (apply WL.pure; rfl; rfl; rfl) | (apply WL.nil) | (apply EX.thenN) | (apply CW.seq) | (apply CW.region)))
    refine CW.cond rfl (fun h => ?_) (fun h => ?_)
    · have hi' : i < q.length := by simp at h; omega
      rw [List.drop_eq_getElem_cons hi', List.cons_append, frGo] at hT
      (repeat (first | (apply EX.thenN) | (apply CW.seq) | (apply CW.region) | (apply CW.block) | (apply CW.skip)))
      refine WL.elemI rfl rfl rfl rfl rfl (hqs.up hE6) hi' rfl (fun _ => rfl) (fun qq => ?_)
      generalize q[i] = k at *
      (repeat (first | (apply WL.pure; rfl; rfl; rfl) | (apply WL.nil) | (apply EX.thenN) | (apply CW.seq) | (apply CW.region) | (apply WL.ldA; rfl; rfl; rfl; assumption; rfl)))
      refine WL.call rfl rfl rfl (rone_ok w6 (hs.up hE6) (hf.up hE6) (Fx.old hm) (by rw [hmk.1]; exact h30) k) ?_
      rintro _ w7 ⟨x, rfl, hoy, e7⟩
      have hM5 := hM
      have hM := hM.ext e7
      have hE7 := hE6.trans e7
      have e67 := e6.trans e7
      have hb27 := hb26.ext e7
      by_cases hz2 : (oneE (ns, fl) m k).2 = 0
      case neg =>
        have hz1 : ((oneE (ns, fl) m k).2 != 0) = true := by simpa using hz2
        rw [if_pos hz2] at hT
        subst hT
        rw [if_pos hz2]
        (repeat (first | (apply WL.pure; rfl; rfl; rfl) | (apply WL.nil) | (apply EX.thenN) | (apply CW.seq) | (apply CW.region)))
        rw [hz1]
        (repeat (first | (apply WL.pure; rfl; rfl; rfl) | (apply WL.nil) | (apply EX.thenN) | (apply CW.seq) | (apply CW.region) | (apply CW.condT; rfl) | (apply CW.ret) | (apply EX.thenR) | (apply EX.inR)))
        exact EX.ret2 rfl rfl rfl ⟨_, rfl, hnil _, hE7⟩
      rw [if_neg (by simp [hz2])] at hT
      have hmk := one_mark hmk hz2
      rw [hz2]
      generalize (oneE (ns, fl) m k).1 = m' at *
      obtain ⟨zo, zc, rfl, hym⟩ := hoy.slF (F' := Fx w7 mv (.slice none 0 0)) (fun _ h => h.elim) (fun g hg => by
        have h1 := hoy.lt g hg
        refine ⟨h1.2.1, fun e => ?_, fun e => by cases e⟩
        have := (hM5.own.lt g e).2.1; omega)
      clear hoy hM5
      (repeat (first | (apply WL.pure; rfl; rfl; rfl) | (apply WL.nil) | (apply EX.thenN) | (apply CW.seq) | (apply CW.region) | (apply CW.condF; rfl) | (apply CW.skip)))
      refine WL.app1 (α := Raw) (F := Non) (yv := (⟨.slice zo m'.length zc⟩ : Raw)) rfl rfl (fun _ => rfl) rfl rfl (fun _ => rfl) hM.own (Rd.mkRaw _ _ _ rfl) e67.size (fun _ h => h.elim) (by decide) (by unfold maxLen; omega) (by omega) (fun mv' w8 p ho8 hg8 hnb8 => ?_)
      have hM8 := hM.push hym ho8 hg8 hnb8
      have hm8 := Fx.step1 hg8 hnb8 hym
      have e8 : Ext w2 w8 := e67.grown hg8 e67.size (fun b hb => (hM.own.lt b hb).1)
      have ho7 := ho6.extN e7
      have zz := e67.size
      have ho8' := ho7.keptN hg8 (fun g hg' e => hne g e.symm (by cases hg'; rfl))
      have hne8 : ∀ g, mv'.ownBlock = some g → g ≠ w3.heap.size := fun g hg => (hnb8 g hg).elim (hne g) (fun h => by have := (ho7.lt w3.heap.size rfl).2.1; omega)
      (repeat (first | (apply WL.add; rfl; rfl; rfl; rfl; omega; omega) | (apply WL.pure; rfl; rfl; rfl) | (apply WL.nil) | (apply EX.thenN) | (apply CW.region) | (apply EX.inN)))
      exact EX.back (i + 1, (zo, zc), mv', vs ++ [⟨.slice zo m'.length zc⟩], xs ++ [m'], m') (by repeat (first | exact trivial | refine ⟨rfl, ?_⟩)) ⟨hi', hT, hmk, hM8, hm8, by simp; omega, e8, hne8, ho8'⟩ (by dsimp only; omega)
    · obtain rfl : i = q.length := by simp at h; omega
      rw [List.drop_length, List.nil_append] at hT
      (repeat (first | (apply WL.add; rfl; rfl; rfl; rfl; omega; omega) | (apply WL.pure; rfl; rfl; rfl) | (apply WL.nil) | (apply EX.thenN) | (apply CW.region) | (apply EX.inN) | (apply CW.exit) | (apply EX.thenX) | (apply EX.inX)))
      exact EX.back (j + 1, (yo, yc), mv, vs, xs, m) (by repeat (first | exact trivial | refine ⟨rfl, ?_⟩)) ⟨hj2, hT, hmk, hM, hm, by dsimp only; omega, e6, hne, ho6⟩ (by dsimp only; omega)
  · obtain rfl : j = 2 := by simp at h; omega
    have hT : frGo (ns, fl) [] m xs = G := hT
    rw [frGo] at hT
    subst hT
    dsimp only
    rw [if_neg (by simp)]
    have hxl : s.length < xs.length := by rw [← hM.len]; simp [rstF] at hvl; omega
    have hvl' : s.length < vs.length := by rw [hM.len]; exact hxl
    obtain ⟨zo, zc, hz, hzs⟩ := hM.el s.length hvl' hxl
    rw [show xs.getD s.length [] = xs[s.length] by rw [List.getD_eq_getElem?_getD, List.getElem?_eq_getElem hxl]; rfl]
    (repeat (first | (apply WL.pure; rfl; rfl; rfl) | (apply EX.thenN) | (apply CW.seq) | (apply CW.region) | (apply WL.lenS; rfl; rfl; rfl) | (apply WL.fa; rfl; rfl; rfl) | (apply WL.ld; rfl; rfl; rfl; assumption; rfl) | (apply CW.exit) | (apply EX.thenX) | (apply EX.inX)))
    refine WL.elemON rfl rfl rfl rfl rfl hM.own hvl' (fun _ => rfl) (fun u p hu => ?_)
    obtain ⟨rfl, _⟩ := hu.raw
    rw [hz]
    (repeat (apply WL.pure; rfl; rfl; rfl))
    refine WL.call rfl rfl rfl (equal_int w5 (Fx.old hzs) (Fx.old hm)) ?_
    rintro _ w6 ⟨rfl, e6⟩
    by_cases he : xs[s.length] = m
    · rw [if_pos he, show (xs[s.length] == m) = true by simpa using he]
      (repeat (first | (apply WL.pure; rfl; rfl; rfl) | (apply WL.nil) | (apply EX.thenN) | (apply CW.seq) | (apply CW.region) | (apply CW.condF; rfl) | (apply CW.ret) | (apply CW.skip)))
      exact EX.ret2 rfl rfl rfl ⟨_, rfl, (hM.ext e6).rd, hE5.trans e6⟩
    · rw [if_neg he, show (xs[s.length] == m) = false by simpa using he]
      (repeat (first | (apply WL.pure; rfl; rfl; rfl) | (apply WL.nil) | (apply EX.thenN) | (apply CW.seq) | (apply CW.region) | (apply CW.condT; rfl) | (apply CW.ret) | (apply EX.thenR)))
      exact EX.ret2 rfl rfl rfl ⟨_, rfl, hnil _, hE5.trans e6⟩
end Go.Proofs.Ytadbkppgaekmpaa
/-
  The world of a process: plain lists, no program in sight.
-/
set_option linter.unusedVariables false
set_option linter.unusedSimpArgs false
namespace Go.Proofs.Ytadbkppgaekmpaa

abbrev LWorld4 := List Int × List (List Int) × List Nat × List (List Int)
def ofRow (l : List LEdge) (n : Nat) : List LEdge := if l = [] then [(-1, (n : Int))] else l.map fun x => (x.1, (n : Int))
def ofP (nx : List (List LEdge)) (k : Nat) : List LEdge := (List.range k).flatMap fun n => ofRow (nx.getD n []) n
def mny (nx : List (List LEdge)) (n : Nat) : Nat := max 1 (nx.getD n []).length
def atV (nx : List (List LEdge)) (n : Nat) : Nat := (ofP nx n).length
theorem gD_left {α : Type} {l t : List α} {j : Nat} {d : α} (h : j < l.length) : (l ++ t).getD j d = l.getD j d := by simp [List.getD_eq_getElem?_getD, List.getElem?_append_left h]
theorem gD_right {α : Type} {l t : List α} {i : Nat} {d : α} : (l ++ t).getD (l.length + i) d = t.getD i d := by simp [List.getD_eq_getElem?_getD, List.getElem?_append_right]
theorem gD_map {α β : Type} {f : α → β} {l : List α} {i : Nat} {d : α} {e : β} (h : i < l.length) : (l.map f).getD i e = f (l.getD i d) := by simp [List.getD_eq_getElem?_getD, List.getElem?_eq_getElem h]
section
variable {nx : List (List LEdge)}
theorem ofRow_len {l : List LEdge} {n : Nat} : (ofRow l n).length = max 1 l.length := by
  unfold ofRow
  split
  · rename_i h; subst h; rfl
  · rename_i h
    have : 0 < l.length := List.length_pos_iff.2 h
    rw [List.length_map]; omega
theorem ofP_next {k : Nat} : ofP nx (k + 1) = ofP nx k ++ ofRow (nx.getD k []) k := by
  unfold ofP; rw [List.range_succ, List.flatMap_append]; simp
theorem atV_zero : atV nx 0 = 0 := rfl
theorem atV_next {n : Nat} : atV nx (n + 1) = atV nx n + mny nx n := by unfold atV mny; rw [ofP_next, List.length_append, ofRow_len]
theorem atV_mono {a b : Nat} (h : a ≤ b) : atV nx a ≤ atV nx b := by
  induction b with
  | zero => rw [show a = 0 by omega]; exact Nat.le_refl _
  | succ b ih =>
    by_cases e : a = b + 1
    · rw [e]; exact Nat.le_refl _
    · rw [atV_next]; exact Nat.le_trans (ih (by omega)) (Nat.le_add_right _ _)
theorem mny_pos {n : Nat} : 1 ≤ mny nx n := Nat.le_max_left _ _
theorem atV_lt {n K i : Nat} (hn : n < K) (hi : i < mny nx n) : atV nx n + i < atV nx K := by
  have h1 := atV_mono (nx := nx) (show n + 1 ≤ K by omega)
  rw [atV_next] at h1
  omega
theorem of_at {n i : Nat} : ∀ {K : Nat}, n < K → i < mny nx n → (ofP nx K).getD (atV nx n + i) (0, 0) = (ofRow (nx.getD n []) n).getD i (0, 0)
  | 0, h, _ => absurd h (by omega)
  | K + 1, hn, hi => by
    by_cases e : n = K
    · subst e
      rw [ofP_next]; exact gD_right
    · have hlt := atV_lt (nx := nx) (show n < K by omega) hi
      have ih := of_at (K := K) (show n < K by omega) hi
      rw [← ih, ofP_next]; exact gD_left hlt
theorem of_inv {j : Nat} : ∀ {K : Nat}, j < atV nx K → ∃ n i, n < K ∧ i < mny nx n ∧ j = atV nx n + i
  | 0, h => absurd h (by rw [atV_zero]; omega)
  | K + 1, h => by
    rw [atV_next] at h
    by_cases e : j < atV nx K
    · obtain ⟨n, i, h1, h2, h3⟩ := of_inv e
      exact ⟨n, i, by omega, h2, h3⟩
    · exact ⟨K, j - atV nx K, by omega, by omega, by omega⟩
/-- a state's step and marking -/
def ofX (nx : List (List LEdge)) (j : Nat) : LEdge := (ofP nx nx.length).getD j (0, 0)
theorem ofX_at {n i : Nat} (hn : n < nx.length) (hi : i < mny nx n) : ofX nx (atV nx n + i) = (if nx.getD n [] = [] then (-1, (n : Int)) else (((nx.getD n []).getD i (0, 0)).1, (n : Int))) := by
  unfold ofX
  rw [of_at hn hi]
  unfold ofRow
  by_cases h : nx.getD n [] = []
  · rw [if_pos h, if_pos h]
    unfold mny at hi
    rw [h] at hi
    have : i = 0 := by simp at hi; omega
    subst this; rfl
  · rw [if_neg h, if_neg h]
    unfold mny at hi
    have : 0 < (nx.getD n []).length := List.length_pos_iff.2 h
    have hi' : i < (nx.getD n []).length := by omega
    exact gD_map (d := (0, 0)) hi'
end
def atL (nx : List (List LEdge)) (k : Nat) : List Int := (List.range k).map fun n => ((atV nx n : Nat) : Int)
def manyL (nx : List (List LEdge)) (k : Nat) : List Int := (List.range k).map fun n => ((mny nx n : Nat) : Int)
def allL (nx : List (List LEdge)) (m : Nat) : List Int := (List.range (mny nx m)).map fun i : Nat => ((atV nx m + i : Nat) : Int)
def toE (nx : List (List LEdge)) (j : Nat) : LEdge := (nx.getD (ofX nx j).2.toNat []).getD (j - atV nx (ofX nx j).2.toNat) (0, 0)
def nextJ (nx : List (List LEdge)) (j : Nat) : List Int := if (ofX nx j).1 < 0 then [(j : Int)] else allL nx (toE nx j).2.toNat
def labelJ (sl : List LStep) (nx : List (List LEdge)) (j : Nat) : Nat := if (ofX nx j).1 < 0 then 9223372036854775808 else 2 ^ (sl.getD (ofX nx j).1.toNat (0, 0, 0)).1.toNat
def canJ (nx : List (List LEdge)) (j : Nat) (k : Int) : Bool := (nx.getD (ofX nx j).2.toNat []).any fun y => y.1 == k
def inF (nx : List (List LEdge)) (k : Int) (j : Nat) : Bool := !canJ nx j k || (ofX nx j).1 == k
def fairN (nx : List (List LEdge)) (k : Int) (n : Nat) : List Int := ((List.range n).filter (inF nx k)).map fun j : Nat => (j : Int)
def fairK (nx : List (List LEdge)) (k : Int) : List Int := fairN nx k (atV nx nx.length)
def runsW (sl : List LStep) (nx : List (List LEdge)) : LWorld4 := (allL nx 0, (List.range (atV nx nx.length)).map (nextJ nx), (List.range (atV nx nx.length)).map (labelJ sl nx), (List.range sl.length).map fun k : Nat => fairK nx (k : Int))
def nilW : LWorld4 := ([], [], [], [])
noncomputable def runsE (p : LProc) (tok st : Int) : (LWorld4 × List LEdge) × Int :=
  if (exploreE p tok st).2 ≠ 0 then ((nilW, []), (exploreE p tok st).2) else if 600 < atV (exploreE p tok st).1.2 (exploreE p tok st).1.2.length then ((nilW, []), 2)
  else ((runsW (stepsE p).1 (exploreE p tok st).1.2, ofP (exploreE p tok st).1.2 (exploreE p tok st).1.2.length), 0)
theorem fairN_next {nx : List (List LEdge)} {k : Int} {n : Nat} : fairN nx k (n + 1) = fairN nx k n ++ if inF nx k n = true then [(n : Int)] else [] := by
  unfold fairN
  rw [List.range_succ, List.filter_append, List.map_append]
  congr 1
  rw [List.filter_cons]
  split <;> simp
theorem fairN_len {nx : List (List LEdge)} {k : Int} {n : Nat} : (fairN nx k n).length ≤ n := by
  unfold fairN
  rw [List.length_map]
  exact Nat.le_trans (List.length_filter_le _ _) (by simp)
/-- what the walk needs to know of the edges -/
structure NxOk (sl : List LStep) (nx : List (List LEdge)) : Prop where
  ed : ∀ j, j < nx.length → ∀ e ∈ nx.getD j [], 0 ≤ e.1 ∧ e.1 < sl.length ∧ 0 ≤ e.2 ∧ e.2 < nx.length
  row : ∀ j, (nx.getD j []).length ≤ 60
  n : nx.length ≤ 200
  pos : 0 < nx.length
  node : ∀ s ∈ sl, 0 ≤ s.1 ∧ s.1 < 62
  sl : sl.length ≤ 60
theorem canP_sub {p : LProc} {m : List Int} {k : Int} (h : k ∈ canE p m) : 0 ≤ k ∧ k < (stepsL p).length := by
  unfold canE at h
  split at h
  · unfold canL canP at h
    obtain ⟨i, hi, rfl⟩ := List.mem_map.1 h
    have := List.mem_range.1 (List.mem_filter.1 hi).1
    omega
  · cases h
theorem stepsL_node {p : LProc} : ∀ s ∈ stepsL p, 0 ≤ s.1 ∧ s.1 < p.1.length := fun s hs => by
  obtain ⟨n, hn, hs⟩ := stepsP_mem.1 hs
  have := stepsK_node s hs
  rw [this]; omega
theorem explore_nx {p : LProc} {tok st : Int} (h : (exploreE p tok st).2 = 0) : NxOk (stepsE p).1 (exploreE p tok st).1.2 := by
  obtain ⟨hz, hS, hx, hl, h0, _, h200⟩ := explore_law h
  obtain ⟨hc, he, h60⟩ := stepsE_ok hz
  have hst := hS.st
  have hrow : ∀ j, j < (exploreE p tok st).1.2.length → ((exploreE p tok st).1.2.getD j []).length = (canE p ((exploreE p tok st).1.1.getD j [])).length := fun j hj => by
    rw [← hx.can j hj, List.length_map]
  refine ⟨fun j hj e hE => ?_, fun j => ?_, by omega, by omega, fun s hs => ?_, by rw [he]; exact h60⟩
  · have h1 := hx.ed j hj e hE
    have h2 : e.1 ∈ canE p ((exploreE p tok st).1.1.getD j []) := by rw [← hx.can j hj]; exact List.mem_map.2 ⟨e, hE, rfl⟩
    have h3 := canP_sub h2
    rw [he]
    exact ⟨h3.1, h3.2, h1.2.1, by have := h1.2.2.1; omega⟩
  · by_cases hj : j < (exploreE p tok st).1.2.length
    · rw [hrow j hj]
      unfold canE
      split
      · unfold canL canP
        rw [List.length_map]
        exact Nat.le_trans (List.length_filter_le _ _) (by simp; exact h60)
      · simp
    · rw [List.getD_eq_getElem?_getD, List.getElem?_eq_none (by omega)]; simp
  · rw [he] at hs
    have h1 := stepsL_node s hs
    have h2 := (chkPr_ok hc).n
    omega
end Go.Proofs.Ytadbkppgaekmpaa
/-
  Maps from a key to its number, made by the call: the keys as a list, in the order in which they came. Over any program.
-/
set_option linter.unusedVariables false
set_option linter.unusedSimpArgs false
namespace Go.Proofs.Ytadbkppgaekmpaa
open Go.RowKit

/-- a map type, its key's type and its element's type -/
class IsM (P : Program) (t : TypeId) (k e : outParam TypeId) : Prop where
  ok : P.underlying t = some (.map k e)
/-- keys of which the model's order is whole -/
class IsKy (P : Program) (k : TypeId) : Prop where
  ok : WideMaps.KeyLaw P k
theorem IsKy.of {P : Program} {k : TypeId} {d : TypeDesc} (hl : laidOutB P = true) {m : Nat} (hm : Nat.ble (m + 1) 10000 = true) (hrow : Nat.ble (k + 1) P.types.size = true) (hk : P.keyTypeAt m k = true) (hu : P.underlying k = some d) (hd : aggD d = true) : IsKy P k :=
  ⟨deep_law_laid hl (Nat.le_of_ble_eq_true hm) (Nat.lt_of_succ_le (Nat.le_of_ble_eq_true hrow)) hk (by
    rw [hu]; cases d <;> first | rfl | (cases hd))⟩
/-- a type whose zero value is the number 0 -/
class IsZ0 (P : Program) (e : TypeId) : Prop where
  ok : (P.info? e).map (fun i => i.zero) = some (some (.int .i64 0))
/-- v is a key of type k -/
def KeyV (P : Program) (k : TypeId) (v : Value) : Prop := ∃ l, keyOf P k v = some l
/-- block b is a map that holds the keys ks, each with its number -/
def NumM (P : Program) (k : TypeId) (w : World) (b : Nat) (ks : List Value) : Prop :=
  ∃ (es : Array MapEntry) (clock : Nat), w.heap[b]? = some (.map es clock) ∧ es.toList.map (·.key) = ks ∧ (∀ (i : Nat) (e : MapEntry), es.toList[i]? = some e → e.val = .int .i64 (i : Int)) ∧ (∀ x ∈ ks, KeyV P k x) ∧ ks.Nodup
section
variable {P : Program} {k : TypeId} {w w' : World} {b : Nat} {ks : List Value}
theorem NumM.lt (h : NumM P k w b ks) : b < w.heap.size := by
  obtain ⟨es, clock, hb, _⟩ := h
  exact (Array.getElem?_eq_some_iff.1 hb).1
theorem NumM.at (h : NumM P k w b ks) (hb : w'.heap[b]? = w.heap[b]?) : NumM P k w' b ks := by
  obtain ⟨es, clock, h1, h2⟩ := h
  exact ⟨es, clock, hb.trans h1, h2⟩
theorem NumM.ext (h : NumM P k w b ks) (hE : Ext w w') : NumM P k w' b ks := h.at (hE.block b h.lt)
theorem NumM.kept {row : Option Nat} (h : NumM P k w b ks) (hg : w.grownBy w' row) (hne : some b ≠ row) : NumM P k w' b ks := h.at (hg.block b h.lt hne)
theorem NumM.made (w : World) : NumM P k (w.alloc (.map #[] 0)) w.heap.size [] :=
  ⟨#[], 0, heap_alloc_new w _, rfl, fun i e h => by simp at h, fun x h => by simp at h, List.Pairwise.nil⟩
theorem run_num {t e : TypeId} {x : Value} [ht : IsM P t k e] [hk : IsKy P k] [hz : IsZ0 P e] (h : NumM P k w b ks) (hx : KeyV P k x) :
    (x ∉ ks ∧ (Instr.lookup t (.map (some b)) x true).run P w = .ok (.tuple #[.int .i64 0, .bool false]) w) ∨
    ∃ (j : Nat) (hj : j < ks.length), ks[j] = x ∧ (Instr.lookup t (.map (some b)) x true).run P w = .ok (.tuple #[.int .i64 (j : Int), .bool true]) w := by
  obtain ⟨es, clock, hb, hes, hv, hks, hnd⟩ := h
  obtain ⟨l, hx⟩ := hx
  obtain ⟨i, h1, h2⟩ := Option.map_eq_some_iff.1 hz.ok
  have hzr : (zeroValue e).run P w = .ok (.int .i64 0) w := by simp [zeroValue, typeInfo, h1, h2]
  have hkeys : ∀ e ∈ es.toList, ∃ l, keyOf P k e.key = some l := fun e he => hks _ (hes ▸ List.mem_map.2 ⟨e, he, rfl⟩)
  rcases hk.ok.find w hx es.toList hkeys with ⟨g1, g2⟩ | ⟨j, e0, g1, g2, g3⟩
  · refine .inl ⟨fun hm => ?_, by simp [Instr.lookup, run_underlying ht.ok, MapKept.run_getObj_map hb, hk.ok.check w _ hx, g1, hzr, Result.andThen]⟩
    rw [← hes] at hm
    obtain ⟨e, he, hke⟩ := List.mem_map.1 hm
    exact g2 e he hke
  · have hj : j < ks.length := by rw [← hes, List.length_map]; exact (List.getElem?_eq_some_iff.1 g2).1
    refine .inr ⟨j, hj, ?_, ?_⟩
    · subst hes
      rw [List.getElem_map, ← g3]
      congr 1
      exact (List.getElem?_eq_some_iff.1 g2).2
    · have hval := hv j e0 g2
      simp [Instr.lookup, run_underlying ht.ok, MapKept.run_getObj_map hb, hk.ok.check w _ hx, g1, Result.andThen, hval]
theorem run_numPut {t e : TypeId} {x : Value} [ht : IsM P t k e] [hk : IsKy P k] (h : NumM P k w b ks) (hx : KeyV P k x) (hn : x ∉ ks) :
    ∃ w', (Instr.mapUpdate t (.map (some b)) x (.int .i64 (ks.length : Int))).run P w = .ok () w' ∧ NumM P k w' b (ks ++ [x]) ∧ w.grownBy w' (some b) := by
  obtain ⟨es, clock, hb, hes, hv, hks, hnd⟩ := h
  obtain ⟨l, hx'⟩ := hx
  have hkeys : ∀ e ∈ es.toList, ∃ l, keyOf P k e.key = some l := fun e he => hks _ (hes ▸ List.mem_map.2 ⟨e, he, rfl⟩)
  have hsz : es.toList.length = ks.length := by rw [← hes, List.length_map]
  have hlt := (Array.getElem?_eq_some_iff.1 hb).1
  rcases hk.ok.find w hx' es.toList hkeys with ⟨g1, g2⟩ | ⟨j, e0, g1, g2, g3⟩
  · refine ⟨_, by simp [Instr.mapUpdate, run_underlying ht.ok, MapKept.run_getObj_map hb, hk.ok.check w false hx', g1, MapKept.run_setObj_map _ hb, Result.andThen]; rfl, ?_, ?_⟩
    · refine ⟨es.push ⟨x, .int .i64 (ks.length : Int), clock⟩, clock + 1, by simp [hlt], by simp [hes], fun i e he => ?_, fun y hy => ?_, ?_⟩
      · rw [Array.toList_push] at he
        rcases Nat.lt_or_ge i es.toList.length with hi | hi
        · rw [List.getElem?_append_left hi] at he
          exact hv i e he
        · rw [List.getElem?_append_right hi] at he
          have h0 : i - es.toList.length = 0 := by
            have := (List.getElem?_eq_some_iff.1 he).1
            simp at this; omega
          rw [h0] at he
          simp at he
          subst he
          show Value.int .i64 (ks.length : Int) = _
          congr 1; omega
      · rcases List.mem_append.1 hy with hy | hy
        · exact hks y hy
        · rw [List.mem_singleton] at hy; subst hy; exact ⟨l, hx'⟩
      · rw [List.nodup_append]
        refine ⟨hnd, by simp, fun a ha c hc e => ?_⟩
        rw [List.mem_singleton] at hc
        subst hc; subst e; exact hn ha
    · exact ⟨rfl, rfl, rfl, by simp, fun i _ hi => by
        simp only [Array.getElem?_setIfInBounds]
        rw [if_neg (fun e => hi (by rw [e]))]⟩
  · exact absurd (hes ▸ List.mem_map.2 ⟨e0, List.mem_of_getElem? g2, g3⟩) hn
end

section
variable {P : Program} {Q : Exit → Act → World → Prop} {n : Nat} {σ : Sg} {w : World} {L rest : List Oper} {d : Nat} {ty : TypeId} {pos : String} {af : Array Edge} {g : Option (Nat × Bool)} {t k e : TypeId} {b : Nat} {ks : List Value} {x y z : Operand} {v : Value}
/-- v, ok := m[x] -/
theorem WL.num (hg : gd L σ ⟨some d, .lookup t x y true, ty, pos, af, g⟩ = some true) (hd : Nat.ble (d + 1) n = true) (hx : ev σ x = some (.map (some b))) (hy : ev σ y = some v) [ht : IsM P t k e] [hk : IsKy P k] [hz : IsZ0 P e]
    (h : NumM P k w b ks) (hv : KeyV P k v)
    (h1 : v ∉ ks → WL P L Q rest n ((d, .tuple ⟨[.int .i64 0, .bool false]⟩) :: σ) w)
    (h2 : ∀ (j : Nat) (hj : j < ks.length), ks[j] = v → WL P L Q rest n ((d, .tuple ⟨[.int .i64 (j : Int), .bool true]⟩) :: σ) w) :
    WL P L Q (⟨some d, .lookup t x y true, ty, pos, af, g⟩ :: rest) n σ w := by
  rcases run_num (t := t) h hv with ⟨g1, g2⟩ | ⟨j, hj, g1, g2⟩
  · refine WL.run hg hd (fun a ha => ?_) (h1 g1)
    simp [execOp, ha.ev hx, ha.ev hy, g2]
  · refine WL.run hg hd (fun a ha => ?_) (h2 j hj g1)
    simp [execOp, ha.ev hx, ha.ev hy, g2]
/-- m[x] = len(m), at a new key -/
theorem WL.numPut (hg : gd L σ ⟨none, .mapUpdate t x y z, ty, pos, af, g⟩ = some true) (hx : ev σ x = some (.map (some b))) (hy : ev σ y = some v) (hzv : ev σ z = some (.int .i64 (ks.length : Int))) [ht : IsM P t k e] [hk : IsKy P k]
    (h : NumM P k w b ks) (hv : KeyV P k v) (hn : v ∉ ks)
    (hr : ∀ w', NumM P k w' b (ks ++ [v]) → w.grownBy w' (some b) → WL P L Q rest n σ w') :
    WL P L Q (⟨none, .mapUpdate t x y z, ty, pos, af, g⟩ :: rest) n σ w := by
  obtain ⟨w', g1, g2, g3⟩ := run_numPut (t := t) h hv hn
  refine WL.runU hg (fun a ha => ?_) (hr w' g2 g3)
  simp [execOp, ha.ev hx, ha.ev hy, ha.ev hzv, g1]
/-- make(map[K]int) -/
theorem WL.mkMap (hg : gd L σ ⟨some d, .makeMap t none, ty, pos, af, g⟩ = some true) (hd : Nat.ble (d + 1) n = true)
    (h : NumM P k (w.alloc (.map #[] 0)) w.heap.size [] → WL P L Q rest n ((d, .map (some w.heap.size)) :: σ) (w.alloc (.map #[] 0))) :
    WL P L Q (⟨some d, .makeMap t none, ty, pos, af, g⟩ :: rest) n σ w := by
  refine WL.run hg hd (fun a ha => ?_) (h (NumM.made w))
  simp [execOp, Instr.makeMap]
end
/-- a key that is a pair of numbers -/
theorem KeyV.pair {P : Program} {k fa fb : TypeId} {x y : Int} (h : (P.keyType k && Value.formed P k (.agg #[.int .i64 0, .int .i64 0])) = true)
    (hk : ∀ a b : Int, P.keyLits (P.types.size + 1) k [.int .i64 a, .int .i64 b] = (if (Lit.int .i64 a).wf = true ∧ (Lit.int .i64 b).wf = true then some [.int .i64 a, .int .i64 b] else none))
    (hd : ∃ d, P.underlying k = some (.struct d)) (hx : (Lit.int .i64 x).wf = true) (hy : (Lit.int .i64 y).wf = true) : KeyV P k (.agg ⟨[.int .i64 x, .int .i64 y]⟩) := by
  obtain ⟨d, hd⟩ := hd
  refine ⟨.string (keyBytes [.int .i64 x, .int .i64 y]), ?_⟩
  unfold keyOf
  rw [hd]
  dsimp only
  have hf : Value.formed P k (.agg ⟨[.int .i64 x, .int .i64 y]⟩) = Value.formed P k (.agg #[.int .i64 0, .int .i64 0]) := by
    unfold Value.formed
    rw [hd]; rfl
  rw [hf, if_pos h]
  show Option.map _ (P.keyLits (P.types.size + 1) k [.int .i64 x, .int .i64 y]) = _
  rw [hk, if_pos ⟨hx, hy⟩]
  rfl
end Go.Proofs.Ytadbkppgaekmpaa
/-
  Arrays in a variable: an element's address, a store at a reckoned place, the whole read; keys that are arrays or pairs of numbers. Over any program.
-/
set_option linter.unusedVariables false
set_option linter.unusedSimpArgs false
namespace Go.Proofs.Ytadbkppgaekmpaa
open Go.RowKit

class IsA (P : Program) (t : TypeId) (k : outParam Nat) (e : outParam TypeId) : Prop where
  ok : P.underlying t = some (.array k e)
section
variable {P : Program} {Q : Exit → Act → World → Prop} {n : Nat} {σ : Sg} {w : World} {L rest : List Oper} {d : Nat} {ty : TypeId} {pos : String} {af : Array Edge} {g : Option (Nat × Bool)} {t e : TypeId} {x y : Operand} {b o : Nat} {cells : List Value}
/-- &x[i], x an array -/
theorem WL.idxA {ix : Operand} {i k : Nat} {kd : IntKind} {e' : TypeId} (hg : gd L σ ⟨some d, .indexAddr t x ix, ty, pos, af, g⟩ = some true) (hd : Nat.ble (d + 1) n = true) (hx : ev σ x = some (.pointer (some ⟨b, o, none⟩))) (hi : ev σ ix = some (.int kd (i : Int)))
    [ha : IsA P t k e'] [hc : IsC P e' 1 false] (h1 : i < k) (h : WL P L Q rest n ((d, .pointer (some ⟨b, o + i, none⟩)) :: σ) w) : WL P L Q (⟨some d, .indexAddr t x ix, ty, pos, af, g⟩ :: rest) n σ w := by
  obtain ⟨inf, dd, hi1, hi2, _, _⟩ := hc.ok
  refine WL.run hg hd (fun a ha0 => ?_) h
  simp [execOp, ha0.ev hx, ha0.ev hi, Instr.indexAt, asIntOf, run_underlying ha.ok, Instr.sureAddr, h1, sizeOf, typeInfo, hi1, hi2, WideShapes.add_plain]
/-- *p = v, one cell, wherever it lies -/
theorem WL.st1 {v : Value} (hg : gd L σ ⟨none, .store t x y, ty, pos, af, g⟩ = some true) (hx : ev σ x = some (.pointer (some ⟨b, o, none⟩))) (hy : ev σ y = some v) [hc : IsC P t 1 false] (hb : Blk w b e cells)
    (ho : o < cells.length) (hv : cellsL v = [v]) (h1 : v.oneCell' = true)
    (h : ∀ w', Blk w' b e (cells.set o v) → w.grownBy w' (some b) → WL P L Q rest n σ w') : WL P L Q (⟨none, .store t x y, ty, pos, af, g⟩ :: rest) n σ w := by
  obtain ⟨i, dd, hi1, hi2, _, _⟩ := hc.ok
  have hst := run_storeCells_at P b o e [v] 0 cells.toArray w hb (by simp; omega) (by simpa using h1)
  simp only [Nat.add_zero] at hst
  have e1 : cells.take o ++ [v] ++ cells.drop (o + [v].length) = cells.set o v := by
    rw [List.set_eq_take_append_cons_drop, if_pos ho]; simp
  refine WL.runU hg (fun a ha => ?_) (h _ (by
    have := setRow_heap w b cells.toArray (cells.set o v).toArray e (0, 0) hb
    exact this) (grown_setRow w b _))
  simp only [execOp, ha.ev hx, ha.ev hy, Instr.storeAt, Sem.run_bind, Instr.sureAddr, Sem.run_pure, Result.andThen_ok, storeVar, sizeOf, typeInfo, run_program, hi1, hi2, cellsL_eq, hv]
  rw [← e1]
  simp
  simp [hst]
theorem run_ldAll {k : Nat} (w : World) (hb : Blk w b e cells) (hk : cells.length = k) [hc : IsC P t k true] : (Instr.loadAt t (.pointer (some ⟨b, 0, none⟩))).run P w = .ok (.agg cells.toArray) w := by
  obtain ⟨i, dd, h1, h2, h3, h4⟩ := hc.ok
  have hagg : (isAgg t).run P w = .ok true w := by
    unfold isAgg
    rw [Sem.run_bind, run_underlying h3 w, ← h4]
    cases dd <;> rfl
  have hld := run_loadCells_list (P := P) w ⟨b, 0, none⟩ cells (fun j u hu => by rw [WideShapes.add_plain, Nat.zero_add]; exact hb.cell hu)
  rw [hk] at hld
  simp [Instr.loadAt, Instr.sureAddr, loadVar, hagg, sizeOf, typeInfo, h1, h2, hld]
/-- the whole variable, however its cells are spelt -/
theorem WL.ldAll {k : Nat} (hg : gd L σ ⟨some d, .load t x, ty, pos, af, g⟩ = some true) (hd : Nat.ble (d + 1) n = true) (hx : ev σ x = some (.pointer (some ⟨b, 0, none⟩))) [hc : IsC P t k true] (hb : Blk w b e cells) (hk : cells.length = k)
    (h : WL P L Q rest n ((d, .agg cells.toArray) :: σ) w) : WL P L Q (⟨some d, .load t x, ty, pos, af, g⟩ :: rest) n σ w := by
  refine WL.run hg hd (fun a ha => ?_) h
  simp [execOp, ha.ev hx, run_ldAll (P := P) (t := t) w hb hk]
theorem WL.stAll {k : Nat} {cs : List Value} (hg : gd L σ ⟨none, .store t x y, ty, pos, af, g⟩ = some true) (hx : ev σ x = some (.pointer (some ⟨b, 0, none⟩))) (hy : ev σ y = some (.agg cs.toArray)) [hc : IsC P t k true] (hb : Blk w b e cells)
    (hk : cs.length = k) (hl : cells.length = k) (h1 : ∀ u ∈ cs, u.oneCell' = true)
    (h : ∀ w', Blk w' b e cs → w.grownBy w' (some b) → WL P L Q rest n σ w') : WL P L Q (⟨none, .store t x y, ty, pos, af, g⟩ :: rest) n σ w := by
  obtain ⟨i, dd, hi1, hi2, _, _⟩ := hc.ok
  subst hk
  have hst := run_storeCells_at P b 0 e cs 0 cells.toArray w hb (by simp; omega) h1
  simp only [Nat.add_zero, Nat.zero_add, List.take_zero, List.nil_append] at hst
  have e1 : cells.toArray.toList.drop cs.length = [] := List.drop_eq_nil_of_le (by simp; omega)
  rw [e1, List.append_nil] at hst
  refine WL.runU hg (fun a ha => ?_) (h _ (by
    have := setRow_heap w b cells.toArray cs.toArray e (0, 0) hb
    exact this) (grown_setRow w b _))
  simp only [execOp, ha.ev hx, ha.ev hy, Instr.storeAt, Sem.run_bind, Instr.sureAddr, Sem.run_pure, Result.andThen_ok, storeVar, sizeOf, typeInfo, run_program, hi1, hi2, Value.cells]
  simp
  simp [hst]
theorem EX.retCA {fn : Func} {a : Nat} {k : Nat} {R : Value → World → Prop} (hr : fn.results = #[.cell a t]) (ha : fnd σ a = some (.pointer (some ⟨b, 0, none⟩))) [hc : IsC P t k true] (hb : Blk w b e cells) (hk : cells.length = k) (h : R (.agg cells.toArray) w) :
    EX (bodyPost P fn fun e w' => ∃ v, e = .returned v ∧ R v w') .ret n σ w := by
  unfold EX; intro ac hac
  refine bodyPost_ret ?_ hac.defers ⟨_, rfl, h⟩
  have hld := run_loadCells_list (P := P) w ⟨b, 0, none⟩ cells (fun j u hu => by rw [WideShapes.add_plain, Nat.zero_add]; exact hb.cell hu)
  obtain ⟨i, dd, h1, h2, h3, h4⟩ := hc.ok
  have hagg : (isAgg t).run P w = .ok true w := by
    unfold isAgg
    rw [Sem.run_bind, run_underlying h3 w, ← h4]
    cases dd <;> rfl
  rw [hk] at hld
  have hs := hac.slot a _ ha
  simp only [Array.getD_eq_getD_getElem?] at hs
  simp [results, hr, hs, asAddr, loadVar, hagg, sizeOf, typeInfo, h1, h2, hld]
end
theorem mapM_some {α β : Type} {f : α → Option β} {g : α → β} : ∀ (l : List α), (∀ x ∈ l, f x = some (g x)) → l.mapM f = some (l.map g)
  | [], _ => rfl
  | x :: r, h => by
    rw [List.mapM_cons, h x (by simp), mapM_some r (fun y hy => h y (by simp [hy]))]
    rfl
/-- a key that is an array of numbers -/
theorem KeyV.arr {P : Program} {k e : TypeId} {n : Nat} {q : IntKind} (hu : P.underlying k = some (.array n e)) (he : P.underlying e = some (.int q)) (hce : P.cellsOf e = 1) (hck : P.cellsOf k = n) (hkt : P.keyType k = true) (hts : Nat.ble 1 P.types.size = true)
    {xs : List Int} (hl : xs.length = n) (hx : ∀ x ∈ xs, (Lit.int q x).wf = true) : KeyV P k (.agg (xs.map fun x => .int q x).toArray) := by
  obtain ⟨s, hs⟩ : ∃ s, P.types.size = s + 1 := ⟨P.types.size - 1, by have := Nat.le_of_ble_eq_true hts; omega⟩
  have hlits : P.keyLits (P.types.size + 1) k (xs.map fun x => .int q x) = some (((List.range n).map fun i => [Lit.int q (xs.getD i 0)]).flatten) := by
    rw [hs, Program.keyLits.eq_def]
    simp only [hu]
    rw [if_pos (by rw [hck]; simpa using hl), mapM_some (g := fun i => [Lit.int q (xs.getD i 0)])]
    · rfl
    · intro i hi
      have hi := List.mem_range.1 hi
      have hix : i < xs.length := by omega
      have hseg : ((xs.map fun x => Value.int q x).drop (i * P.cellsOf e)).take (P.cellsOf e) = [.int q xs[i]] := by
        rw [hce, Nat.mul_one, List.drop_eq_getElem_cons (by simpa using hix)]
        simp
      rw [hseg, Program.keyLits.eq_def]
      simp only [he]
      rw [if_pos ⟨trivial, hx _ (List.getElem_mem hix)⟩, List.getD_eq_getElem?_getD, List.getElem?_eq_getElem hix]
      rfl
  refine ⟨.string (keyBytes (((List.range n).map fun i => [Lit.int q (xs.getD i 0)]).flatten)), ?_⟩
  unfold keyOf
  rw [hu]
  dsimp only
  have hf : Value.formed P k (.agg (xs.map fun x => Value.int q x).toArray) = true := by
    unfold Value.formed
    rw [hu, hck]
    simp [hl]
  rw [hkt, hf]
  show Option.map _ (P.keyLits (P.types.size + 1) k (xs.map fun x => Value.int q x)) = _
  rw [hlits]
  rfl
end Go.Proofs.Ytadbkppgaekmpaa
/-
  What only some blocks' change leaves as it is. Over any program.
-/
set_option linter.unusedVariables false
set_option linter.unusedSimpArgs false
namespace Go.Proofs.Ytadbkppgaekmpaa
open Go.RowKit

/-- only blocks of S, and new ones, are otherwise -/
structure Chg (S : Nat → Prop) (w w' : World) : Prop where
  os : w'.os = w.os
  tape : w'.tape = w.tape
  output : w'.output = w.output
  size : w.heap.size ≤ w'.heap.size
  block : ∀ k, k < w.heap.size → ¬ S k → w'.heap[k]? = w.heap[k]?
theorem Chg.refl (S : Nat → Prop) (w : World) : Chg S w w := ⟨rfl, rfl, rfl, Nat.le_refl _, fun _ _ _ => rfl⟩
theorem Chg.grown {S : Nat → Prop} {w w' w'' : World} {row : Option Nat} (h : Chg S w w') (hg : w'.grownBy w'' row) (hr : ∀ g, row = some g → S g) : Chg S w w'' :=
  ⟨hg.os.trans h.os, hg.tape.trans h.tape, hg.output.trans h.output, Nat.le_trans h.size hg.size, fun k hk hs => (hg.block k (Nat.lt_of_lt_of_le hk h.size) (fun e => hs (hr k e.symm))).trans (h.block k hk hs)⟩
theorem Chg.ext {S : Nat → Prop} {a w w' : World} (hE : Ext a w) (h : Chg S w w') (hS : ∀ b, S b → a.heap.size ≤ b) : Ext a w' :=
  ⟨h.os.trans hE.os, h.tape.trans hE.tape, h.output.trans hE.output, Nat.le_trans hE.size h.size, fun k hk => (h.block k (Nat.lt_of_lt_of_le hk hE.size) (fun hs => by have := hS k hs; omega)).trans (hE.block k hk)⟩
theorem Own.chg {α : Type} [Rep α] {S : Nat → Prop} {w w' : World} {B : Nat} {e : TypeId} {v : Value} {xs : List α} (h : Own w B e Non v xs) (hc : Chg S w w') (hn : ∀ b, v.ownBlock = some b → ¬ S b) : Own w' B e Non v xs :=
  h.keep (fun g hg => hc.block g (h.lt g hg).2.1 (hn g hg)) fun _ h => h.elim
theorem OwnN.chg {α : Type} [Rep α] {S : Nat → Prop} {w w' : World} {B : Nat} {eo ei : TypeId} {v : Value} {vs : List Raw} {xs : List (List α)} (h : OwnN w B eo ei v vs xs) (hc : Chg S w w') (hn : ∀ b, OwnN.blk v vs b → ¬ S b) : OwnN w' B eo ei v vs xs :=
  ⟨h.out.chg hc (fun b hb => hn b (.inl hb)), h.len, fun i hi hi' => (h.inn i hi hi').chg hc (fun b hb => hn b (.inr ⟨_, List.getElem_mem hi, hb⟩)), h.dis, h.dio⟩

end Go.Proofs.Ytadbkppgaekmpaa
