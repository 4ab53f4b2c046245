import Derived.Test.YtadbkppgaekmpaaPtAutoOwn12
/-
  slices.Index and slices.Contains at []bool.
-/
set_option linter.unusedVariables false
namespace Go.Proofs.Ytadbkppgaekmpaa
open Go.RowKit
theorem index_bool (w0 : World) {ao : Option Addr} {cap : Nat} {xs : List Bool} (x : Bool) (hs : Sl w0 (Old w0) ao cap xs) :
    Rt Try.prog 128 [.slice ao xs.length cap, .bool x].toArray w0 fun v w' => v = .int .i64 (idxOf (fun y => x == y) xs) ∧ Ext w0 w' := by
  have hm := hs.len63
  refine Rt.enter2 Try.func128 Try.ntmps128 rfl rfl ?_
  (repeat (first | (apply WL.pure; rfl; rfl; rfl) | (apply WL.nil) | (apply EX.thenN) | (apply CW.seq) | (apply CW.region) | (apply WL.lenS; rfl; rfl; rfl) | (apply CW.block)))
  refine CW.loop (S := Nat) (fun k => [(0, .slice ao xs.length cap), (1, .bool x), (7, .int .i64 xs.length), (8, .int .i64 k)])
    (fun k w => k ≤ xs.length ∧ Ext w0 w ∧ ∀ j (h : j < xs.length), j < k → (x == xs[j]) = false) (fun k => xs.length - k) 0 (by repeat (first | exact trivial | refine ⟨rfl, ?_⟩)) ⟨by omega, Ext.refl _, by omega⟩ ?_
  rintro k w ⟨hk, hB, hn⟩
  (repeat (first | (apply WL.pure; rfl; rfl; rfl) | (apply WL.nil) | (apply EX.thenN) | (apply CW.seq) | (apply CW.region)))
  refine CW.cond rfl (fun h => ?_) (fun h => ?_)
  · simp at h
    (repeat (first | (apply WL.pure; rfl; rfl; rfl) | (apply WL.nil) | (apply EX.thenN) | (apply CW.seq) | (apply CW.region) | (apply CW.block) | (apply CW.skip)))
    refine WL.elemB rfl rfl rfl rfl rfl (hs.at hB) h rfl (fun _ => rfl) (fun q => ?_)
    (repeat (first | (apply WL.nil) | (apply EX.thenN) | (apply WL.eqB; rfl; rfl; rfl; rfl)))
    refine CW.cond rfl (fun h' => ?_) (fun h' => ?_)
    · (repeat (first | (apply WL.pure; rfl; rfl; rfl) | (apply WL.nil) | (apply EX.thenN) | (apply CW.seq) | (apply CW.region) | (apply CW.ret) | (apply EX.thenR) | (apply EX.inR)))
      refine EX.ret1 rfl rfl ⟨?_, hB⟩
      rw [idxOf_here h hn h']
    · (repeat (first | (apply WL.add; rfl; rfl; rfl; rfl; omega; omega) | (apply WL.pure; rfl; rfl; rfl) | (apply WL.nil) | (apply EX.thenN) | (apply CW.region) | (apply EX.inN) | (apply CW.skip)))
      refine EX.back (k + 1) (by repeat (first | exact trivial | refine ⟨rfl, ?_⟩)) ⟨h, hB, ?_⟩ (by omega)
      intro j hj hlt
      by_cases e : j = k
      · subst e; exact h'
      · exact hn j hj (by omega)
  · simp at h
    (repeat (first | (apply WL.pure; rfl; rfl; rfl) | (apply WL.nil) | (apply EX.thenN) | (apply CW.seq) | (apply CW.region) | (apply CW.exit) | (apply EX.thenX) | (apply EX.inX) | (apply CW.ret)))
    refine EX.ret1 rfl rfl ⟨?_, hB⟩
    rw [idxOf_none (fun j hj => hn j hj (by omega))]
theorem contains_bool (w0 : World) {ao : Option Addr} {cap : Nat} {xs : List Bool} (x : Bool) (hs : Sl w0 (Old w0) ao cap xs) :
    Rt Try.prog 64 [.slice ao xs.length cap, .bool x].toArray w0 fun v w' => v = .bool (xs.contains x) ∧ Ext w0 w' := by
  refine Rt.enter2 Try.func64 Try.ntmps64 rfl rfl ?_
  (repeat (first | (apply WL.pure; rfl; rfl; rfl) | (apply WL.nil) | (apply EX.thenN) | (apply CW.seq) | (apply CW.region)))
  refine WL.call rfl rfl rfl (index_bool w0 x hs) ?_
  rintro v w' ⟨rfl, hB⟩
  (repeat (first | (apply WL.pure; rfl; rfl; rfl) | (apply WL.nil) | (apply EX.thenN) | (apply CW.ret)))
  refine EX.ret1 rfl rfl ⟨?_, hB⟩
  rw [← List.any_beq, ← idxOf_any]
end Go.Proofs.Ytadbkppgaekmpaa
/-
  The least way to write a word that goes round: plain part.
-/
set_option linter.unusedVariables false
set_option linter.unusedSimpArgs false
namespace Go.Proofs.Ytadbkppgaekmpaa
open Go.RowKit

/-- d is a period from n on -/
def Per (L : Nat → Nat) (n d : Nat) : Prop := ∀ i, n ≤ i → L (i + d) = L i
theorem Per.later {L : Nat → Nat} {n m d : Nat} (h : Per L n d) (hm : n ≤ m) : Per L m d := fun i hi => h i (by omega)
theorem Per.mul {L : Nat → Nat} {n d : Nat} (h : Per L n d) : ∀ k, Per L n (k * d)
  | 0 => fun i _ => by simp
  | k + 1 => fun i hi => by
    rw [Nat.add_mul, Nat.one_mul, ← Nat.add_assoc, h _ (by omega)]
    exact Per.mul h k i hi
theorem Per.sub {L : Nat → Nat} {n p q : Nat} (hp : Per L n p) (hq : Per L n q) (h : p ≤ q) : Per L n (q - p) := by
  intro i hi
  rw [← hp (i + (q - p)) (by omega)]
  have : i + (q - p) + p = i + q := by omega
  rw [this]
  exact hq i hi
theorem Per.gcd {L : Nat → Nat} {n : Nat} : ∀ (k p q : Nat), p + q ≤ k → Per L n p → Per L n q → Per L n (Nat.gcd p q)
  | 0, p, q, hk, hp, hq => by
    have e1 : p = 0 := by omega
    have e2 : q = 0 := by omega
    subst e1 e2
    exact hp
  | k + 1, p, q, hk, hp, hq => by
    by_cases hp0 : p = 0
    · subst hp0; rw [Nat.gcd_zero_left]; exact hq
    by_cases hq0 : q = 0
    · subst hq0; rw [Nat.gcd_zero_right]; exact hp
    by_cases h : p ≤ q
    · have := Per.gcd k p (q - p) (by omega) hp (hp.sub hq h)
      rwa [Nat.gcd_sub_self_right h] at this
    · have := Per.gcd k (p - q) q (by omega) (hq.sub hp (by omega)) hq
      rwa [Nat.gcd_sub_self_left (by omega)] at this
/-- an eventual period is one from where the word goes round on -/
theorem Per.early {L : Nat → Nat} {n m p d : Nat} (hp : Per L n p) (h0 : 0 < p) (hd : Per L m d) : Per L n d := by
  intro i hi
  have h1 := hp.mul m (i + d) (by omega)
  have h2 := hp.mul m i hi
  have hm : m ≤ m * p := Nat.le_mul_of_pos_right m h0
  have h3 := hd (i + m * p) (by omega)
  have e : i + m * p + d = i + d + m * p := by omega
  rw [e, h1, h2] at h3
  exact h3
/-- the least eventual period -/
def Least (L : Nat → Nat) (p : Nat) : Prop := ∀ d m, 0 < d → Per L m d → p ≤ d

theorem lat_perP {s l : List Nat} (h0 : 0 < l.length) : Per (lat s l) s.length l.length := by
  intro i hi
  unfold lat
  rw [if_neg (by omega), if_neg (by omega)]
  congr 1
  have : i + l.length - s.length = (i - s.length) + l.length := by omega
  rw [this, Nat.add_mod_right]
theorem lat_loopP {s l : List Nat} {j : Nat} (h : j < l.length) : lat s l (s.length + j) = l.getD j 0 := by
  unfold lat
  rw [if_neg (by omega)]
  congr 1
  rw [Nat.add_sub_cancel_left, Nat.mod_eq_of_lt h]
/-- two ways to write one word, both least, are one -/
structure LeastW (L : Nat → Nat) (s l : List Nat) : Prop where
  pos : 0 < l.length
  same : ∀ i, lat s l i = L i
  least : Least L l.length
  tight : ∀ h : 0 < s.length, s[s.length - 1]? ≠ l[l.length - 1]?
theorem leastW_len {L : Nat → Nat} {s l t m : List Nat} (h : LeastW L s l) (k : LeastW L t m) : l.length = m.length := by
  have h1 : Per L s.length l.length := fun i hi => by rw [← h.same, ← h.same]; exact lat_perP h.pos i hi
  have h2 : Per L t.length m.length := fun i hi => by rw [← k.same, ← k.same]; exact lat_perP k.pos i hi
  have a := h.least m.length t.length k.pos h2
  have b := k.least l.length s.length h.pos h1
  omega
theorem leastW_stem {L : Nat → Nat} {s l t m : List Nat} (h : LeastW L s l) (k : LeastW L t m) : t.length ≤ s.length := by
  apply Classical.byContradiction
  intro hlt
  have hl := leastW_len h k
  have hp := h.pos
  have ht : 0 < t.length := by omega
  apply k.tight ht
  have h1 : Per L s.length l.length := fun i hi => by rw [← h.same, ← h.same]; exact lat_perP h.pos i hi
  have e1 := h1 (t.length - 1) (by omega)
  have e2 : lat t m (t.length - 1) = t.getD (t.length - 1) 0 := by unfold lat; rw [if_pos (by omega)]
  have e3 : lat t m (t.length + (m.length - 1)) = m.getD (m.length - 1) 0 := lat_loopP (by omega)
  rw [← k.same, ← k.same, e2, show t.length - 1 + l.length = t.length + (m.length - 1) by omega, e3] at e1
  rw [List.getD_eq_getElem?_getD, List.getD_eq_getElem?_getD, List.getElem?_eq_getElem (by omega), List.getElem?_eq_getElem (by omega)] at e1
  rw [List.getElem?_eq_getElem (by omega), List.getElem?_eq_getElem (by omega)]
  simp only [Option.getD_some] at e1
  rw [e1]
theorem leastW_eq {L : Nat → Nat} {s l t m : List Nat} (h : LeastW L s l) (k : LeastW L t m) : s = t ∧ l = m := by
  have hl := leastW_len h k
  have hs : s.length = t.length := Nat.le_antisymm (leastW_stem k h) (leastW_stem h k)
  constructor
  · apply List.ext_getElem hs
    intro i h1 h2
    have e1 := h.same i
    have e2 := k.same i
    unfold lat at e1 e2
    rw [if_pos h1] at e1
    rw [if_pos h2] at e2
    rw [← e2] at e1
    rw [List.getD_eq_getElem?_getD, List.getD_eq_getElem?_getD, List.getElem?_eq_getElem h1, List.getElem?_eq_getElem h2] at e1
    exact e1
  · apply List.ext_getElem hl
    intro i h1 h2
    have e1 := h.same (s.length + i)
    have e2 := k.same (t.length + i)
    rw [lat_loopP h1] at e1
    rw [lat_loopP h2, ← hs] at e2
    rw [← e2] at e1
    rw [List.getD_eq_getElem?_getD, List.getD_eq_getElem?_getD, List.getElem?_eq_getElem h1, List.getElem?_eq_getElem h2] at e1
    exact e1

/- WHAT least COMPUTES -/
def turnsB (l : List Nat) (n : Nat) : Bool := (List.range l.length).all fun i => decide (i < n) || (l.getD i 0 == l.getD (i - n) 0)
/-- the first n from k on that fits -/
def perGo (l : List Nat) : Nat → Nat → List Nat
  | 0, _ => l
  | f + 1, n => if l.length % n = 0 ∧ turnsB l n = true then l.take n else perGo l f (n + 1)
def perL (l : List Nat) : List Nat := perGo l l.length 1
def rollGo : Nat → List Nat → List Nat → List Nat × List Nat
  | 0, s, l => (s, l)
  | f + 1, s, l => if 0 < s.length ∧ s.getD (s.length - 1) 0 = l.getD (l.length - 1) 0 then rollGo f (s.take (s.length - 1)) (l.getD (l.length - 1) 0 :: l.take (l.length - 1)) else (s, l)
def leastL (s l : List Nat) : List Nat × List Nat := rollGo s.length s (perL l)

theorem turns_per {s l : List Nat} {n : Nat} (hn : 0 < n) (hd : l.length % n = 0) (h0 : 0 < l.length) : turnsB l n = true ↔ Per (lat s l) s.length n := by
  have hnl : n ≤ l.length := Nat.le_of_dvd h0 (Nat.dvd_of_mod_eq_zero hd)
  constructor
  · intro h i hi
    unfold turnsB at h
    rw [List.all_eq_true] at h
    have hget : ∀ j, j < l.length → n ≤ j → l.getD j 0 = l.getD (j - n) 0 := by
      intro j hj hnj
      have := h j (List.mem_range.2 hj)
      simp only [Bool.or_eq_true, decide_eq_true_eq, beq_iff_eq] at this
      rcases this with h1 | h1
      · omega
      · exact h1
    -- by steps of n: a letter is that at the place's rest by n
    have hrest : ∀ j, j < l.length → l.getD j 0 = l.getD (j % n) 0 := by
      intro j
      induction j using Nat.strongRecOn with
      | _ j ih =>
        intro hj
        by_cases hjn : j < n
        · rw [Nat.mod_eq_of_lt hjn]
        · rw [hget j hj (by omega), ih (j - n) (by omega) (by omega), ← Nat.mod_eq_sub_mod (by omega)]
    unfold lat
    rw [if_neg (by omega), if_neg (by omega)]
    have hm1 : (i + n - s.length) % l.length < l.length := Nat.mod_lt _ h0
    have hm2 : (i - s.length) % l.length < l.length := Nat.mod_lt _ h0
    rw [hrest _ hm1, hrest _ hm2]
    congr 1
    have hdv : n ∣ l.length := Nat.dvd_of_mod_eq_zero hd
    rw [Nat.mod_mod_of_dvd _ hdv, Nat.mod_mod_of_dvd _ hdv]
    rw [show i + n - s.length = (i - s.length) + n by omega, Nat.add_mod_right]
  · intro h
    unfold turnsB
    rw [List.all_eq_true]
    intro i hi
    rw [List.mem_range] at hi
    simp only [Bool.or_eq_true, decide_eq_true_eq, beq_iff_eq]
    by_cases hin : i < n
    · exact .inl hin
    · right
      have := h (s.length + (i - n)) (by omega)
      rw [show s.length + (i - n) + n = s.length + i by omega, lat_loopP hi, lat_loopP (by omega)] at this
      exact this
theorem perGo_spec {s l : List Nat} (h0 : 0 < l.length) : ∀ (f n : Nat), 0 < n → n + f = l.length + 1 → (∀ d, 0 < d → d < n → ¬ (l.length % d = 0 ∧ turnsB l d = true)) →
    0 < (perGo l f n).length ∧ (∀ i, lat s (perGo l f n) i = lat s l i) ∧ Least (lat s l) (perGo l f n).length ∧ (perGo l f n).length ≤ l.length
  | 0, n, hn, hf, hno => by
    exfalso
    refine hno l.length h0 (by omega) ⟨Nat.mod_self _, ?_⟩
    rw [turns_per (s := s) h0 (Nat.mod_self _) h0]
    exact lat_perP h0
  | f + 1, n, hn, hf, hno => by
    by_cases hc : l.length % n = 0 ∧ turnsB l n = true
    · have e : perGo l (f + 1) n = l.take n := by rw [perGo, if_pos hc]
      have hper := (turns_per (s := s) hn hc.1 h0).1 hc.2
      have hdv : n ∣ l.length := Nat.dvd_of_mod_eq_zero hc.1
      have hnl : n ≤ l.length := Nat.le_of_dvd h0 hdv
      have hlen : (l.take n).length = n := by rw [List.length_take]; omega
      rw [e, hlen]
      refine ⟨hn, fun i => ?_, fun d m hd hm => ?_, hnl⟩
      · by_cases his : i < s.length
        · unfold lat; rw [if_pos his, if_pos his]
        · have hrest : ∀ q j, lat s l (s.length + (q * n + j)) = lat s l (s.length + j) := by
            intro q j
            have := hper.mul q (s.length + j) (by omega)
            rw [← this]; congr 1; omega
          have hlt : (i - s.length) % n < n := Nat.mod_lt _ hn
          have h1 : lat s (l.take n) i = (l.take n).getD ((i - s.length) % n) 0 := by unfold lat; rw [if_neg his, hlen]
          have h2 := hrest ((i - s.length) / n) ((i - s.length) % n)
          have hdm : (i - s.length) / n * n + (i - s.length) % n = i - s.length := by rw [Nat.mul_comm]; exact Nat.div_add_mod _ _
          rw [hdm, show s.length + (i - s.length) = i by omega, lat_loopP (by omega)] at h2
          rw [h1, h2, List.getD_eq_getElem?_getD, List.getElem?_take_of_lt hlt, ← List.getD_eq_getElem?_getD]
      · have hd' : Per (lat s l) s.length d := (lat_perP h0).early h0 hm
        have hg := Per.gcd _ d n (Nat.le_refl _) hd' hper
        have hgpos : 0 < Nat.gcd d n := Nat.gcd_pos_of_pos_left _ hd
        have hgl : l.length % Nat.gcd d n = 0 := Nat.mod_eq_zero_of_dvd (Nat.dvd_trans (Nat.gcd_dvd_right d n) hdv)
        have hgn : Nat.gcd d n ≤ n := Nat.le_of_dvd hn (Nat.gcd_dvd_right d n)
        have hgd : Nat.gcd d n ≤ d := Nat.le_of_dvd hd (Nat.gcd_dvd_left d n)
        have := hno (Nat.gcd d n) hgpos
        by_cases hlt : Nat.gcd d n < n
        · exact absurd ⟨hgl, (turns_per (s := s) hgpos hgl h0).2 hg⟩ (this hlt)
        · omega
    · have e : perGo l (f + 1) n = perGo l f (n + 1) := by rw [perGo, if_neg hc]
      rw [e]
      refine perGo_spec h0 f (n + 1) (by omega) (by omega) (fun d hd hdn => ?_)
      by_cases hde : d = n
      · subst hde; exact hc
      · exact hno d hd (by omega)
theorem lat_roll {s l : List Nat} (hs : 0 < s.length) (hl : 0 < l.length) (he : s.getD (s.length - 1) 0 = l.getD (l.length - 1) 0) (i : Nat) : lat (s.take (s.length - 1)) (l.getD (l.length - 1) 0 :: l.take (l.length - 1)) i = lat s l i := by
  have hls : (s.take (s.length - 1)).length = s.length - 1 := by rw [List.length_take]; omega
  have hll : (l.getD (l.length - 1) 0 :: l.take (l.length - 1)).length = l.length := by rw [List.length_cons, List.length_take]; omega
  unfold lat
  rw [hls, hll]
  by_cases h1 : i < s.length - 1
  · rw [if_pos h1, if_pos (by omega), List.getD_eq_getElem?_getD, List.getElem?_take_of_lt h1, ← List.getD_eq_getElem?_getD]
  · rw [if_neg h1]
    have hget : ∀ j, j < l.length → (l.getD (l.length - 1) 0 :: l.take (l.length - 1)).getD j 0 = if j = 0 then l.getD (l.length - 1) 0 else l.getD (j - 1) 0 := by
      intro j hj
      cases j with
      | zero => rfl
      | succ j =>
        rw [if_neg (by omega), List.getD_eq_getElem?_getD, List.getElem?_cons_succ, List.getElem?_take_of_lt (by omega), ← List.getD_eq_getElem?_getD]
        rfl
    by_cases h2 : i < s.length
    · have : i = s.length - 1 := by omega
      subst this
      rw [if_pos h2, Nat.sub_self, Nat.zero_mod, hget 0 hl, if_pos rfl, he]
    · rw [if_neg h2, hget _ (Nat.mod_lt _ hl)]
      have e : i - (s.length - 1) = (i - s.length) + 1 := by omega
      rw [e]
      have hm := Nat.mod_lt (i - s.length) hl
      rw [Nat.add_mod]
      by_cases h3 : (i - s.length) % l.length = l.length - 1
      · rw [h3]
        by_cases h1l : l.length = 1
        · rw [h1l]; simp
        · have : (l.length - 1 + 1 % l.length) % l.length = 0 := by rw [Nat.mod_eq_of_lt (show 1 < l.length by omega), show l.length - 1 + 1 = l.length by omega, Nat.mod_self]
          rw [this, if_pos rfl]
      · have h1l : 1 < l.length := by omega
        rw [Nat.mod_eq_of_lt h1l, Nat.mod_eq_of_lt (by omega), if_neg (by omega)]
        rfl
theorem rollGo_spec {L : Nat → Nat} : ∀ (f : Nat) (s l : List Nat), s.length ≤ f → 0 < l.length → (∀ i, lat s l i = L i) → Least L l.length → LeastW L (rollGo f s l).1 (rollGo f s l).2
  | 0, s, l, hf, h0, hs, hl => ⟨h0, hs, hl, fun h => by have h : 0 < s.length := h; omega⟩
  | f + 1, s, l, hf, h0, hs, hl => by
    by_cases hc : 0 < s.length ∧ s.getD (s.length - 1) 0 = l.getD (l.length - 1) 0
    · rw [rollGo, if_pos hc]
      have hll : (l.getD (l.length - 1) 0 :: l.take (l.length - 1)).length = l.length := by rw [List.length_cons, List.length_take]; omega
      refine rollGo_spec f _ _ (by rw [List.length_take]; omega) (by rw [hll]; exact h0) (fun i => ?_) (by rw [hll]; exact hl)
      rw [lat_roll hc.1 h0 hc.2]; exact hs i
    · rw [rollGo, if_neg hc]
      refine ⟨h0, hs, hl, fun h e => hc ⟨h, ?_⟩⟩
      rw [List.getD_eq_getElem?_getD, List.getD_eq_getElem?_getD, e]
theorem leastL_spec {s l : List Nat} (h0 : 0 < l.length) : LeastW (lat s l) (leastL s l).1 (leastL s l).2 := by
  have h := perGo_spec (s := s) h0 l.length 1 (by omega) (by omega) (fun d hd hd1 => by omega)
  exact rollGo_spec s.length s (perL l) (Nat.le_refl _) h.1 h.2.1 h.2.2.1
/-- one word, however it is written, has one least way to write it -/
theorem leastL_eq {s l t m : List Nat} (h0 : 0 < l.length) (h1 : 0 < m.length) (h : ∀ i, lat s l i = lat t m i) : leastL s l = leastL t m := by
  have a := leastL_spec (s := s) h0
  have b := leastL_spec (s := t) h1
  have e : lat s l = lat t m := funext h
  rw [e] at a
  have := leastW_eq a b
  exact Prod.ext this.1 this.2
/-- some letters of the loop are put into the stem -/
theorem lat_unroll {s l : List Nat} (h0 : 0 < l.length) {n : Nat} (hn : n ≤ l.length) (i : Nat) : lat (s ++ l.take n) (l.drop n ++ l.take n) i = lat s l i := by
  have hlen : (l.drop n ++ l.take n).length = l.length := by rw [List.length_append, List.length_drop, List.length_take]; omega
  have hst : (s ++ l.take n).length = s.length + n := by rw [List.length_append, List.length_take]; omega
  unfold lat
  rw [hst, hlen]
  by_cases h1 : i < s.length
  · rw [if_pos h1, if_pos (by omega), List.getD_eq_getElem?_getD, List.getElem?_append_left h1, ← List.getD_eq_getElem?_getD]
  · rw [if_neg h1]
    by_cases h2 : i < s.length + n
    · rw [if_pos h2, List.getD_eq_getElem?_getD, List.getElem?_append_right (by omega), List.getElem?_take_of_lt (by omega), ← List.getD_eq_getElem?_getD, Nat.mod_eq_of_lt (by omega)]
    · rw [if_neg h2]
      have hm := Nat.mod_lt (i - (s.length + n)) h0
      have e : i - s.length = (i - (s.length + n)) + n := by omega
      rw [e]
      generalize i - (s.length + n) = j at *
      have hj : (j + n) % l.length = (j % l.length + n) % l.length := (Nat.mod_add_mod j l.length n).symm
      rw [hj]
      generalize j % l.length = r at *
      by_cases h3 : r < l.length - n
      · rw [List.getD_eq_getElem?_getD, List.getElem?_append_left (by rw [List.length_drop]; exact h3), List.getElem?_drop, ← List.getD_eq_getElem?_getD, Nat.mod_eq_of_lt (by omega), Nat.add_comm]
      · rw [List.getD_eq_getElem?_getD, List.getElem?_append_right (by rw [List.length_drop]; omega), List.length_drop, List.getElem?_take_of_lt (by omega), ← List.getD_eq_getElem?_getD]
        rw [Nat.mod_eq_sub_mod (by omega), Nat.mod_eq_of_lt (by omega)]
        congr 1; omega
end Go.Proofs.Ytadbkppgaekmpaa
/-
  lasso.turns, least, Same: walked.
-/
set_option linter.unusedVariables false
set_option linter.unusedSimpArgs false
namespace Go.Proofs.Ytadbkppgaekmpaa
open Go.RowKit

/-- x[i], read, of what stands since the base world; the index a whole number -/
theorem HL.elemZ {P : Program} {Q : Exit → Act → World → Prop} {n : Nat} {σ : Sg} {w wc : World} {L : List Oper} {S : World → Prop} {ord : List (Nat × Bool)} {i j d d' : Nat} {ty : TypeId} {pos : String} {af : Array Edge} {g : Option (Nat × Bool)} {ty' : TypeId} {pos' : String} {af' : Array Edge} {g' : Option (Nat × Bool)} {t e : TypeId} {x ix : Operand} {α : Type} [Rep α] {F : Nat → Prop}
    {ao : Option Addr} {cap : Nat} {xs : List α} {k : Int} {kd : IntKind} (hSE : ∀ w1, S w1 → Ext w w1)
    (ho1 : nthO L i = some ⟨some d, .indexAddr t x ix, ty, pos, af, g⟩) (ho2 : nthO L j = some ⟨some d', .load e (.tmp d), ty', pos', af', g'⟩)
    (hg : gd L σ ⟨some d, .indexAddr t x ix, ty, pos, af, g⟩ = some true) (hd : Nat.ble (d + 1) n = true) (hd' : Nat.ble (d' + 1) n = true)
    (hx : ev σ x = some (.slice ao xs.length cap)) (hi : ev σ ix = some (.int kd k)) [hs : IsS P t e] [ht : IsT P e α] (hF : ∀ b, F b → b < w.heap.size) (hsl : Sl w F ao cap xs) (h0 : 0 ≤ k) (h1 : k < xs.length)
    (hg' : ∀ p, gd L ((d, .pointer p) :: σ) ⟨some d', .load e (.tmp d), ty', pos', af', g'⟩ = some true)
    (h : ∀ u p, Rd w F u (xs[k.toNat]'(by omega)) → HL P L S Q ord n ((d', u) :: (d, .pointer p) :: σ) wc) :
    HL P L S Q ((i, true) :: (j, true) :: ord) n σ wc := by
  obtain ⟨b, off, rfl, hFb, es, hc, hr⟩ := hsl.el k.toNat (by omega)
  refine HL.idx (α := α) ho1 hg hd hx hi h0 h1 ?_
  refine HL.load (α := α) hSE ho2 (hg' _) hd' fnd_cons_eq (hF b hFb) hF hc hr ?_
  exact h _ _ ⟨es, rfl, hr⟩
theorem uclone_ok (w0 : World) {F : Nat → Prop} {ao : Option Addr} {cap : Nat} {xs : List Nat} (hs : Sl w0 F ao cap xs) (hF : ∀ b, F b → b < w0.heap.size) (hb : xs.length * 8 ≤ 140737488355328) :
    Rt Try.prog 134 [.slice ao xs.length cap].toArray w0 fun v w' => Own w' w0.heap.size 33 Non v xs ∧ Ext w0 w' := by
  have hm := hs.len63
  refine Rt.enter1 Try.func134 Try.ntmps134 rfl rfl ?_
  (repeat (first | (apply WL.pure; rfl; rfl; rfl) | (apply WL.nil) | (apply EX.thenN) | (apply CW.seq) | (apply CW.region) | (apply WL.isNil; rfl; rfl; rfl)))
  refine CW.cond rfl (fun h => ?_) (fun h => ?_)
  · (repeat (first | (apply WL.pure; rfl; rfl; rfl) | (apply WL.nil) | (apply EX.thenN) | (apply CW.seq) | (apply CW.region) | (apply CW.ret) | (apply EX.thenR)))
    refine EX.ret1 rfl rfl ⟨?_, Ext.refl _⟩
    have h0 : ao = none := by simpa using h
    have : xs = [] := List.eq_nil_of_length_eq_zero (by have := hs.nil h0; have := hs.le; omega)
    subst this
    exact Own.nil
  · (repeat (first | (apply EX.thenN) | (apply CW.seq) | (apply CW.region) | (apply CW.skip)))
    refine WL.lit0 (α := Nat) rfl rfl (fun w1 ho hg => ?_)
    (repeat (apply WL.pure; rfl; rfl; rfl))
    have hE : Ext w0 w1 := (Below.refl _ _).grown hg (Nat.le_refl _) (fun k h => by cases h)
    refine WL.app (F := Non) rfl rfl rfl rfl ho (hs.up0 hE hF).srcN hE.size (fun _ h => h.elim) (by simp [maxLen]; omega) (by simpa using hb) (fun v w2 ho2 hg2 _ => ?_)
    (repeat (first | (apply WL.pure; rfl; rfl; rfl) | (apply WL.nil) | (apply EX.thenN) | (apply CW.ret)))
    refine EX.ret1 rfl rfl ⟨by simpa using ho2, hE.grown hg2 hE.size ?_⟩
    intro k hk
    exact (ho.lt k hk).1
theorem turnsB_next {l : List Nat} {n : Nat} (h : ∀ j, n ≤ j → j < l.length → l.getD j 0 = l.getD (j - n) 0) : turnsB l n = true := by
  unfold turnsB
  rw [List.all_eq_true]
  intro j hj
  rw [List.mem_range] at hj
  simp only [Bool.or_eq_true, decide_eq_true_eq, beq_iff_eq]
  by_cases hn : j < n
  · exact .inl hn
  · exact .inr (h j (by omega) hj)
theorem getN_at {l : List Nat} {j : Nat} (h : j < l.length) : l.getD j 0 = l[j] := by rw [List.getD_eq_getElem?_getD, List.getElem?_eq_getElem h]; rfl
theorem turns_ok (w0 : World) {ao : Option Addr} {cap : Nat} {l : List Nat} (hs : Sl w0 (Old w0) ao cap l) {n : Nat} (hn : n ≤ l.length) (hm : l.length ≤ 1099511627776) :
    Rt Try.prog 181 [.slice ao l.length cap, .int .i64 n].toArray w0 fun v w' => v = .bool (turnsB l n) ∧ Ext w0 w' := by
  refine Rt.enter2 Try.func181 Try.ntmps181 rfl rfl ?_
  (repeat (first | (apply WL.pure; rfl; rfl; rfl) | (apply WL.nil) | (apply EX.thenN) | (apply CW.seq) | (apply CW.region) | (apply CW.block)))
  refine CW.loop (S := Nat) (fun i => [(0, .slice ao l.length cap), (1, .int .i64 n), (5, .int .i64 i)])
    (fun i w => n ≤ i ∧ i ≤ l.length ∧ Ext w0 w ∧ ∀ j, n ≤ j → j < i → l.getD j 0 = l.getD (j - n) 0) (fun i => l.length - i) n (by repeat (first | exact trivial | refine ⟨rfl, ?_⟩)) ⟨Nat.le_refl _, hn, Ext.refl _, fun j h1 h2 => by omega⟩ ?_
  rintro i w ⟨hni, hi, hE, hpre⟩
  (repeat (first | (apply WL.pure; rfl; rfl; rfl) | (apply WL.nil) | (apply EX.thenN) | (apply CW.seq) | (apply CW.region) | (apply WL.lenS; rfl; rfl; rfl)))
  refine CW.cond rfl (fun h1 => ?_) (fun h1 => ?_)
  · simp at h1
    have hsw := hs.up hE
    have hil : i - n < l.length := by omega
    have esub : (i : Int) - (n : Int) = ((i - n : Nat) : Int) := by omega
    (repeat (first | (apply QL.pure; rfl; rfl; rfl) | (apply EX.thenN) | (apply CW.seq) | (apply CW.block) | (apply CW.skip) | (apply CW.draw; exact mixed; kernel_rfl)))
    refine QL.elemN rfl rfl rfl rfl rfl (fun _ h => h) hsw h1 (fun _ => rfl) (fun u q hu => ?_)
    obtain ⟨rfl, hb1⟩ := hu.u64
    (repeat (first | (apply QL.sub'; rfl; rfl; rfl; rfl; omega; omega) | (apply QL.pure; rfl; rfl; rfl)))
    refine QL.elem rfl rfl rfl rfl rfl (fun _ h => h) hsw (by omega) (by omega) (fun _ => rfl) (fun u q2 hu2 => ?_)
    have ei : ((i : Int) - (n : Int)).toNat = i - n := by omega
    simp only [ei] at hu2
    obtain ⟨rfl, hb2⟩ := hu2.u64
    (repeat (apply QL.pure; rfl; rfl; rfl))
    refine QL.nil (fun w2 hE2 => ?_)
    (repeat (apply EX.thenN))
    refine CW.cond rfl (fun h2 => ?_) (fun h2 => ?_)
    · have h2 : ¬ l[i] = l[i - n] := by
        have : ¬ ((l[i] : Nat) : Int) = ((l[i - n] : Nat) : Int) := by simpa using h2
        omega
      (repeat (first | (apply WL.pure; rfl; rfl; rfl) | (apply WL.nil) | (apply EX.thenN) | (apply CW.seq) | (apply CW.region) | (apply CW.ret) | (apply EX.thenR) | (apply EX.inR)))
      refine EX.ret1 rfl rfl ⟨?_, hE.trans hE2⟩
      have : turnsB l n = false := by
        cases e : turnsB l n
        · rfl
        · exfalso
          unfold turnsB at e
          rw [List.all_eq_true] at e
          have := e i (List.mem_range.2 h1)
          simp only [Bool.or_eq_true, decide_eq_true_eq, beq_iff_eq] at this
          rw [getN_at h1, getN_at hil] at this
          omega
      rw [this]
    · have h2 : l[i] = l[i - n] := by
        have : ((l[i] : Nat) : Int) = ((l[i - n] : Nat) : Int) := by simpa using h2
        omega
      (repeat (first | (apply WL.add; rfl; rfl; rfl; rfl; omega; omega) | (apply WL.pure; rfl; rfl; rfl) | (apply WL.nil) | (apply EX.thenN) | (apply CW.region) | (apply EX.inN) | (apply CW.skip)))
      refine EX.back (i + 1) (by repeat (first | exact trivial | refine ⟨rfl, ?_⟩)) ⟨by omega, h1, hE.trans hE2, fun j h3 h4 => ?_⟩ (by omega)
      by_cases e : j = i
      · subst e; rw [getN_at h1, getN_at hil]; exact h2
      · exact hpre j h3 (by omega)
  · simp at h1
    have : i = l.length := by omega
    subst this
    (repeat (first | (apply WL.pure; rfl; rfl; rfl) | (apply WL.nil) | (apply EX.thenN) | (apply CW.seq) | (apply CW.region) | (apply CW.exit) | (apply EX.thenX) | (apply EX.inX) | (apply CW.ret)))
    refine EX.ret1 rfl rfl ⟨?_, hE⟩
    rw [turnsB_next hpre]
theorem perGo_found {l : List Nat} {n : Nat} (hfit : l.length % n = 0 ∧ turnsB l n = true) : ∀ (f k : Nat), k ≤ n → n < k + f → (∀ d, k ≤ d → d < n → ¬ (l.length % d = 0 ∧ turnsB l d = true)) → perGo l f k = l.take n
  | 0, k, h1, h2, _ => by omega
  | f + 1, k, h1, h2, hno => by
    by_cases e : k = n
    · subst e; rw [perGo, if_pos hfit]
    · rw [perGo, if_neg (hno k (Nat.le_refl _) (by omega))]
      exact perGo_found hfit f (k + 1) (by omega) (by omega) (fun d h3 h4 => hno d (by omega) h4)

theorem least_ok (w0 : World) {F : Nat → Prop} {so lo : Option Addr} {sc lc : Nat} {s l : List Nat} (hs : Sl w0 F so sc s) (hl : Sl w0 F lo lc l) (hF : ∀ b, F b → b < w0.heap.size) (h0 : 0 < l.length) (h60 : s.length + l.length ≤ 1000) :
    Rt Try.prog 132 [wordV so sc lo lc s l].toArray w0 fun v w' => Rd w' (fun b => w0.heap.size ≤ b ∧ b < w'.heap.size) v (leastL s l : LWord) ∧ Ext w0 w' := by
  refine Rt.enter1 Try.func132 Try.ntmps132 rfl rfl ?_
  (repeat (first | (apply CW.seq) | (apply CW.region)))
  refine WL.boxB rfl rfl rfl fun w1 hw hE1 => ?_
  have hlt1 : w0.heap.size < w1.heap.size := hw.lt
  refine WL.alloc rfl rfl (fun w2 hr hE2 => ?_)
  have hw := hw.ext hE2
  have hlt2 : w1.heap.size < w2.heap.size := hr.lt
  have hE12 := hE1.trans hE2
  (repeat (first | (apply WL.nil) | (apply EX.thenN) | (apply CW.seq)))
  have hSE : ∀ w3, (fun x => Ext w2 x) w3 → Ext w2 w3 := fun _ h => h
  refine CW.drawH (fun x => Ext w2 x) [(0, true), (1, true), (3, true), (4, true), (2, false), (5, false), (6, true), (7, true)] mixed (by kernel_rfl) (Ext.drew w2) ?_
  (repeat (first | (refine HL.fa rfl rfl rfl rfl ?_) | (refine HL.ld (by assumption) rfl rfl rfl rfl (by assumption) rfl ?_)))
  have hd : Ext w0 (drew w2) := hE12.trans (Ext.drew w2)
  refine HL.mut rfl (WL.call rfl rfl rfl (uclone_ok (drew w2) (hs.up0 hd hF) (fun b hb => Nat.lt_of_lt_of_le (hF b hb) hd.size) (by omega)) ?_)
  rintro sV w3 ⟨hos, hE3⟩
  have hT3 : Ext w2 w3 := (Ext.drew w2).trans hE3
  refine WL.nil (EX.mut hT3 ?_)
  have hd3 := hE12.trans hT3
  refine HL.mut rfl (WL.call rfl rfl rfl (uclone_ok w3 (hl.up0 hd3 hF) (fun b hb => Nat.lt_of_lt_of_le (hF b hb) hd3.size) (by omega)) ?_)
  rintro lV w4 ⟨hol, hE4⟩
  have hT4 : Ext w2 w4 := hT3.trans hE4
  refine WL.nil (EX.mut hT4 ?_)
  have hos := (hos.extN hE4).low (B' := w2.heap.size) (Nat.le_refl _)
  have hol := hol.low hT3.size
  (repeat (first | (apply HL.pure; rfl; rfl; rfl; rfl) | (apply HL.nil)))
  apply EX.thenN
  have hE4' := hE12.trans hT4
  have hr4 := hr.ext hT4
  clear hw hE1 hE2 hE3 hE4 hT3 hd hd3 hSE
  have hllen : 0 < l.length ∧ l.length ≤ 1000 := ⟨h0, by omega⟩
  obtain ⟨lo2, lc2, rfl, hlsl⟩ := hol.oldN.sl
  (repeat (first | (apply WL.pure; rfl; rfl; rfl) | (apply WL.nil) | (apply EX.thenN) | (apply CW.seq) | (apply CW.region) | (apply CW.block)))
  refine CW.loop (S := Nat) (fun n => [(2, .pointer (some ⟨w1.heap.size, 0, none⟩)), (3, sV), (4, .slice lo2 l.length lc2), (5, .int .i64 n)])
    (fun n w => 0 < n ∧ n ≤ l.length + 1 ∧ (∀ d, 0 < d → d < n → ¬ (l.length % d = 0 ∧ turnsB l d = true)) ∧ Ext w4 w) (fun n => l.length + 1 - n) 1 (by repeat (first | exact trivial | refine ⟨rfl, ?_⟩)) ⟨by omega, by omega, fun d h1 h2 => by omega, Ext.refl _⟩ ?_
  rintro n w5 ⟨hn0, hnl, hno, hE5⟩
  have hol5 := hol.extN hE5
  (repeat (first | (apply WL.pure; rfl; rfl; rfl) | (apply WL.nil) | (apply EX.thenN) | (apply CW.seq) | (apply CW.region) | (apply WL.lenS; rfl; rfl; rfl)))
  refine CW.cond rfl (fun h1 => ?_) (fun h1 => ?_)
  rotate_left
  · exfalso
    have hnn : n = l.length + 1 := by simp at h1; omega
    refine hno l.length h0 (by omega) ⟨Nat.mod_self _, ?_⟩
    rw [turns_per (s := s) h0 (Nat.mod_self _) h0]
    exact lat_perP h0
  have hnle : n ≤ l.length := by simp at h1; omega
  clear h1
  (repeat (first | (apply WL.pure; rfl; rfl; rfl) | (apply EX.thenN) | (apply CW.seq) | (apply CW.region) | (apply WL.lenS; rfl; rfl; rfl) | (apply CW.block) | (apply CW.skip)))
  refine WL.rem rfl rfl rfl rfl (by omega) (by omega) ?_
  (repeat (apply WL.pure; rfl; rfl; rfl))
  by_cases hdiv : l.length % n = 0
  · have e1 : ((l.length : Int) % (n : Int) == 0) = true := by
      rw [beq_iff_eq]; omega
    rw [e1]
    (repeat (apply WL.pure; rfl; rfl; rfl))
    refine WL.call rfl rfl rfl (turns_ok w5 (hlsl.up hE5) hnle (by omega)) ?_
    rintro _ w6 ⟨rfl, hE6⟩
    have hE56 := hE5.trans hE6
    cases hturn : turnsB l n
    · (repeat (first | (apply WL.add; rfl; rfl; rfl; rfl; omega; omega) | (apply WL.pure; rfl; rfl; rfl) | (apply WL.nil) | (apply EX.thenN) | (apply CW.region) | (apply EX.inN) | (apply CW.condF; rfl) | (apply CW.skip)))
      refine EX.back (n + 1) (by repeat (first | exact trivial | refine ⟨rfl, ?_⟩)) ⟨by omega, by omega, fun d h1 h2 => ?_, hE56⟩ (by omega)
      by_cases e : d = n
      · subst e; intro h; rw [hturn] at h; cases h.2
      · exact hno d h1 (by omega)
    have hper : perL l = l.take n := perGo_found ⟨hdiv, hturn⟩ _ 1 (by omega) (by omega) (fun d h1 h2 => hno d (by omega) h2)
    have hol6 := hol5.extN hE6
    have hos6 := hos.extN hE56
    (repeat (first | (apply WL.pure; rfl; rfl; rfl) | (apply WL.nil) | (apply EX.thenN) | (apply CW.seq) | (apply CW.region) | (apply CW.condT; rfl)))
    refine WL.cut3O (α := Nat) rfl rfl rfl rfl rfl hol6 hnle (fun pV hop hpb => ?_)
    rw [← hper] at hop
    have hpl : 0 < (perL l).length ∧ (perL l).length ≤ l.length := by rw [hper, List.length_take]; omega
    have hres : rollGo s.length s (perL l) = leastL s l := rfl
    generalize perL l = l1 at *
    have hE06 : Ext w2 w6 := hT4.trans hE56
    have hsl0 : s.length ≤ 1000 := by omega
    (repeat (first | (apply WL.pure; rfl; rfl; rfl) | (apply WL.nil) | (apply EX.thenN) | (apply CW.seq) | (apply CW.block) | (apply CW.exit) | (apply EX.thenX) | (apply EX.inX) | (apply EX.inXne; rfl)))
    refine CW.loop (S := List Nat × List Nat × Value × Value) (fun x => [(2, .pointer (some ⟨w1.heap.size, 0, none⟩)), (3, x.2.2.1), (4, x.2.2.2)])
      (fun x w => x.1.length ≤ s.length ∧ 0 < x.2.1.length ∧ x.2.1.length ≤ l.length ∧ rollGo x.1.length x.1 x.2.1 = leastL s l ∧ Own w w2.heap.size 33 Non x.2.2.1 x.1 ∧ Own w w2.heap.size 33 Non x.2.2.2 x.2.1 ∧ Ext w2 w) (fun x => x.1.length) (s, l1, sV, pV) (by repeat (first | exact trivial | refine ⟨rfl, ?_⟩)) ⟨Nat.le_refl _, hpl.1, hpl.2, hres, hos6, hop, hE06⟩ ?_
    clear hop hos6 hol6 hE06 hres hpl hper hol5 hE5 hE6 hE56 hno hos hol hlsl hT4
    rintro ⟨s2, l2, aV, bV⟩ w7 ⟨hs2, hl2, hl2', hres, hoa, hob, hE7⟩
    dsimp only at hs2 hl2 hl2' hres hoa hob
    obtain ⟨ao, ac, rfl, hasl⟩ := hoa.oldN.sl
    obtain ⟨bo, bc, rfl, hbsl⟩ := hob.oldN.sl
    (repeat (first | (apply QL.pure; rfl; rfl; rfl) | (apply CW.seq) | (apply QL.lenS; rfl; rfl; rfl) | (apply CW.draw; exact mixed; kernel_rfl)))
    (refine QL.lookG rfl rfl (fun h => ?_) (fun h => ?_))
    · have hpos : 0 < s2.length := by simpa using h
      have hsl1 : s2.length - 1 < s2.length := by omega
      have hll1 : l2.length - 1 < l2.length := by omega
      have eS : ((s2.length : Int) - 1).toNat = s2.length - 1 := by omega
      have eL : ((l2.length : Int) - 1).toNat = l2.length - 1 := by omega
      (repeat (first | (apply QL.sub'; rfl; rfl; rfl; rfl; omega; omega) | (apply QL.pure; rfl; rfl; rfl) | (apply QL.lenS; rfl; rfl; rfl)))
      refine QL.elem rfl rfl rfl rfl rfl (fun _ h => h) hasl (by omega) (by omega) (fun _ => rfl) (fun u q hu => ?_)
      simp only [eS] at hu
      obtain ⟨rfl, hb1⟩ := hu.u64
      (repeat (first | (apply QL.sub'; rfl; rfl; rfl; rfl; omega; omega) | (apply QL.pure; rfl; rfl; rfl) | (apply QL.lenS; rfl; rfl; rfl)))
      refine QL.elem rfl rfl rfl rfl rfl (fun _ h => h) hbsl (by omega) (by omega) (fun _ => rfl) (fun u q2 hu2 => ?_)
      simp only [eL] at hu2
      obtain ⟨rfl, hb2⟩ := hu2.u64
      (repeat (apply QL.pure; rfl; rfl; rfl))
      refine QL.nil (fun w8 hE8 => ?_)
      have hoa8 := hoa.extN hE8
      have hob8 := hob.extN hE8
      have hE28 := hE7.trans hE8
      (repeat (apply EX.thenN))
      refine CW.cond rfl (fun h1 => ?_) (fun h1 => ?_)
      · have heq : s2[s2.length - 1] = l2[l2.length - 1] := by
          have : ((s2[s2.length - 1] : Nat) : Int) = ((l2[l2.length - 1] : Nat) : Int) := by simpa using h1
          omega
        have hroll : rollGo s2.length s2 l2 = rollGo (s2.length - 1) (s2.take (s2.length - 1)) (l2.getD (l2.length - 1) 0 :: l2.take (l2.length - 1)) := by
          obtain ⟨m, hm⟩ : ∃ m, s2.length = m + 1 := ⟨s2.length - 1, by omega⟩
          rw [hm, rollGo, if_pos ⟨by omega, by rw [getN_at (by omega), getN_at hll1]; exact heq⟩, hm]
          rfl
        have elast : l2.getD (l2.length - 1) 0 = l2[l2.length - 1] := getN_at hll1
        rw [elast] at hroll
        (repeat (first | (apply WL.sub'; rfl; rfl; rfl; rfl; omega; omega) | (apply WL.pure; rfl; rfl; rfl) | (apply EX.thenN) | (apply CW.seq) | (apply CW.region) | (apply WL.lenS; rfl; rfl; rfl) | (apply CW.block) | (apply CW.skip)))
        refine WL.cutHiO (α := Nat) (s2.length - 1) (by omega) rfl rfl rfl rfl hoa8 (by omega) (fun cV hoc hcb => ?_)
        (repeat (apply WL.pure; rfl; rfl; rfl))
        apply WL.nil
        apply EX.thenN
        have hd : Ext w2 (drew w8) := hE28.trans (Ext.drew w8)
        have hobd := hob8.extN (Ext.drew w8)
        have hocd := hoc.extN (Ext.drew w8)
        obtain ⟨bo', bc', hbe, hbsd⟩ := hobd.oldN.sl
        obtain ⟨rfl, _, rfl⟩ := Value.slice.inj hbe
        have hSE : ∀ w9, (fun x => Ext (drew w8) x) w9 → Ext (drew w8) w9 := fun _ h => h
        refine CW.drawH (fun x => Ext (drew w8) x) [(0, true), (1, true), (2, true), (3, true), (4, true), (5, true), (7, true), (8, true), (9, true), (10, true), (11, true), (6, false), (12, false), (13, true)] mixed (by kernel_rfl) (Ext.refl _) ?_
        (repeat (first | (apply HL.sub'; rfl; rfl; rfl; rfl; rfl; omega; omega) | (apply HL.pure; rfl; rfl; rfl; rfl) | (refine HL.lenS rfl rfl rfl rfl ?_)))
        refine HL.elemZ hSE rfl rfl rfl rfl rfl rfl rfl (fun _ h => h) hbsd (by omega) (by omega) (fun _ => rfl) (fun u q3 hu3 => ?_)
        simp only [eL] at hu3
        obtain ⟨rfl, hb3⟩ := hu3.u64
        (repeat (first | (apply HL.sub'; rfl; rfl; rfl; rfl; rfl; omega; omega) | (apply HL.pure; rfl; rfl; rfl; rfl) | (refine HL.lenS rfl rfl rfl rfl ?_)))
        refine HL.cutHi (α := Nat) (l2.length - 1) (by omega) rfl rfl rfl rfl rfl (by have := hbsd.le; omega) ?_
        refine HL.mut rfl (WL.lit (α := Nat) (F := Non) (ys := [l2[l2.length - 1]]) rfl rfl rfl rfl rfl (.cons ⟨_, rfl, rd_mkU64 _ _ _ hb3⟩ .nil) (by show 1 * 1 ≤ 16777216; decide) (fun _ h => h.elim) (fun w9 ho9 hg9 => ?_))
        have hE9 : Ext (drew w8) w9 := (Ext.refl _).grown hg9 (Nat.le_refl _) (fun k h => by cases h)
        refine WL.nil (EX.mut hE9 ?_)
        have htk := (hbsd.up hE9).take (k := l2.length - 1) (by omega)
        have htl : (l2.take (l2.length - 1)).length = l2.length - 1 := by rw [List.length_take]; omega
        refine HL.mut rfl (WL.app (F := Non) (xs := [l2[l2.length - 1]]) (ys := l2.take (l2.length - 1)) (cap := bc) rfl rfl rfl (by rw [htl]; rfl) ho9 htk.srcN hE9.size (fun _ h => h.elim) (by rw [htl]; unfold maxLen; simp; omega) (by rw [htl]; simp; omega) (fun v' w10 ho10 hg10 hnb10 => ?_))
        have hE10 : Ext (drew w8) w10 := hE9.grown hg10 hE9.size (fun k hk => by cases hk; exact Nat.le_refl _)
        refine WL.nil (EX.mut hE10 ?_)
        have hoc10 := hocd.extN hE10
        (repeat (first | (apply HL.pure; rfl; rfl; rfl; rfl) | (apply HL.nil)))
        (repeat (apply EX.inN))
        refine EX.back (s2.take (s2.length - 1), l2[l2.length - 1] :: l2.take (l2.length - 1), cV, v') (by repeat (first | exact trivial | refine ⟨rfl, ?_⟩)) ⟨by simp only [List.length_take]; omega, by simp, by simp only [List.length_cons, htl]; omega, ?_, hoc10, ho10.low hd.size, hd.trans hE10⟩ (by simp only [List.length_take]; omega)
        dsimp only
        rw [List.length_take, Nat.min_eq_left (by omega), ← hroll]
        exact hres
      · have hne : ¬ s2[s2.length - 1] = l2[l2.length - 1] := by
          have : ¬ ((s2[s2.length - 1] : Nat) : Int) = ((l2[l2.length - 1] : Nat) : Int) := by simpa using h1
          omega
        have hfin : (s2, l2) = leastL s l := by
          rw [← hres]
          obtain ⟨m, hm⟩ : ∃ m, s2.length = m + 1 := ⟨s2.length - 1, by omega⟩
          rw [hm, rollGo, if_neg (fun h => hne (by have := h.2; rwa [getN_at (by omega), getN_at hll1] at this))]
        rw [← hfin]
        (repeat (first | (apply WL.pure; rfl; rfl; rfl) | (apply EX.thenN) | (apply CW.seq) | (apply CW.region) | (apply CW.exit) | (apply EX.thenX) | (apply EX.inX)))
        have hr8 := hr.ext hE28
        have hE08 : Ext w0 w8 := hE12.trans hE28
        refine WL.call rfl rfl rfl (uclone_ok w8 (hasl.up hE8) (fun _ h => h) (by omega)) ?_
        rintro eV w9 ⟨hoe, hE9⟩
        have hob9 := hob8.extN hE9
        have hr9 := hr8.ext hE9
        have hE09 := hE08.trans hE9
        obtain ⟨eo, ec, rfl⟩ := hoe.val
        (repeat (apply WL.pure; rfl; rfl; rfl))
        refine WL.build rfl rfl rfl rfl ?_
        refine WL.st rfl rfl rfl hr9 rfl rfl (ones_of rfl) (fun w10 hr10 hg10 => ?_)
        have hE10 : Ext w0 w10 := hE09.grown hg10 hE09.size (fun g hg => by cases hg; omega)
        have hw29 : w2.heap.size ≤ w8.heap.size := hE28.size
        have hoe10 := hoe.keptN hg10 (fun g hg e => by cases e; have := (hoe.lt _ hg).1; omega)
        have hob10 := hob9.keptN hg10 (fun g hg e => by cases e; have := (hob9.lt _ hg).1; omega)
        obtain ⟨q1, q2, he1, hsl1⟩ := (hoe10.rd.mono (F' := fun b => w0.heap.size ≤ b ∧ b < w10.heap.size) (fun _ _ => rfl) (fun b hb => hb.elim (fun h => h.elim) fun hb => ⟨Nat.le_trans hE08.size (hoe10.lt b hb).1, (hoe10.lt b hb).2.1⟩)).sl
        obtain ⟨rfl, _, rfl⟩ := Value.slice.inj he1
        obtain ⟨q3, q4, he2, hsl2⟩ := (hob10.rd.mono (F' := fun b => w0.heap.size ≤ b ∧ b < w10.heap.size) (fun _ _ => rfl) (fun b hb => hb.elim (fun h => h.elim) fun hb => ⟨Nat.le_trans hE12.size (hob10.lt b hb).1, (hob10.lt b hb).2.1⟩)).sl
        obtain ⟨rfl, _, rfl⟩ := Value.slice.inj he2
        (repeat (first | (apply WL.nil) | (apply EX.thenN) | (apply CW.ret)))
        exact EX.retC rfl rfl hr10 rfl ⟨Rd.mkPr (rd_mkSl hsl1) (rd_mkSl hsl2), hE10⟩
    · have hs0 : s2 = [] := by simpa using h
      have hfin : (s2, l2) = leastL s l := by
        rw [← hres, hs0]; rfl
      rw [← hfin]
      (repeat (first | (apply QL.pure; rfl; rfl; rfl) | (apply QL.pass; rfl; rfl)))
      refine QL.nil (fun w8 hE8 => ?_)
      have hoa8 := hoa.extN hE8
      have hob8 := hob.extN hE8
      have hE28 := hE7.trans hE8
      (repeat (first | (apply WL.pure; rfl; rfl; rfl) | (apply EX.thenN) | (apply CW.seq) | (apply CW.region) | (apply CW.condF; rfl) | (apply CW.exit) | (apply EX.thenX) | (apply EX.inX)))
      have hr8 := hr.ext hE28
      have hE08 : Ext w0 w8 := hE12.trans hE28
      refine WL.call rfl rfl rfl (uclone_ok w8 (hasl.up hE8) (fun _ h => h) (by omega)) ?_
      rintro eV w9 ⟨hoe, hE9⟩
      have hob9 := hob8.extN hE9
      have hr9 := hr8.ext hE9
      have hE09 := hE08.trans hE9
      obtain ⟨eo, ec, rfl⟩ := hoe.val
      (repeat (apply WL.pure; rfl; rfl; rfl))
      refine WL.build rfl rfl rfl rfl ?_
      refine WL.st rfl rfl rfl hr9 rfl rfl (ones_of rfl) (fun w10 hr10 hg10 => ?_)
      have hE10 : Ext w0 w10 := hE09.grown hg10 hE09.size (fun g hg => by cases hg; omega)
      have hw29 : w2.heap.size ≤ w8.heap.size := hE28.size
      have hoe10 := hoe.keptN hg10 (fun g hg e => by cases e; have := (hoe.lt _ hg).1; omega)
      have hob10 := hob9.keptN hg10 (fun g hg e => by cases e; have := (hob9.lt _ hg).1; omega)
      obtain ⟨q1, q2, he1, hsl1⟩ := (hoe10.rd.mono (F' := fun b => w0.heap.size ≤ b ∧ b < w10.heap.size) (fun _ _ => rfl) (fun b hb => hb.elim (fun h => h.elim) fun hb => ⟨Nat.le_trans hE08.size (hoe10.lt b hb).1, (hoe10.lt b hb).2.1⟩)).sl
      obtain ⟨rfl, _, rfl⟩ := Value.slice.inj he1
      obtain ⟨q3, q4, he2, hsl2⟩ := (hob10.rd.mono (F' := fun b => w0.heap.size ≤ b ∧ b < w10.heap.size) (fun _ _ => rfl) (fun b hb => hb.elim (fun h => h.elim) fun hb => ⟨Nat.le_trans hE12.size (hob10.lt b hb).1, (hob10.lt b hb).2.1⟩)).sl
      obtain ⟨rfl, _, rfl⟩ := Value.slice.inj he2
      (repeat (first | (apply WL.nil) | (apply EX.thenN) | (apply CW.ret)))
      exact EX.retC rfl rfl hr10 rfl ⟨Rd.mkPr (rd_mkSl hsl1) (rd_mkSl hsl2), hE10⟩
  · have e1 : ((l.length : Int) % (n : Int) == 0) = false := by
      rw [beq_eq_false_iff_ne]; omega
    rw [e1]
    (repeat (first | (apply WL.add; rfl; rfl; rfl; rfl; omega; omega) | (apply WL.pure; rfl; rfl; rfl) | (apply WL.nil) | (apply EX.thenN) | (apply CW.region) | (apply WL.pass; rfl; rfl) | (apply EX.inN) | (apply CW.condF; rfl) | (apply CW.skip)))
    refine EX.back (n + 1) (by repeat (first | exact trivial | refine ⟨rfl, ?_⟩)) ⟨by omega, by omega, fun d h1 h2 => ?_, hE5⟩ (by omega)
    by_cases e : d = n
    · subst e; exact fun h => hdiv h.1
    · exact hno d h1 (by omega)

def sameE (s l t m : List Nat) : Bool × Int := if chkW s l ≠ 0 then (false, chkW s l) else if chkW t m ≠ 0 then (false, chkW t m) else ((leastL s l).1 == (leastL t m).1 && (leastL s l).2 == (leastL t m).2, 0)
end Go.Proofs.Ytadbkppgaekmpaa
/-
  lasso.Least walked.
-/
set_option linter.unusedVariables false
set_option linter.unusedSimpArgs false
namespace Go.Proofs.Ytadbkppgaekmpaa
open Go.RowKit

instance iLeast2a : IsF Try.prog 74 := ⟨_, Try.func74, rfl, by decide⟩
def leastE (s l : List Nat) : LWord := if chkW s l ≠ 0 then ([], []) else leastL s l
theorem Least_okF (w0 : World) {so lo : Option Addr} {sc lc : Nat} {s l : List Nat} (hs : Sl w0 (Old w0) so sc s) (hl : Sl w0 (Old w0) lo lc l) :
    Rt Try.prog 74 [wordV so sc lo lc s l].toArray w0 fun v w' => ∃ x, v = .tuple ⟨[x, .int .i64 (chkW s l)]⟩ ∧ Rd w' (fun b => w0.heap.size ≤ b ∧ b < w'.heap.size) x (leastE s l) ∧ Ext w0 w' := by
  refine Rt.enter1 Try.func74 Try.ntmps74 rfl rfl ?_
  (repeat (first | (apply CW.seq) | (apply CW.region)))
  refine WL.boxB rfl rfl rfl fun w1 hb1 hE1 => ?_
  skip
  refine WL.alloc rfl rfl (fun w2 hr hE2 => ?_)
  have hb2 := hb1.ext hE2
  have hE2 := hE1.trans hE2
  have hsz := hE1.size
  (repeat (first | (apply WL.pure; rfl; rfl; rfl) | (apply WL.nil) | (apply EX.thenN) | (apply CW.seq) | (apply CW.region) | (apply WL.ldA; rfl; rfl; rfl; assumption; rfl)))
  refine WL.call rfl rfl rfl (lassoCheck w2 hs.len63 hl.len63) ?_
  rintro _ w3 ⟨rfl, e3⟩
  have hb3 := hb2.ext e3
  have hr3 := hr.ext e3
  have hE3 := hE2.trans e3
  unfold leastE
  (repeat (first | (apply WL.pure; rfl; rfl; rfl) | (apply WL.nil) | (apply EX.thenN) | (apply CW.seq) | (apply CW.region)))
  refine CW.cond rfl (fun h => ?_) (fun h => ?_)
  · have h : chkW s l ≠ 0 := by simpa using h
    rw [if_pos h]
    (repeat (first | (apply CW.seq) | (apply CW.region)))
    refine WL.build (parts := []) rfl rfl rfl rfl ?_
    (repeat (apply WL.pure; rfl; rfl; rfl))
    refine WL.st rfl rfl rfl hr3 rfl rfl (ones_of rfl) (fun w4 hr4 hg4 => ?_)
    have hE4 : Ext w0 w4 := hE3.grown hg4 hE3.size (fun g hg => by cases hg; omega)
    (repeat (first | (apply WL.pure; rfl; rfl; rfl) | (apply WL.nil) | (apply EX.thenN) | (apply CW.ret) | (apply EX.thenR)))
    exact EX.retC2 rfl rfl rfl hr4 rfl ⟨_, rfl, Rd.mkPr (rd_mkSl (Sl.zero _ _)) (rd_mkSl (Sl.zero _ _)), hE4⟩
  have h : chkW s l = 0 := by simpa using h
  rw [if_neg (by simp [h])]
  have k := chkW_ok h
  (repeat (first | (apply EX.thenN) | (apply CW.seq) | (apply CW.region) | (apply WL.ldA; rfl; rfl; rfl; assumption; rfl) | (apply CW.skip)))
  refine WL.call rfl rfl rfl (least_ok w3 (hs.at hE3) (hl.at hE3) (fun b hb => Nat.lt_of_lt_of_le hb hE3.size) k.2 (by omega)) ?_
  rintro v w4 ⟨h4, e4⟩
  have hr4 := hr3.ext e4
  have hE4 := hE3.trans e4
  have hlt := hr3.lt
  obtain ⟨xo, xc, yo, yc, rfl, hx, hy⟩ := h4.word
  skip
  refine WL.st rfl rfl rfl hr4 rfl rfl (ones_of rfl) (fun w5 hr5 hg5 => ?_)
  have hE5 : Ext w0 w5 := hE4.grown hg5 hE4.size (fun g hg => by cases hg; omega)
  have hF : ∀ b, (w3.heap.size ≤ b ∧ b < w4.heap.size) → w5.heap[b]? = w4.heap[b]? := fun b hb => hg5.block b hb.2 (fun e => by cases e; omega)
  have hO : ∀ b, (w3.heap.size ≤ b ∧ b < w4.heap.size) → (w0.heap.size ≤ b ∧ b < w5.heap.size) := fun b hb => ⟨Nat.le_trans hE3.size hb.1, Nat.lt_of_lt_of_le hb.2 hg5.size⟩
  rw [h]
  (repeat (first | (apply WL.pure; rfl; rfl; rfl) | (apply WL.nil) | (apply EX.thenN) | (apply CW.ret)))
  exact EX.retC2 rfl rfl rfl hr5 rfl ⟨_, rfl, Rd.mkPr (rd_mkSl (hx.mono hF hO)) (rd_mkSl (hy.mono hF hO)), hE5⟩
theorem Least_ok (w0 : World) {so lo : Option Addr} {sc lc : Nat} {s l : List Nat} (hs : Sl w0 (Old w0) so sc s) (hl : Sl w0 (Old w0) lo lc l) :
    Rt Try.prog 74 [wordV so sc lo lc s l].toArray w0 fun v w' => ∃ x, v = .tuple ⟨[x, .int .i64 (chkW s l)]⟩ ∧ Rd w' (Old w') x (leastE s l) ∧ Ext w0 w' :=
  (Least_okF w0 hs hl).mono fun v w' ⟨x, h1, h2, h3⟩ => ⟨x, h1, h2.mono (fun _ _ => rfl) (fun b hb => hb.2), h3⟩
end Go.Proofs.Ytadbkppgaekmpaa
/-
  Package auto: round, accepts, Accepts.
-/
set_option linter.unusedVariables false
set_option linter.unusedSimpArgs false
namespace Go.Proofs.Ytadbkppgaekmpaa
open Go.RowKit

theorem getB_at {l : List Bool} {j : Nat} (h : j < l.length) : l.getD j false = l[j] := by rw [List.getD_eq_getElem?_getD, List.getElem?_eq_getElem h]; rfl
/-- parts that are gone round in, so far -/
def rndP (g : Graph) (part : List Int) (n j c : Nat) : Prop := (∃ u, u < n ∧ part.getD u 0 = c ∧ ∃ to ∈ g.getD u [], part.getD to.toNat 0 = c) ∨ (part.getD n 0 = c ∧ ∃ to ∈ (g.getD n []).take j, part.getD to.toNat 0 = c)
theorem rndP_next {g : Graph} {part : List Int} {n c : Nat} : rndP g part n (g.getD n []).length c ↔ rndP g part (n + 1) 0 c := by
  unfold rndP
  rw [List.take_length, List.take_zero]
  constructor
  · rintro (⟨u, h1, h2⟩ | ⟨h1, h2⟩)
    · exact .inl ⟨u, by omega, h2⟩
    · exact .inl ⟨n, by omega, h1, h2⟩
  · rintro (⟨u, h1, h2, h3⟩ | ⟨_, h2⟩)
    · by_cases e : u = n
      · subst e; exact .inr ⟨h2, h3⟩
      · exact .inl ⟨u, by omega, h2, h3⟩
    · obtain ⟨to, h, _⟩ := h2; simp at h
theorem round_ok (w0 : World) {ao po : Option Addr} {cap pc : Nat} {g : Graph} {part : List Int} (hs : Sl w0 (Old w0) ao cap g) (hp : Sl w0 (Old w0) po pc part) (hg : okG g) (hpt : PartsOK g part) (hl : g.length ≤ 1099511627776) :
    Rt Try.prog 137 [.slice ao g.length cap, .slice po part.length pc].toArray w0 fun v w' => ∃ out : List Bool, Own w' w0.heap.size 4 Non v out ∧ out.length = g.length ∧
      (∀ c, c < g.length → (out.getD c false = true ↔ ∃ u, u < g.length ∧ part.getD u 0 = c ∧ ∃ to ∈ g.getD u [], part.getD to.toNat 0 = c)) ∧ Ext w0 w' := by
  have hm := hs.len63
  have hpl := hpt.len
  refine Rt.enter2 Try.func137 Try.ntmps137 rfl rfl ?_
  (repeat (first | (apply WL.pure; rfl; rfl; rfl) | (apply WL.nil) | (apply EX.thenN) | (apply CW.seq) | (apply CW.region) | (apply WL.lenS; rfl; rfl; rfl)))
  refine WL.make (α := Bool) rfl rfl rfl rfl (by omega) (by unfold maxLen; omega) (fun w1 ho1 hg1 => ?_)
  have hE1 : Ext w0 w1 := (Below.refl _ _).grown hg1 (Nat.le_refl _) (fun k h => by cases h)
  generalize hsv : Value.slice (some ⟨w0.heap.size, 0, none⟩) g.length g.length = sv at *
  (repeat (first | (apply WL.pure; rfl; rfl; rfl) | (apply WL.nil) | (apply EX.thenN) | (apply CW.seq) | (apply CW.region) | (apply WL.lenS; rfl; rfl; rfl) | (apply CW.block)))
  refine CW.loop (S := Nat × List Bool) (fun s => [(1, .slice po part.length pc), (5, sv), (13, .slice ao g.length cap), (14, .int .i64 g.length), (15, .int .i64 s.1)])
    (fun s w => s.1 ≤ g.length ∧ Own w w0.heap.size 4 Non sv s.2 ∧ s.2.length = g.length ∧ (∀ c, c < g.length → (s.2.getD c false = true ↔ rndP g part s.1 0 c)) ∧ Ext w0 w) (fun s => g.length - s.1) (0, List.replicate g.length false) (by repeat (first | exact trivial | refine ⟨rfl, ?_⟩))
    ⟨Nat.zero_le _, ho1, by simp, fun c hc => ?_, hE1⟩ ?_
  · dsimp only
    rw [getD_rep]
    unfold rndP
    simp
  rintro ⟨n, out⟩ w ⟨hn, ho, hol, hr, hE⟩
  dsimp only at hn ho hol hr ⊢
  (repeat (first | (apply WL.pure; rfl; rfl; rfl) | (apply WL.nil) | (apply EX.thenN) | (apply CW.seq) | (apply CW.region)))
  refine CW.cond rfl (fun h => ?_) (fun h => ?_)
  · have hn' : n < g.length := by simp at h; omega
    (repeat (first | (apply WL.pure; rfl; rfl; rfl) | (apply EX.thenN) | (apply CW.seq) | (apply CW.region) | (apply CW.block) | (apply CW.skip)))
    refine WL.elemN rfl rfl rfl rfl rfl (hs.at hE) hn' (fun _ => rfl) (fun u q hu => ?_)
    obtain ⟨ro, rc, rfl, hrow⟩ := hu.sl
    have hrl := hrow.len63
    have erow : g.getD n [] = g[n] := getDG_at hn'
    have hnp : n < part.length := by omega
    have hpn0 := hpt.ge n hnp
    have hpn1 := hpt.lt n hnp
    obtain ⟨c0, hc0⟩ := Int.eq_ofNat_of_zero_le hpn0
    have hc0l : c0 < g.length := by omega
    have hpc : part[n] = (c0 : Int) := by rw [← getDI_at hnp]; exact hc0
    (repeat (first | (apply WL.pure; rfl; rfl; rfl) | (apply WL.nil) | (apply EX.thenN) | (apply CW.seq) | (apply CW.region) | (apply WL.lenS; rfl; rfl; rfl) | (apply CW.block)))
    refine CW.loop (S := Nat × List Bool) (fun s => [(1, .slice po part.length pc), (5, sv), (6, .int .i64 n), (13, .slice ao g.length cap), (14, .int .i64 g.length), (15, .int .i64 n), (20, .slice ro g[n].length rc), (21, .int .i64 g[n].length), (22, .int .i64 s.1)])
      (fun s w => s.1 ≤ g[n].length ∧ Own w w0.heap.size 4 Non sv s.2 ∧ s.2.length = g.length ∧ (∀ c, c < g.length → (s.2.getD c false = true ↔ rndP g part n s.1 c)) ∧ Ext w0 w) (fun s => g[n].length - s.1) (0, out) (by repeat (first | exact trivial | refine ⟨rfl, ?_⟩))
      ⟨Nat.zero_le _, ho, hol, hr, hE⟩ ?_
    rintro ⟨j, out⟩ w2 ⟨hj, ho, hol, hr, hE2⟩
    dsimp only at hj ho hol hr ⊢
    have hrow2 : Sl w2 (Old w0) ro rc g[n] := hrow.mono (fun b hb => (hE2.block b hb).trans (hE.block b hb).symm) (fun _ h => h)
    (repeat (first | (apply WL.pure; rfl; rfl; rfl) | (apply WL.nil) | (apply EX.thenN) | (apply CW.seq) | (apply CW.region)))
    refine CW.cond rfl (fun h => ?_) (fun h => ?_)
    · have hj' : j < g[n].length := by simp at h; omega
      have hto := hg _ (List.getElem_mem hn') _ (List.getElem_mem hj')
      obtain ⟨to, eto⟩ := Int.eq_ofNat_of_zero_le hto.1
      have htp : to < part.length := by omega
      have hgj : (g.getD n []).take (j + 1) = (g.getD n []).take j ++ [(to : Int)] := by
        rw [erow, ← List.take_append_getElem hj', eto]
      have hstep : ∀ c, rndP g part n (j + 1) c ↔ rndP g part n j c ∨ (part.getD n 0 = c ∧ part.getD to 0 = c) := by
        intro c
        unfold rndP
        rw [hgj]
        constructor
        · rintro (h | ⟨h1, x, h2, h3⟩)
          · exact .inl (.inl h)
          · rcases List.mem_append.1 h2 with h2 | h2
            · exact .inl (.inr ⟨h1, x, h2, h3⟩)
            · rw [List.mem_singleton] at h2; subst h2; exact .inr ⟨h1, by simpa using h3⟩
        · rintro ((h | ⟨h1, x, h2, h3⟩) | ⟨h1, h2⟩)
          · exact .inl h
          · exact .inr ⟨h1, x, List.mem_append.2 (.inl h2), h3⟩
          · exact .inr ⟨h1, to, List.mem_append.2 (.inr (by simp)), by simpa using h2⟩
      (repeat (first | (apply EX.thenN) | (apply CW.seq) | (apply CW.region) | (apply CW.block) | (apply CW.skip)))
      refine WL.elemI rfl rfl rfl rfl rfl hrow2 hj' eto (fun _ => rfl) (fun q => ?_)
      (repeat (first | (apply WL.pure; rfl; rfl; rfl) | (apply QL.pure; rfl; rfl; rfl) | (apply WL.nil) | (apply EX.thenN) | (apply CW.seq) | (apply CW.draw; exact mixed; kernel_rfl)))
      refine QL.elemI rfl rfl rfl rfl rfl (fun _ h => h) (hp.up hE2) htp rfl (fun _ => rfl) (fun q => ?_)
      (repeat (apply QL.pure; rfl; rfl; rfl))
      refine QL.elemI rfl rfl rfl rfl rfl (fun _ h => h) (hp.up hE2) hnp hpc (fun _ => rfl) (fun q => ?_)
      (repeat (apply QL.pure; rfl; rfl; rfl))
      refine QL.nil (fun w3 e3 => ?_)
      have ho := ho.extN e3
      have hE3 := hE2.trans e3
      (repeat (apply EX.thenN))
      refine CW.cond rfl (fun h2 => ?_) (fun h2 => ?_)
      · have h2 : part[to] = (c0 : Int) := by simpa using h2
        (repeat (first | (apply WL.pure; rfl; rfl; rfl) | (apply CW.region)))
        refine WL.elemI rfl rfl rfl rfl rfl (hp.at hE3) hnp hpc (fun _ => rfl) (fun q => ?_)
        skip
        refine WL.setN (u := .bool true) (yv := true) rfl rfl rfl rfl ho (show c0 < out.length by omega) (fun _ => rfl) (fun _ => rfl) (Rd.mkBool _ _ _) (fun w4 q2 ho4 hg4 => ?_)
        have hE4 : Ext w0 w4 := hE3.grown hg4 hE3.size (fun b hb => (ho.lt b hb).1)
        (repeat (first | (apply WL.add; rfl; rfl; rfl; rfl; omega; omega) | (apply WL.pure; rfl; rfl; rfl) | (apply WL.nil) | (apply EX.thenN) | (apply CW.region) | (apply EX.inN)))
        refine EX.back (j + 1, out.set c0 true) (by repeat (first | exact trivial | refine ⟨rfl, ?_⟩)) ⟨hj', ho4, by simpa using hol, fun c hc => ?_, hE4⟩ (by dsimp only; omega)
        dsimp only
        rw [getD_set (by omega), hstep c]
        by_cases e : c0 = c
        · subst e
          rw [if_pos rfl]
          exact ⟨fun _ => .inr ⟨hc0, by rw [getDI_at htp]; exact h2⟩, fun _ => rfl⟩
        · rw [if_neg e, hr c hc]
          exact ⟨.inl, fun h => h.resolve_right (fun ⟨h1, _⟩ => e (by have := hc0.symm.trans h1; omega))⟩
      · have h2 : ¬ part[to] = (c0 : Int) := by simpa using h2
        (repeat (first | (apply WL.add; rfl; rfl; rfl; rfl; omega; omega) | (apply WL.pure; rfl; rfl; rfl) | (apply WL.nil) | (apply EX.thenN) | (apply CW.region) | (apply EX.inN) | (apply CW.skip)))
        refine EX.back (j + 1, out) (by repeat (first | exact trivial | refine ⟨rfl, ?_⟩)) ⟨hj', ho, hol, fun c hc => ?_, hE3⟩ (by dsimp only; omega)
        dsimp only
        rw [hstep c, hr c hc]
        exact ⟨.inl, fun h => h.resolve_right (fun ⟨h1, h3⟩ => h2 (by rw [← getDI_at htp, h3, ← h1]; exact hc0))⟩
    · obtain rfl : j = g[n].length := by simp at h; omega
      (repeat (first | (apply WL.add; rfl; rfl; rfl; rfl; omega; omega) | (apply WL.pure; rfl; rfl; rfl) | (apply WL.nil) | (apply EX.thenN) | (apply CW.region) | (apply EX.inN) | (apply CW.exit) | (apply EX.thenX) | (apply EX.inX)))
      refine EX.back (n + 1, out) (by repeat (first | exact trivial | refine ⟨rfl, ?_⟩)) ⟨hn', ho, hol, fun c hc => ?_, hE2⟩ (by dsimp only; omega)
      dsimp only
      rw [hr c hc, ← erow, rndP_next]
  · obtain rfl : n = g.length := by simp at h; omega
    (repeat (first | (apply WL.pure; rfl; rfl; rfl) | (apply WL.nil) | (apply EX.thenN) | (apply CW.seq) | (apply CW.region) | (apply CW.exit) | (apply EX.thenX) | (apply EX.inX) | (apply CW.ret)))
    refine EX.ret1 rfl rfl ⟨out, ho, hol, fun c hc => ?_, hE⟩
    rw [hr c hc]
    unfold rndP
    simp
end Go.Proofs.Ytadbkppgaekmpaa
/-
  An element that is read in a drawn region when nothing else may come.
-/
set_option linter.unusedVariables false
set_option linter.unusedSimpArgs false
namespace Go.Proofs.Ytadbkppgaekmpaa
open Go.RowKit
section
variable {P : Program} {Q : Exit → Act → World → Prop} {n : Nat} {σ : Sg} {wc : World} {L : List Oper} {S : World → Prop} {rest : List (Nat × Bool)} {i j d d' : Nat} {ty : TypeId} {pos : String} {af : Array Edge} {g : Option (Nat × Bool)} {ty' : TypeId} {pos' : String} {af' : Array Edge} {g' : Option (Nat × Bool)} {t e : TypeId} {x ix : Operand}
variable {α : Type} [Rep α] {F : Nat → Prop}
theorem HL.elemM {ao : Option Addr} {cap : Nat} {xs : List α} {k : Nat} {kd : IntKind} (hS : S wc)
    (ho1 : nthO L i = some ⟨some d, .indexAddr t x ix, ty, pos, af, g⟩) (ho2 : nthO L j = some ⟨some d', .load e (.tmp d), ty', pos', af', g'⟩)
    (hg : gd L σ ⟨some d, .indexAddr t x ix, ty, pos, af, g⟩ = some true) (hd : Nat.ble (d + 1) n = true) (hd' : Nat.ble (d' + 1) n = true)
    (hx : ev σ x = some (.slice ao xs.length cap)) (hi : ev σ ix = some (.int kd (k : Int))) [hs : IsS P t e] [ht : IsT P e α] (hsl : Sl wc F ao cap xs) (h1 : k < xs.length)
    (hg' : ∀ p, gd L ((d, .pointer p) :: σ) ⟨some d', .load e (.tmp d), ty', pos', af', g'⟩ = some true)
    (h : ∀ u p, Rd wc F u xs[k] → HL P L S Q rest n ((d', u) :: (d, .pointer p) :: σ) wc) :
    HL P L S Q ((i, false) :: (j, false) :: rest) n σ wc := by
  obtain ⟨b, off, rfl, hFb, es, hc, hr⟩ := hsl.el k h1
  refine HL.mut ho1 (WL.idx (α := α) hg hd hx hi (by omega) (by omega) (WL.nil (EX.mut hS ?_)))
  refine HL.mut ho2 (WL.load (α := α) (hg' _) hd' fnd_cons_eq (by simpa using hc) hr (WL.nil (EX.mut hS ?_)))
  exact h _ _ ⟨es, rfl, hr⟩
end
end Go.Proofs.Ytadbkppgaekmpaa
