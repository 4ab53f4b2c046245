import Derived.Shelf.Sort.Plain
import Derived.Shelf.Slices.In.SortNone
import Derived.Test.YtllpfgcngokhnaaGreatPtLabelWords12
/-
  Elements of a formula, states of its automaton: plain lists.
-/
set_option linter.unusedVariables false
set_option linter.unusedSimpArgs false
namespace Go.Proofs.YtllpfgcngokhnaaGreat

/- PACKED BITS -/
def packB (f : Nat → Bool) : Nat → Nat
  | 0 => 0
  | c + 1 => if f c = true then packB f c ||| (1 <<< c) else packB f c
theorem bit_one (c j : Nat) : (1 <<< c).testBit j = decide (j = c) := by
  rw [Nat.one_shiftLeft, Nat.testBit_two_pow]
  exact decide_eq_decide.2 ⟨fun h => h.symm, fun h => h.symm⟩
theorem packB_bit {f : Nat → Bool} : ∀ {c j : Nat}, (packB f c).testBit j = (decide (j < c) && f j)
  | 0, j => by simp [packB]
  | c + 1, j => by
    rw [packB]
    by_cases hf : f c = true
    · rw [if_pos hf, Nat.testBit_or, packB_bit, bit_one]
      by_cases e : j = c
      · subst e; simp [hf]
      · have : decide (j < c + 1) = decide (j < c) := decide_eq_decide.2 (by omega)
        rw [this, decide_eq_false e, Bool.or_false]
    · rw [if_neg hf, packB_bit]
      by_cases e : j = c
      · subst e; simp [hf]
      · have : decide (j < c + 1) = decide (j < c) := decide_eq_decide.2 (by omega)
        rw [this]
theorem packB_lt {f : Nat → Bool} : ∀ {c : Nat}, packB f c < 2 ^ c
  | 0 => by simp [packB]
  | c + 1 => by
    have h := packB_lt (f := f) (c := c)
    rw [packB]
    have h2 : 2 ^ c ≤ 2 ^ (c + 1) := Nat.pow_le_pow_right (by omega) (by omega)
    split
    · exact Nat.or_lt_two_pow (Nat.lt_of_lt_of_le h h2) (by rw [Nat.one_shiftLeft]; exact Nat.pow_lt_pow_right (by omega) (by omega))
    · omega
/- ELEMENTS -/
abbrev Mk2 := List Int × List Ltl
def gaN (k n : Int) (t : Ltl) (m : Mk2) : Mk2 := if k = 3 then (if n ∈ m.1 then m.1 else m.1 ++ [n], m.2) else if k = 7 ∨ k = 8 ∨ k = 9 then (m.1, if m.2.any (sameB t) = true then m.2 else m.2 ++ [t]) else m
mutual
def gaE : Ltl → Mk2 → Mk2
  | .mk k n kids, m => gaEs kids (gaN k n (.mk k n kids) m)
def gaEs : List Ltl → Mk2 → Mk2
  | [], m => m
  | x :: r, m => gaEs r (gaE x m)
end
mutual
def Cov (m : Mk2) : Ltl → Prop
  | .mk k n kids => (k = 3 → n ∈ m.1) ∧ ((k = 7 ∨ k = 8 ∨ k = 9) → .mk k n kids ∈ m.2) ∧ Covs m kids
def Covs (m : Mk2) : List Ltl → Prop
  | [] => True
  | x :: r => Cov m x ∧ Covs m r
end
/-- more elements -/
def Les (m m' : Mk2) : Prop := (∀ x ∈ m.1, x ∈ m'.1) ∧ ∀ x ∈ m.2, x ∈ m'.2
theorem Les.refl (m : Mk2) : Les m m := ⟨fun _ h => h, fun _ h => h⟩
theorem Les.trans {a b c : Mk2} (h : Les a b) (k : Les b c) : Les a c := ⟨fun x hx => k.1 x (h.1 x hx), fun x hx => k.2 x (h.2 x hx)⟩
mutual
theorem Cov.les {m m' : Mk2} (h : Les m m') : ∀ t, Cov m t → Cov m' t
  | .mk k n kids, hc => by
    simp only [Cov] at hc ⊢
    exact ⟨fun e => h.1 _ (hc.1 e), fun e => h.2 _ (hc.2.1 e), Covs.les h kids hc.2.2⟩
theorem Covs.les {m m' : Mk2} (h : Les m m') : ∀ l, Covs m l → Covs m' l
  | [], _ => trivial
  | x :: r, hc => by
    simp only [Covs] at hc ⊢
    exact ⟨Cov.les h x hc.1, Covs.les h r hc.2⟩
end
theorem gaN_les (k n : Int) (t : Ltl) (m : Mk2) : Les m (gaN k n t m) := by
  unfold gaN
  split
  · refine ⟨fun x hx => ?_, fun _ h => h⟩
    dsimp only
    split
    · exact hx
    · exact List.mem_append_left _ hx
  · split
    · refine ⟨fun _ h => h, fun x hx => ?_⟩
      dsimp only
      split
      · exact hx
      · exact List.mem_append_left _ hx
    · exact Les.refl m
mutual
theorem gaE_les : ∀ (t : Ltl) (m : Mk2), Les m (gaE t m)
  | .mk k n kids, m => by
    simp only [gaE]
    exact (gaN_les k n _ m).trans (gaEs_les kids _)
theorem gaEs_les : ∀ (l : List Ltl) (m : Mk2), Les m (gaEs l m)
  | [], m => Les.refl m
  | x :: r, m => by
    simp only [gaEs]
    exact (gaE_les x m).trans (gaEs_les r _)
end
theorem gaN_has (k n : Int) (kids : List Ltl) (m : Mk2) : (k = 3 → n ∈ (gaN k n (.mk k n kids) m).1) ∧ ((k = 7 ∨ k = 8 ∨ k = 9) → .mk k n kids ∈ (gaN k n (.mk k n kids) m).2) := by
  unfold gaN
  refine ⟨fun h => ?_, fun h => ?_⟩
  · rw [if_pos h]
    dsimp only
    split
    · assumption
    · exact List.mem_append_right _ (by simp)
  · rw [if_neg (by omega), if_pos h]
    dsimp only
    split
    · rename_i hs
      rw [List.any_eq_true] at hs
      obtain ⟨x, hx, hs⟩ := hs
      rw [(sameB_iff _ _).1 hs]
      exact hx
    · exact List.mem_append_right _ (by simp)
mutual
theorem gaE_cov : ∀ (t : Ltl) (m : Mk2), Cov (gaE t m) t
  | .mk k n kids, m => by
    simp only [Cov, gaE]
    have h := gaN_has k n kids m
    have hl := gaEs_les kids (gaN k n (.mk k n kids) m)
    exact ⟨fun e => hl.1 _ (h.1 e), fun e => hl.2 _ (h.2 e), gaEs_cov kids _⟩
theorem gaEs_cov : ∀ (l : List Ltl) (m : Mk2), Covs (gaEs l m) l
  | [], m => trivial
  | x :: r, m => by
    simp only [Covs, gaEs]
    exact ⟨Cov.les (gaEs_les r _) x (gaE_cov x m), gaEs_cov r _⟩
end
/-- what a list of elements is -/
structure OkM (m : Mk2) : Prop where
  na : m.1.Nodup
  ra : ∀ x ∈ m.1, 0 ≤ x ∧ x ≤ 63
  wp : ∀ g ∈ m.2, wfT g ∧ (g.k = 7 ∨ g.k = 8 ∨ g.k = 9) ∧ hasB g 10 = false ∧ hasB g 11 = false
theorem OkM.nil : OkM ([], []) := ⟨List.Pairwise.nil, (fun x hx => by cases hx), (fun x hx => by cases hx)⟩
theorem gaN_ok {k n : Int} {kids : List Ltl} {m : Mk2} (hm : OkM m) (hw : wfT (.mk k n kids)) (h0 : hasB (.mk k n kids) 10 = false) (h1 : hasB (.mk k n kids) 11 = false) : OkM (gaN k n (.mk k n kids) m) := by
  unfold gaN
  simp only [wfT] at hw
  split
  · refine ⟨?_, fun x hx => ?_, hm.wp⟩
    · dsimp only
      split
      · exact hm.na
      · rename_i hn
        rw [List.nodup_append]
        exact ⟨hm.na, List.pairwise_singleton _ _, fun a ha b hb e => hn (by rw [List.mem_singleton] at hb; rw [← hb, ← e]; exact ha)⟩
    · dsimp only at hx
      split at hx
      · exact hm.ra x hx
      · rcases List.mem_append.1 hx with hx | hx
        · exact hm.ra x hx
        · rw [List.mem_singleton] at hx; subst hx; exact ⟨hw.2.1, hw.2.2.1⟩
  · split
    · rename_i hk
      refine ⟨hm.na, hm.ra, fun g hg => ?_⟩
      dsimp only at hg
      split at hg
      · exact hm.wp g hg
      · rcases List.mem_append.1 hg with hg | hg
        · exact hm.wp g hg
        · rw [List.mem_singleton] at hg; subst hg
          exact ⟨by simp only [wfT]; exact hw, hk, h0, h1⟩
    · exact hm
mutual
theorem gaE_ok : ∀ (t : Ltl) (m : Mk2), OkM m → wfT t → hasB t 10 = false → hasB t 11 = false → OkM (gaE t m)
  | .mk k n kids, m, hm, hw, h0, h1 => by
    have h := gaN_ok hm hw h0 h1
    simp only [gaE]
    simp only [wfT] at hw
    simp only [hasB, Bool.or_eq_false_iff] at h0 h1
    exact gaEs_ok kids _ h hw.2.2.2.2 h0.2 h1.2
theorem gaEs_ok : ∀ (l : List Ltl) (m : Mk2), OkM m → wfTs l → hasBs l 10 = false → hasBs l 11 = false → OkM (gaEs l m)
  | [], m, hm, _, _, _ => hm
  | x :: r, m, hm, hw, h0, h1 => by
    simp only [gaEs]
    simp only [wfTs] at hw
    simp only [hasBs, Bool.or_eq_false_iff] at h0 h1
    exact gaEs_ok r _ (gaE_ok x m hm hw.1 h0.1 h1.1) hw.2 h0.2 h1.2
end
theorem Covs.get {m : Mk2} : ∀ {l : List Ltl}, Covs m l → ∀ x ∈ l, Cov m x
  | [], _, x, hx => by cases hx
  | y :: r, h, x, hx => by
    simp only [Covs] at h
    rcases List.mem_cons.1 hx with rfl | hx
    · exact h.1
    · exact Covs.get h.2 x hx
/-- parts of parts are covered -/
def Clo (m m' : Mk2) : Prop := ∀ g ∈ m.2, Cov m' g
mutual
theorem gaE_clo : ∀ (t : Ltl) (m m' : Mk2), Les (gaE t m) m' → Clo m m' → Clo (gaE t m) m'
  | .mk k n kids, m, m', hl, hc => by
    have h1 := Cov.les hl _ (gaE_cov (.mk k n kids) m)
    simp only [gaE] at hl ⊢
    refine gaEs_clo kids _ m' hl fun g hg => ?_
    unfold gaN at hg
    split at hg
    · exact hc g hg
    · split at hg
      · dsimp only at hg
        split at hg
        · exact hc g hg
        · rcases List.mem_append.1 hg with hg | hg
          · exact hc g hg
          · rw [List.mem_singleton] at hg; subst hg; exact h1
      · exact hc g hg
theorem gaEs_clo : ∀ (l : List Ltl) (m m' : Mk2), Les (gaEs l m) m' → Clo m m' → Clo (gaEs l m) m'
  | [], m, m', _, hc => hc
  | x :: r, m, m', hl, hc => by
    simp only [gaEs] at hl ⊢
    exact gaEs_clo r _ m' hl (gaE_clo x m m' ((gaEs_les r _).trans hl) hc)
end
/- STATES -/
def partI (m : Mk2) (t : Ltl) : Int := idxOf (sameB t) m.2
def atomI (m : Mk2) (n : Int) : Int := idxOf (fun y => n == y) m.1
def choB (m : Mk2) (s : Nat) (t : Ltl) : Bool := if t.k = 3 then s.testBit (atomI m t.n).toNat else s.testBit (m.1.length + (partI m t).toNat)
mutual
def hoB (m : Mk2) (s : Nat) : Ltl → Bool
  | .mk k n kids =>
    if k = 1 then true else if k = 2 then false
    else if k = 4 then !((hoBs m s kids).getD 0 false)
    else if k = 5 then (hoBs m s kids).getD 0 false && (hoBs m s kids).getD 1 false
    else if k = 6 then (hoBs m s kids).getD 0 false || (hoBs m s kids).getD 1 false
    else if k = 8 then (hoBs m s kids).getD 1 false || ((hoBs m s kids).getD 0 false && choB m s (.mk k n kids))
    else if k = 9 then (hoBs m s kids).getD 1 false && ((hoBs m s kids).getD 0 false || choB m s (.mk k n kids))
    else choB m s (.mk k n kids)
def hoBs (m : Mk2) (s : Nat) : List Ltl → List Bool
  | [] => []
  | x :: r => hoB m s x :: hoBs m s r
end
def argE (g : Ltl) : Ltl := if g.k = 7 then g.kids.getD 0 (.mk 0 0 []) else g
def nilT : Ltl := .mk 0 0 []
def keepN (m : Mk2) (s : Nat) : Nat := packB (fun i => hoB m s (argE (m.2.getD i nilT))) m.2.length
def bitP (at' : List Int) (s : Nat) (is : Bool) : Nat → Nat
  | 0 => 0
  | c + 1 => if s.testBit c = is then bitP at' s is c ||| (1 <<< (at'.getD c 0).toNat) else bitP at' s is c
def bitsN (m : Mk2) (s : Nat) (is : Bool) : Nat := bitP m.1 s is m.1.length
def fairB (m : Mk2) (g : Ltl) (s : Nat) : Bool := if g.k = 8 then !(hoB m s g) || hoB m s (g.kids.getD 1 nilT) else hoB m s g || !(hoB m s (g.kids.getD 1 nilT))
theorem bitP_bit {at' : List Int} {s : Nat} {is : Bool} {a : Nat} : ∀ {c : Nat}, (bitP at' s is c).testBit a = true ↔ ∃ i, i < c ∧ s.testBit i = is ∧ (at'.getD i 0).toNat = a
  | 0 => by simp [bitP]
  | c + 1 => by
    rw [bitP]
    by_cases h : s.testBit c = is
    · rw [if_pos h, Nat.testBit_or, Bool.or_eq_true, bitP_bit, bit_one, decide_eq_true_eq]
      constructor
      · rintro (⟨i, h1, h2⟩ | h1)
        · exact ⟨i, by omega, h2⟩
        · exact ⟨c, by omega, h, h1.symm⟩
      · rintro ⟨i, h1, h2, h3⟩
        by_cases e : i = c
        · subst e; exact .inr h3.symm
        · exact .inl ⟨i, by omega, h2, h3⟩
    · rw [if_neg h, bitP_bit]
      constructor
      · rintro ⟨i, h1, h2⟩; exact ⟨i, by omega, h2⟩
      · rintro ⟨i, h1, h2, h3⟩
        by_cases e : i = c
        · subst e; exact absurd h2 h
        · exact ⟨i, by omega, h2, h3⟩
theorem bitP_lt {at' : List Int} {s : Nat} {is : Bool} (h : ∀ x ∈ at', x ≤ 63) : ∀ {c : Nat}, c ≤ at'.length → bitP at' s is c < 2 ^ 64
  | 0, _ => by simp [bitP]
  | c + 1, hc => by
    have h1 := bitP_lt (s := s) (is := is) h (c := c) (by omega)
    rw [bitP]
    split
    · refine Nat.or_lt_two_pow h1 ?_
      rw [Nat.one_shiftLeft]
      have := h (at'.getD c 0) (by rw [List.getD_eq_getElem?_getD, List.getElem?_eq_getElem (by omega)]; exact List.getElem_mem _)
      exact Nat.pow_lt_pow_right (by omega) (by omega)
    · exact h1
/-- a place of a list -/
theorem idxOf_in {α : Type} {p : α → Bool} {l : List α} {x : α} (hx : x ∈ l) (hp : p x = true) (hu : ∀ y, p y = true → y = x) : ∃ i, ∃ h : i < l.length, idxOf p l = (i : Int) ∧ l[i] = x := by
  unfold idxOf
  cases e : l.findIdx? p with
  | none =>
    rw [List.findIdx?_eq_none_iff] at e
    rw [e x hx] at hp; cases hp
  | some i =>
    obtain ⟨h1, h2, _⟩ := List.findIdx?_eq_some_iff_getElem.1 e
    exact ⟨i, h1, rfl, hu _ h2⟩
theorem partI_in {m : Mk2} {t : Ltl} (h : t ∈ m.2) : ∃ i, ∃ h : i < m.2.length, partI m t = (i : Int) ∧ m.2[i] = t :=
  idxOf_in h (sameB_self t) (fun y hy => ((sameB_iff _ _).1 hy).symm)
theorem atomI_in {m : Mk2} {n : Int} (h : n ∈ m.1) : ∃ i, ∃ h : i < m.1.length, atomI m n = (i : Int) ∧ m.1[i] = n :=
  idxOf_in h (by simp) (fun y hy => by simpa using Eq.symm (by simpa using hy))
section
variable {m : Mk2} {s : Nat} {n : Int} {a b : Ltl}
theorem ho1 : hoB m s (.mk 1 n []) = true := by simp [hoB]
theorem ho2 : hoB m s (.mk 2 n []) = false := by simp [hoB]
theorem ho3 : hoB m s (.mk 3 n []) = s.testBit (atomI m n).toNat := by simp [hoB, choB, Ltl.k, Ltl.n]
theorem ho4 : hoB m s (.mk 4 n [a]) = !hoB m s a := by simp [hoB, hoBs]
theorem ho5 : hoB m s (.mk 5 n [a, b]) = (hoB m s a && hoB m s b) := by simp [hoB, hoBs]
theorem ho6 : hoB m s (.mk 6 n [a, b]) = (hoB m s a || hoB m s b) := by simp [hoB, hoBs]
theorem ho7 : hoB m s (.mk 7 n [a]) = s.testBit (m.1.length + (partI m (.mk 7 n [a])).toNat) := by simp [hoB, choB, Ltl.k]
theorem ho8 : hoB m s (.mk 8 n [a, b]) = (hoB m s b || (hoB m s a && s.testBit (m.1.length + (partI m (.mk 8 n [a, b])).toNat))) := by simp [hoB, hoBs, choB, Ltl.k]
theorem ho9 : hoB m s (.mk 9 n [a, b]) = (hoB m s b && (hoB m s a || s.testBit (m.1.length + (partI m (.mk 9 n [a, b])).toNat))) := by simp [hoB, hoBs, choB, Ltl.k]
end
end Go.Proofs.YtllpfgcngokhnaaGreat

/-
  The automaton of a formula accepts just the words that satisfy it (Vardi, Wolper): plain lists.
-/
set_option linter.unusedVariables false
set_option linter.unusedSimpArgs false
namespace Go.Proofs.YtllpfgcngokhnaaGreat

theorem shr_bit {x a : Nat} : x >>> a &&& 1 = 1 ↔ x.testBit a = true := by
  rw [Nat.testBit_eq_decide_div_mod_eq, decide_eq_true_eq, Nat.and_one_is_mod, Nat.shiftRight_eq_div_pow]
structure OkF (m : Mk2) (t : Ltl) : Prop where
  wf : wfT t
  h10 : hasB t 10 = false
  h11 : hasB t 11 = false
  cov : Cov m t
theorem OkF.un {m : Mk2} {k n : Int} {a : Ltl} (h : OkF m (.mk k n [a])) : OkF m a := by
  obtain ⟨h1, h2, h3, h4⟩ := h
  simp only [wfT, wfTs] at h1
  simp only [hasB, hasBs, Bool.or_eq_false_iff] at h2 h3
  simp only [Cov, Covs] at h4
  exact ⟨h1.2.2.2.2.1, h2.2.1, h3.2.1, h4.2.2.1⟩
theorem OkF.b1 {m : Mk2} {k n : Int} {a b : Ltl} (h : OkF m (.mk k n [a, b])) : OkF m a := by
  obtain ⟨h1, h2, h3, h4⟩ := h
  simp only [wfT, wfTs] at h1
  simp only [hasB, hasBs, Bool.or_eq_false_iff] at h2 h3
  simp only [Cov, Covs] at h4
  exact ⟨h1.2.2.2.2.1, h2.2.1, h3.2.1, h4.2.2.1⟩
theorem OkF.b2 {m : Mk2} {k n : Int} {a b : Ltl} (h : OkF m (.mk k n [a, b])) : OkF m b := by
  obtain ⟨h1, h2, h3, h4⟩ := h
  simp only [wfT, wfTs] at h1
  simp only [hasB, hasBs, Bool.or_eq_false_iff] at h2 h3
  simp only [Cov, Covs] at h4
  exact ⟨h1.2.2.2.2.2.1, h2.2.2.1, h3.2.2.1, h4.2.2.2.1⟩
/-- elements that are closed -/
structure OkT (m : Mk2) : Prop where
  ok : OkM m
  clo : Clo m m
theorem part_shape {g : Ltl} (hw : wfT g) (hk : g.k = 7 ∨ g.k = 8 ∨ g.k = 9) : (∃ a, g = .mk 7 0 [a]) ∨ ∃ k a b, (k = 8 ∨ k = 9) ∧ g = .mk k 0 [a, b] := by
  obtain ⟨k, n, kids⟩ := g
  simp only [Ltl.k] at hk
  simp only [wfT] at hw
  obtain ⟨h1, _, _, h4, _⟩ := hw
  have hn : n = 0 := h4 (by omega)
  subst hn
  rcases hk with rfl | rfl | rfl
  · have : kids.length = 1 := by simp [kidsK] at h1; omega
    obtain ⟨a, rfl⟩ := List.length_eq_one_iff.1 this
    exact .inl ⟨a, rfl⟩
  · have : kids.length = 2 := by simp [kidsK] at h1; omega
    match kids, this with
    | [a, b], _ => exact .inr ⟨8, a, b, .inl rfl, rfl⟩
  · have : kids.length = 2 := by simp [kidsK] at h1; omega
    match kids, this with
    | [a, b], _ => exact .inr ⟨9, a, b, .inr rfl, rfl⟩
theorem OkT.part {m : Mk2} (h : OkT m) {g : Ltl} (hg : g ∈ m.2) : OkF m g := ⟨(h.ok.wp g hg).1, (h.ok.wp g hg).2.2.1, (h.ok.wp g hg).2.2.2, h.clo g hg⟩
theorem OkT.arg {m : Mk2} (h : OkT m) {g : Ltl} (hg : g ∈ m.2) : OkF m (argE g) := by
  have h1 := h.part hg
  rcases part_shape h1.wf (h.ok.wp g hg).2.1 with ⟨a, rfl⟩ | ⟨k, a, b, hk, rfl⟩
  · exact h1.un
  · unfold argE
    rw [if_neg (by simp only [Ltl.k]; omega)]
    exact h1
abbrev numN (m : Mk2) : Nat := m.1.length + m.2.length
def tabL (m : Mk2) (f : Ltl) : LAuto2 :=
  (((List.range (2 ^ numN m)).filter fun s => hoB m s f).map fun s : Nat => (s : Int),
   (List.range (2 ^ numN m)).map fun s => ((List.range (2 ^ numN m)).filter fun t => decide (keepN m t = s >>> m.1.length)).map fun t : Nat => (t : Int),
   (List.range (2 ^ numN m)).map fun s => bitsN m s true, (List.range (2 ^ numN m)).map fun s => bitsN m s false,
   (m.2.filter fun g => decide (g.k ≠ 7)).map fun g => ((List.range (2 ^ numN m)).filter fun s => fairB m g s).map fun s : Nat => (s : Int))
section
variable {m : Mk2} {L : Nat → Nat}
theorem getNil {l : List Ltl} {j : Nat} (h : j < l.length) : l.getD j nilT = l[j] := by rw [List.getD_eq_getElem?_getD, List.getElem?_eq_getElem h]; rfl
theorem keepN_bit {s j : Nat} : (keepN m s).testBit j = (decide (j < m.2.length) && hoB m s (argE (m.2.getD j nilT))) := packB_bit
/-- the bit of a part, of a state ahead -/
theorem part_bit {s t : Nat} (h : keepN m t = s >>> m.1.length) {g : Ltl} (hg : g ∈ m.2) : s.testBit (m.1.length + (partI m g).toNat) = hoB m t (argE g) := by
  obtain ⟨j, hj, e, hgj⟩ := partI_in hg
  rw [e, Int.toNat_natCast, ← Nat.testBit_shiftRight, ← h, keepN_bit, decide_eq_true hj, Bool.true_and, getNil hj, hgj]
theorem til_of {H A B : Nat → Prop} (hs : ∀ i, H i ↔ B i ∨ (A i ∧ H (i + 1))) (hf : ∀ i, ∃ j, i ≤ j ∧ (¬ H j ∨ B j)) (i : Nat) : H i ↔ Til A B i := by
  constructor
  · intro h
    refine Classical.byContradiction fun hn => ?_
    have : ∀ d, H (i + d) ∧ ¬ Til A B (i + d) := fun d => by
      induction d with
      | zero => exact ⟨h, hn⟩
      | succ d ih =>
        obtain ⟨h1, h2⟩ := ih
        have h3 : ¬ B (i + d) := fun hb => h2 (Til.step.2 (.inl hb))
        have h4 := ((hs _).1 h1).resolve_left h3
        exact ⟨h4.2, fun h5 => h2 (Til.step.2 (.inr ⟨h4.1, h5⟩))⟩
    obtain ⟨j, hj, hx⟩ := hf i
    have h1 := this (j - i)
    rw [show i + (j - i) = j by omega] at h1
    rcases hx with hx | hx
    · exact hx h1.1
    · exact h1.2 (Til.step.2 (.inl hx))
  · rintro ⟨j, hij, hb, ha⟩
    have : ∀ d, d ≤ j - i → H (j - d) := fun d => by
      induction d with
      | zero => intro _; exact (hs _).2 (.inl hb)
      | succ d ih =>
        intro hd
        refine (hs _).2 (.inr ⟨ha _ (by omega) (by omega), ?_⟩)
        rw [show j - (d + 1) + 1 = j - d by omega]
        exact ih (by omega)
    have h1 := this (j - i) (Nat.le_refl _)
    rwa [show j - (j - i) = i by omega] at h1
/-- what a run says is so -/
theorem run_sem (hm : OkT m) {r : Nat → Nat} (hstep : ∀ i, keepN m (r (i + 1)) = r i >>> m.1.length) (hfit : ∀ i, ∀ n ∈ m.1, (r i).testBit (atomI m n).toNat = (L i).testBit n.toNat)
    (hfair : ∀ g ∈ m.2, g.k ≠ 7 → ∀ i, ∃ j, i ≤ j ∧ fairB m g (r j) = true) : ∀ t, OkF m t → ∀ i, hoB m (r i) t = true ↔ sem L t i := by
  intro t ht
  refine wf_ind (M := fun t => OkF m t → ∀ i, hoB m (r i) t = true ↔ sem L t i) ?_ ?_ ?_ ?_ ?_ t ht.wf ht
  · intro _ i; rw [ho1, sem1]; simp
  · intro _ i; rw [ho2, sem2]; simp
  · intro n _ _ hf i
    have hc := hf.cov
    simp only [Cov] at hc
    rw [ho3, sem3, shr_bit, hfit i n (hc.1 trivial)]
  · intro k a hk _ ih hf i
    have ha := ih hf.un
    have hc := hf.cov
    simp only [Cov] at hc
    rcases hk with rfl | rfl | rfl | rfl
    · rw [ho4, sem4, ← ha i]; simp
    · have hg := hc.2.1 (.inl rfl)
      rw [ho7, sem7, ← ha (i + 1), part_bit (hstep i) hg]
      exact Iff.rfl
    · have := hf.h10; simp [hasB] at this
    · have := hf.h11; simp [hasB] at this
  · intro k a b hk _ _ iha ihb hf i
    have ha := iha hf.b1
    have hb := ihb hf.b2
    have hc := hf.cov
    simp only [Cov] at hc
    rcases hk with rfl | rfl | rfl | rfl
    · rw [ho5, sem5, ← ha i, ← hb i]; simp
    · rw [ho6, sem6, ← ha i, ← hb i]; simp
    · have hg := hc.2.1 (.inr (.inl rfl))
      rw [sem8]
      refine til_of (H := fun i => hoB m (r i) (.mk 8 0 [a, b]) = true) (fun i => ?_) (fun i => ?_) i
      · rw [ho8, part_bit (hstep i) hg, Bool.or_eq_true, Bool.and_eq_true, ha i, hb i]
        exact Iff.rfl
      · obtain ⟨j, h1, h2⟩ := hfair _ hg (by simp [Ltl.k]) i
        refine ⟨j, h1, ?_⟩
        unfold fairB at h2
        rw [if_pos (by rfl), Bool.or_eq_true] at h2
        rcases h2 with h2 | h2
        · exact .inl (by simpa using h2)
        · exact .inr ((hb j).1 h2)
    · have hg := hc.2.1 (.inr (.inr rfl))
      rw [sem9]
      have h9 := til_of (H := fun i => ¬ hoB m (r i) (.mk 9 0 [a, b]) = true) (A := fun j => ¬ sem L a j) (B := fun j => ¬ sem L b j) (fun i => ?_) (fun i => ?_) i
      · rw [← h9]; exact Classical.not_not.symm
      · rw [ho9, part_bit (hstep i) hg, Bool.and_eq_true, Bool.or_eq_true, ha i, hb i, Classical.not_and_iff_not_or_not, not_or]
        exact Iff.rfl
      · obtain ⟨j, h1, h2⟩ := hfair _ hg (by simp [Ltl.k]) i
        refine ⟨j, h1, ?_⟩
        unfold fairB at h2
        rw [if_neg (by simp [Ltl.k]), Bool.or_eq_true] at h2
        rcases h2 with h2 | h2
        · exact .inl (fun h => h h2)
        · refine .inr fun h => ?_
          have h2 : (!hoB m (r j) b) = true := h2
          have h3 : hoB m (r j) b = false := by simpa using h2
          rw [(hb j).2 h] at h3
          cases h3
/-- what a state says of the atoms is what a letter has -/
theorem fits_iff (hm : OkM m) {s x : Nat} : (x &&& bitsN m s true = bitsN m s true ∧ x &&& bitsN m s false = 0) ↔ ∀ j, j < m.1.length → x.testBit (m.1.getD j 0).toNat = s.testBit j := by
  have e1 : ∀ y, x &&& y = y ↔ ∀ a, y.testBit a = true → x.testBit a = true := fun y => by
    constructor
    · intro h a ha
      have := congrArg (fun z => z.testBit a) h
      simp only [Nat.testBit_and, ha, Bool.and_true] at this
      exact this
    · intro h
      refine Nat.eq_of_testBit_eq fun a => ?_
      rw [Nat.testBit_and]
      cases hy : y.testBit a
      · simp
      · rw [h a hy]; rfl
  have e2 : ∀ y, x &&& y = 0 ↔ ∀ a, y.testBit a = true → x.testBit a = false := fun y => by
    constructor
    · intro h a ha
      have := congrArg (fun z => z.testBit a) h
      simp only [Nat.testBit_and, ha, Bool.and_true, Nat.zero_testBit] at this
      exact this
    · intro h
      refine Nat.eq_of_testBit_eq fun a => ?_
      rw [Nat.testBit_and, Nat.zero_testBit]
      cases hy : y.testBit a
      · simp
      · rw [h a hy]; rfl
  rw [e1, e2]
  unfold bitsN
  constructor
  · rintro ⟨h1, h2⟩ j hj
    cases hs : s.testBit j
    · exact h2 _ (bitP_bit.2 ⟨j, hj, hs, rfl⟩)
    · exact h1 _ (bitP_bit.2 ⟨j, hj, hs, rfl⟩)
  · intro h
    refine ⟨fun a ha => ?_, fun a ha => ?_⟩
    · obtain ⟨j, hj, hs, rfl⟩ := bitP_bit.1 ha
      rw [h j hj, hs]
    · obtain ⟨j, hj, hs, rfl⟩ := bitP_bit.1 ha
      rw [h j hj, hs]
theorem atom_at {n : Int} (h : n ∈ m.1) : (atomI m n).toNat < m.1.length ∧ m.1.getD (atomI m n).toNat 0 = n := by
  obtain ⟨j, hj, e, hn⟩ := atomI_in h
  rw [e, Int.toNat_natCast]
  exact ⟨hj, by rw [List.getD_eq_getElem?_getD, List.getElem?_eq_getElem hj]; exact hn⟩
open Classical in
/-- the state that tells the truth -/
noncomputable def sigN (L : Nat → Nat) (m : Mk2) (i : Nat) : Nat :=
  packB (fun j => if j < m.1.length then (L i).testBit (m.1.getD j 0).toNat else decide (sem L (argE (m.2.getD (j - m.1.length) nilT)) (i + 1))) (numN m)
theorem sigN_atom {i j : Nat} (h : j < m.1.length) : (sigN L m i).testBit j = (L i).testBit (m.1.getD j 0).toNat := by
  unfold sigN
  rw [packB_bit, decide_eq_true (show j < numN m by unfold numN; omega), if_pos h, Bool.true_and]
theorem sigN_part {i j : Nat} (h : j < m.2.length) : (sigN L m i).testBit (m.1.length + j) = true ↔ sem L (argE (m.2.getD j nilT)) (i + 1) := by
  unfold sigN
  rw [packB_bit, decide_eq_true (show m.1.length + j < numN m by unfold numN; omega), if_neg (by omega), Bool.true_and, Nat.add_sub_cancel_left]
  exact @decide_eq_true_iff _ (Classical.propDecidable _)
theorem sigN_partI {i : Nat} {g : Ltl} (hg : g ∈ m.2) : (sigN L m i).testBit (m.1.length + (partI m g).toNat) = true ↔ sem L (argE g) (i + 1) := by
  obtain ⟨j, hj, e, hgj⟩ := partI_in hg
  rw [e, Int.toNat_natCast, sigN_part hj, getNil hj, hgj]
theorem sig_sem (hm : OkT m) : ∀ t, OkF m t → ∀ i, hoB m (sigN L m i) t = true ↔ sem L t i := by
  intro t ht
  refine wf_ind (M := fun t => OkF m t → ∀ i, hoB m (sigN L m i) t = true ↔ sem L t i) ?_ ?_ ?_ ?_ ?_ t ht.wf ht
  · intro _ i; rw [ho1, sem1]; simp
  · intro _ i; rw [ho2, sem2]; simp
  · intro n _ _ hf i
    have hc := hf.cov
    simp only [Cov] at hc
    obtain ⟨h1, h2⟩ := atom_at (hc.1 trivial)
    rw [ho3, sem3, shr_bit, sigN_atom h1, h2]
  · intro k a hk _ ih hf i
    have ha := ih hf.un
    have hc := hf.cov
    simp only [Cov] at hc
    rcases hk with rfl | rfl | rfl | rfl
    · rw [ho4, sem4, ← ha i]; simp
    · have hg := hc.2.1 (.inl rfl)
      rw [ho7, sem7, sigN_partI hg]
      exact Iff.rfl
    · have := hf.h10; simp [hasB] at this
    · have := hf.h11; simp [hasB] at this
  · intro k a b hk _ _ iha ihb hf i
    have ha := iha hf.b1
    have hb := ihb hf.b2
    have hc := hf.cov
    simp only [Cov] at hc
    rcases hk with rfl | rfl | rfl | rfl
    · rw [ho5, sem5, ← ha i, ← hb i]; simp
    · rw [ho6, sem6, ← ha i, ← hb i]; simp
    · have hg := hc.2.1 (.inr (.inl rfl))
      rw [ho8, Bool.or_eq_true, Bool.and_eq_true, sigN_partI hg, ha i, hb i, sem8, Til.step]
      have : sem L (argE (.mk 8 0 [a, b])) (i + 1) ↔ Til (sem L a) (sem L b) (i + 1) := sem8
      rw [this]
    · have hg := hc.2.1 (.inr (.inr rfl))
      rw [ho9, Bool.and_eq_true, Bool.or_eq_true, sigN_partI hg, ha i, hb i, sem9, Til.step]
      have : sem L (argE (.mk 9 0 [a, b])) (i + 1) ↔ ¬ Til (fun j => ¬ sem L a j) (fun j => ¬ sem L b j) (i + 1) := sem9
      rw [this, not_or, Classical.not_and_iff_not_or_not, Classical.not_not, Classical.not_not]
theorem sig_step (hm : OkT m) (i : Nat) : keepN m (sigN L m (i + 1)) = sigN L m i >>> m.1.length := by
  refine Nat.eq_of_testBit_eq fun j => ?_
  rw [keepN_bit, Nat.testBit_shiftRight]
  by_cases hj : j < m.2.length
  · rw [decide_eq_true hj, Bool.true_and, Bool.eq_iff_iff, sigN_part hj]
    exact sig_sem hm _ (hm.arg (by rw [getNil hj]; exact List.getElem_mem hj)) (i + 1)
  · rw [decide_eq_false hj, Bool.false_and]
    unfold sigN
    rw [packB_bit, decide_eq_false (show ¬ m.1.length + j < numN m by unfold numN; omega), Bool.false_and]
theorem sig_fair (hm : OkT m) {g : Ltl} (hg : g ∈ m.2) (hk : g.k ≠ 7) (i : Nat) : ∃ j, i ≤ j ∧ fairB m g (sigN L m j) = true := by
  have hf := hm.part hg
  rcases part_shape hf.wf (hm.ok.wp g hg).2.1 with ⟨a, rfl⟩ | ⟨k, a, b, hk2, rfl⟩
  · exact absurd rfl hk
  have hb := fun j => sig_sem (L := L) hm b hf.b2 j
  have hg' := fun j => sig_sem (L := L) hm _ hf j
  rcases hk2 with rfl | rfl
  · by_cases h : hoB m (sigN L m i) (.mk 8 0 [a, b]) = true
    · obtain ⟨j, h1, h2, _⟩ := sem8.1 ((hg' i).1 h)
      refine ⟨j, h1, ?_⟩
      unfold fairB
      rw [if_pos (by rfl), Bool.or_eq_true]
      exact .inr ((hb j).2 h2)
    · refine ⟨i, Nat.le_refl _, ?_⟩
      unfold fairB
      rw [if_pos (by rfl), Bool.or_eq_true]
      exact .inl (by simpa using h)
  · by_cases h : hoB m (sigN L m i) (.mk 9 0 [a, b]) = true
    · refine ⟨i, Nat.le_refl _, ?_⟩
      unfold fairB
      rw [if_neg (by simp [Ltl.k]), Bool.or_eq_true]
      exact .inl h
    · have h' : ¬ sem L (.mk 9 0 [a, b]) i := fun h2 => h ((hg' i).2 h2)
      rw [sem9, Classical.not_not] at h'
      obtain ⟨j, h1, h2, _⟩ := h'
      refine ⟨j, h1, ?_⟩
      unfold fairB
      rw [if_neg (by simp [Ltl.k]), Bool.or_eq_true]
      refine .inr ?_
      show (!hoB m (sigN L m j) b) = true
      cases e : hoB m (sigN L m j) b
      · rfl
      · exact absurd ((hb j).1 e) h2
theorem rangeN_mem {N : Nat} {p : Nat → Bool} {x : Nat} : (x : Int) ∈ ((List.range N).filter p).map (fun s : Nat => (s : Int)) ↔ x < N ∧ p x = true := by
  rw [List.mem_map]
  constructor
  · rintro ⟨y, hy, e⟩
    rw [List.mem_filter, List.mem_range] at hy
    have : y = x := by omega
    subst this; exact hy
  · intro h; exact ⟨x, List.mem_filter.2 ⟨List.mem_range.2 h.1, h.2⟩, rfl⟩
theorem mapN_get {N : Nat} {f : Nat → Nat} {x : Nat} (h : x < N) : ((List.range N).map f).getD x 0 = f x := by
  rw [List.getD_eq_getElem?_getD, List.getElem?_map, List.getElem?_range h]; rfl
theorem mapL_get {N : Nat} {f : Nat → List Int} {x : Nat} (h : x < N) : ((List.range N).map f).getD x [] = f x := by
  rw [List.getD_eq_getElem?_getD, List.getElem?_map, List.getElem?_range h]; rfl
theorem tab_nx {f : Ltl} {x : Nat} (h : x < 2 ^ numN m) : (tabL m f).2.1.getD x [] = ((List.range (2 ^ numN m)).filter fun t => decide (keepN m t = x >>> m.1.length)).map fun t : Nat => (t : Int) := mapL_get (f := fun s => ((List.range (2 ^ numN m)).filter fun t => decide (keepN m t = s >>> m.1.length)).map fun t : Nat => (t : Int)) h
theorem tab_mu {f : Ltl} {x : Nat} (h : x < 2 ^ numN m) : (tabL m f).2.2.1.getD x 0 = bitsN m x true := mapN_get (f := fun s => bitsN m s true) h
theorem tab_no {f : Ltl} {x : Nat} (h : x < 2 ^ numN m) : (tabL m f).2.2.2.1.getD x 0 = bitsN m x false := mapN_get (f := fun s => bitsN m s false) h
/-- Vardi, Wolper -/
theorem tab_acc (hm : OkT m) {f : Ltl} (hf : OkF m f) : AccA (tabL m f) L ↔ sem L f 0 := by
  constructor
  · rintro ⟨r, hr⟩
    have h0 := rangeN_mem.1 hr.first
    have hlt : ∀ i, r i < 2 ^ numN m := fun i => by
      induction i with
      | zero => exact h0.1
      | succ i ih =>
        have h1 := hr.step i
        rw [tab_nx ih] at h1
        exact (rangeN_mem.1 h1).1
    have hstep : ∀ i, keepN m (r (i + 1)) = r i >>> m.1.length := fun i => by
      have h1 := hr.step i
      rw [tab_nx (hlt i)] at h1
      exact of_decide_eq_true (rangeN_mem.1 h1).2
    have hfit : ∀ i, ∀ n ∈ m.1, (r i).testBit (atomI m n).toNat = (L i).testBit n.toNat := fun i n hn => by
      have h1 := hr.fits i
      unfold fitB at h1
      rw [Bool.and_eq_true, decide_eq_true_eq, decide_eq_true_eq, tab_mu (hlt i), tab_no (hlt i)] at h1
      obtain ⟨h2, h3⟩ := atom_at hn
      have h4 := (fits_iff hm.ok).1 h1 _ h2
      rw [h3] at h4
      exact h4.symm
    have hfair : ∀ g ∈ m.2, g.k ≠ 7 → ∀ i, ∃ j, i ≤ j ∧ fairB m g (r j) = true := fun g hg hk i => by
      obtain ⟨j, h1, h2⟩ := hr.fair _ (List.mem_map.2 ⟨g, List.mem_filter.2 ⟨hg, decide_eq_true hk⟩, rfl⟩) i
      exact ⟨j, h1, (rangeN_mem.1 h2).2⟩
    exact (run_sem hm hstep hfit hfair f hf 0).1 h0.2
  · intro h
    have hlt : ∀ i, sigN L m i < 2 ^ numN m := fun i => packB_lt
    refine ⟨sigN L m, rangeN_mem.2 ⟨hlt 0, (sig_sem hm f hf 0).2 h⟩, fun i => ?_, fun i => ?_, fun F hF i => ?_⟩
    · unfold fitB
      rw [Bool.and_eq_true, decide_eq_true_eq, decide_eq_true_eq, tab_mu (hlt i), tab_no (hlt i)]
      exact (fits_iff hm.ok).2 fun j hj => (sigN_atom hj).symm
    · rw [tab_nx (hlt i)]
      exact rangeN_mem.2 ⟨hlt (i + 1), decide_eq_true (sig_step hm i)⟩
    · obtain ⟨g, hg, rfl⟩ := List.mem_map.1 hF
      rw [List.mem_filter] at hg
      obtain ⟨j, h1, h2⟩ := sig_fair (L := L) hm hg.1 (of_decide_eq_true hg.2) i
      exact ⟨j, h1, rangeN_mem.2 ⟨hlt j, h2⟩⟩
end
end Go.Proofs.YtllpfgcngokhnaaGreat

/-
  lasso.Holds; the small makers of formulas.
-/
set_option linter.unusedVariables false
set_option linter.unusedSimpArgs false
namespace Go.Proofs.YtllpfgcngokhnaaGreat
open Go.RowKit

/-- a formula that stands in memory -/
def RL (w : World) (v : Value) (t : Ltl) : Prop := Rd w (Old w) v t
theorem RL.ext {w w' : World} {v : Value} {t : Ltl} (h : RL w v t) (hE : Ext w w') : RL w' v t := Rd.mono h (fun b hb => hE.block b hb) (fun b hb => Nat.lt_of_lt_of_le hb hE.size)
theorem mk_atom (w : World) (n : Int) : Rt Tryz.prog 8 [.int .i64 n].toArray w fun v w' => RL w' v (.mk 3 n []) ∧ Ext w w' := by
  refine Rt.enter1 Tryz.func8 Tryz.ntmps8 rfl rfl ?_
  (repeat (first | (apply CW.seq) | (apply CW.region)))
  refine WL.alloc rfl rfl (fun w1 hb hE => ?_)
  (repeat (first | (apply WL.pure; rfl; rfl; rfl) | (apply WL.nil) | (apply EX.thenN) | (apply CW.seq) | (apply CW.region)))
  refine WL.build rfl rfl rfl rfl ?_
  refine WL.st rfl rfl rfl hb rfl rfl (ones_of rfl) (fun w2 hb2 hgr => ?_)
  have hE2 : Ext w w2 := hE.grown hgr hE.size (fun g hg => by cases hg; exact Nat.le_refl _)
  (repeat (first | (apply WL.nil) | (apply EX.thenN) | (apply CW.ret)))
  exact EX.retC rfl rfl hb2 rfl ⟨Rd.mkLtl (kids := []) ⟨by simp, by simp [maxLen], fun _ => rfl, fun i hi => absurd hi (by simp)⟩, hE2⟩
/-- blocks of F, and new ones -/
def Plus (F : Nat → Prop) (w w' : World) : Nat → Prop := fun b => F b ∨ (w.heap.size ≤ b ∧ b < w'.heap.size)
theorem mk_oneF (w : World) {F : Nat → Prop} (hF : ∀ b, F b → b < w.heap.size) (k : Int) {v : Value} {t : Ltl} (h : Rd w F v t) : Rt Tryz.prog 7 [.int .i64 k, v].toArray w fun v w' => Rd w' (Plus F w w') v (.mk k 0 [t] : Ltl) ∧ Ext w w' := by
  obtain ⟨ao, cap, rfl, hk⟩ := Rd.ltl h
  refine Rt.enter2 Tryz.func7 Tryz.ntmps7 rfl rfl ?_
  (repeat (first | (apply CW.seq) | (apply CW.region)))
  refine WL.boxB rfl rfl rfl fun w1 hb hE1 => ?_
  refine WL.alloc rfl rfl (fun w2 hr hE2 => ?_)
  have hb2 := hb.ext hE2
  have hE12 := hE1.trans hE2
  (repeat (first | (apply WL.pure; rfl; rfl; rfl) | (apply WL.nil) | (apply EX.thenN) | (apply CW.seq) | (apply CW.region) | (apply WL.ldA; rfl; rfl; rfl; assumption; rfl)))
  have hl : Rd w2 F (ltlV t.k t.n ao t.kids.length cap) t := Rd.mono h (fun b hb => hE12.block b (hF b hb)) (fun _ h => h)
  have hw2 : w.heap.size ≤ w2.heap.size := hE12.size
  have hlt := hr.lt
  have hw1 : w.heap.size ≤ w1.heap.size := hE1.size
  refine WL.lit (F := F) (ys := [t]) rfl rfl rfl rfl rfl (.cons hl .nil) (by show 1 * 3 ≤ 16777216; decide) (fun b hb => Nat.lt_of_lt_of_le (hF b hb) hw2) (fun w3 ho hg3 => ?_)
  have hE23 : Ext w2 w3 := (Ext.refl w2).grown hg3 (Nat.le_refl _) (fun k h => by cases h)
  have hr3 := hr.ext hE23
  have hE13 := hE12.trans hE23
  refine WL.build rfl rfl rfl rfl ?_
  refine WL.st rfl rfl rfl hr3 rfl rfl (ones_of rfl) (fun w4 hr4 hgr => ?_)
  have hE4 : Ext w w4 := hE13.grown hgr hE13.size (fun g hg => by cases hg; exact hE1.size)
  have ho4 := ho.kept hgr (fun g hg => by have := (ho.lt g hg).1; simp; omega) (fun b hb => ⟨Nat.lt_of_lt_of_le (hF b hb) hE13.size, by have : b < w.heap.size := hF b hb; simp; omega⟩)
  obtain ⟨uo, uc, he, hu⟩ := (ho4.rd.mono (F' := Plus F w w4) (fun _ _ => rfl) (fun b hb => hb.elim .inl fun hv => .inr ⟨Nat.le_trans hE12.size (ho4.lt b hv).1, (ho4.lt b hv).2.1⟩)).sl
  obtain ⟨rfl, _, rfl⟩ := Value.slice.inj he
  (repeat (first | (apply WL.nil) | (apply EX.thenN) | (apply CW.ret)))
  exact EX.retC rfl rfl hr4 rfl ⟨Rd.mkLtl (kids := [t]) hu, hE4⟩
theorem mk_twoF (w : World) {F : Nat → Prop} (hF : ∀ b, F b → b < w.heap.size) (k : Int) {v v' : Value} {t t' : Ltl} (h : Rd w F v t) (h' : Rd w F v' t') : Rt Tryz.prog 10 [.int .i64 k, v, v'].toArray w fun v w' => Rd w' (Plus F w w') v (.mk k 0 [t, t'] : Ltl) ∧ Ext w w' := by
  obtain ⟨ao, cap, rfl, hk⟩ := Rd.ltl h
  obtain ⟨ao', cap', rfl, hk'⟩ := Rd.ltl h'
  refine Rt.enter3 Tryz.func10 Tryz.ntmps10 rfl rfl ?_
  (repeat (first | (apply CW.seq) | (apply CW.region)))
  refine WL.boxB rfl rfl rfl fun w0 hb0 hE0 => ?_
  refine WL.boxB rfl rfl rfl fun w1 hb hE1 => ?_
  have hb0 := hb0.ext hE1
  have hE1 := hE0.trans hE1
  refine WL.alloc rfl rfl (fun w2 hr hE2 => ?_)
  have hb0 := hb0.ext hE2
  have hb2 := hb.ext hE2
  have hE12 := hE1.trans hE2
  (repeat (first | (apply WL.pure; rfl; rfl; rfl) | (apply WL.nil) | (apply EX.thenN) | (apply CW.seq) | (apply CW.region) | (apply WL.ldA; rfl; rfl; rfl; assumption; rfl)))
  have hl : Rd w2 F (ltlV t.k t.n ao t.kids.length cap) t := Rd.mono h (fun b hb => hE12.block b (hF b hb)) (fun _ h => h)
  have hl' : Rd w2 F (ltlV t'.k t'.n ao' t'.kids.length cap') t' := Rd.mono h' (fun b hb => hE12.block b (hF b hb)) (fun _ h => h)
  have hw2 : w.heap.size ≤ w2.heap.size := hE12.size
  have hlt := hr.lt
  have hw1 : w.heap.size ≤ w1.heap.size := hE1.size
  refine WL.lit (F := F) (ys := [t, t']) rfl rfl rfl rfl rfl (.cons hl (.cons hl' .nil)) (by show 2 * 3 ≤ 16777216; decide) (fun b hb => Nat.lt_of_lt_of_le (hF b hb) hw2) (fun w3 ho hg3 => ?_)
  have hE23 : Ext w2 w3 := (Ext.refl w2).grown hg3 (Nat.le_refl _) (fun k h => by cases h)
  have hr3 := hr.ext hE23
  have hE13 := hE12.trans hE23
  refine WL.build rfl rfl rfl rfl ?_
  refine WL.st rfl rfl rfl hr3 rfl rfl (ones_of rfl) (fun w4 hr4 hgr => ?_)
  have hE4 : Ext w w4 := hE13.grown hgr hE13.size (fun g hg => by cases hg; exact hE1.size)
  have ho4 := ho.kept hgr (fun g hg => by have := (ho.lt g hg).1; simp; omega) (fun b hb => ⟨Nat.lt_of_lt_of_le (hF b hb) hE13.size, by have : b < w.heap.size := hF b hb; simp; omega⟩)
  obtain ⟨uo, uc, he, hu⟩ := (ho4.rd.mono (F' := Plus F w w4) (fun _ _ => rfl) (fun b hb => hb.elim .inl fun hv => .inr ⟨Nat.le_trans hE12.size (ho4.lt b hv).1, (ho4.lt b hv).2.1⟩)).sl
  obtain ⟨rfl, _, rfl⟩ := Value.slice.inj he
  (repeat (first | (apply WL.nil) | (apply EX.thenN) | (apply CW.ret)))
  exact EX.retC rfl rfl hr4 rfl ⟨Rd.mkLtl (kids := [t, t']) hu, hE4⟩
theorem mk_one (w : World) (k : Int) {v : Value} {t : Ltl} (h : RL w v t) : Rt Tryz.prog 7 [.int .i64 k, v].toArray w fun v w' => RL w' v (.mk k 0 [t]) ∧ Ext w w' :=
  (mk_oneF w (fun _ h => h) k h).mono fun v w' h => ⟨Rd.mono h.1 (fun _ _ => rfl) fun b hb => hb.elim (fun h1 => Nat.lt_of_lt_of_le h1 h.2.size) (·.2), h.2⟩
theorem mk_two (w : World) (k : Int) {v v' : Value} {t t' : Ltl} (h : RL w v t) (h' : RL w v' t') : Rt Tryz.prog 10 [.int .i64 k, v, v'].toArray w fun v w' => RL w' v (.mk k 0 [t, t']) ∧ Ext w w' :=
  (mk_twoF w (fun _ h => h) k h h').mono fun v w' h => ⟨Rd.mono h.1 (fun _ _ => rfl) fun b hb => hb.elim (fun h1 => Nat.lt_of_lt_of_le h1 h.2.size) (·.2), h.2⟩

end Go.Proofs.YtllpfgcngokhnaaGreat

/-
  Package push walked, first part: small functions; lists of formulas that grow.
-/
set_option linter.unusedVariables false
set_option linter.unusedSimpArgs false
namespace Go.Proofs.YtllpfgcngokhnaaGreat
open Go.RowKit

/-- a struct that nobody changes meanwhile -/
theorem HL.ldAK {P : Program} {Q : Exit → Act → World → Prop} {n : Nat} {σ : Sg} {w wc : World} {L : List Oper} {S : World → Prop} {ord : List (Nat × Bool)} {i d : Nat} {ty : TypeId} {pos : String} {af : Array Edge} {g : Option (Nat × Bool)} {t e : TypeId} {x : Operand} {b o : Nat} {cells vs : List Value} {k : Nat}
    (hK : ∀ w1, S w1 → w1.heap[b]? = w.heap[b]?) (ho : nthO L i = some ⟨some d, .load t x, ty, pos, af, g⟩) (hg : gd L σ ⟨some d, .load t x, ty, pos, af, g⟩ = some true) (hd : Nat.ble (d + 1) n = true) (hx : ev σ x = some (.pointer (some ⟨b, o, none⟩))) [hc : IsC P t k true] (hb : Blk w b e cells) (hv : segL cells o k = some vs)
    (h : HL P L S Q ord n ((d, .agg vs.toArray) :: σ) wc) : HL P L S Q ((i, true) :: ord) n σ wc := by
  refine HL.run ho hg hd (fun a ha w' hsw => ?_) h
  have hb' : Blk w' b e cells := (hK w' hsw).trans hb
  simp [execOp, ha.ev hx, run_ldA (P := P) (t := t) w' hb' hv]
/-- new blocks -/
def Nw (w w' : World) : Nat → Prop := fun b => w.heap.size ≤ b ∧ b < w'.heap.size
theorem Nw.lt {w w' : World} : ∀ b, Nw w w' b → b < w'.heap.size := fun _ h => h.2
theorem Nw.mono {a b c d : World} (h1 : a.heap.size ≤ b.heap.size) (h2 : c.heap.size ≤ d.heap.size) : ∀ x, Nw b c x → Nw a d x := fun x h => ⟨Nat.le_trans h1 h.1, Nat.lt_of_lt_of_le h.2 h2⟩
/-- behind a change of one block that is not met -/
theorem Rd.kept {α : Type} [Rep α] {w w' : World} {F : Nat → Prop} {v : Value} {x : α} {row : Option Nat} (h : Rd w F v x) (hg : w.grownBy w' row) (hF : ∀ b, F b → b < w.heap.size ∧ some b ≠ row) : Rd w' F v x :=
  h.mono (fun b hb => hg.block b (hF b hb).1 (hF b hb).2) fun _ h => h
theorem Rd.up0 {α : Type} [Rep α] {w w' : World} {F : Nat → Prop} {v : Value} {x : α} (h : Rd w F v x) (hE : Ext w w') (hF : ∀ b, F b → b < w.heap.size) : Rd w' F v x := h.mono (fun b hb => hE.block b (hF b hb)) fun _ h => h
theorem Rd.wk {α : Type} [Rep α] {w : World} {F F' : Nat → Prop} {v : Value} {x : α} (h : Rd w F v x) (hF : ∀ b, F b → F' b) : Rd w F' v x := h.mono (fun _ _ => rfl) hF
/-- the world but for one block -/
def SO (r : Nat) (w : World) : World → Prop := fun x => w.heap.size ≤ x.heap.size ∧ ∀ b, b ≠ r → b < w.heap.size → x.heap[b]? = w.heap[b]?
theorem SO.refl (r : Nat) (w : World) : SO r w w := ⟨Nat.le_refl _, fun _ _ _ => rfl⟩
theorem SO.ext {r : Nat} {w x y : World} (h : SO r w x) (hE : Ext x y) : SO r w y := ⟨Nat.le_trans h.1 hE.size, fun b h1 h2 => (hE.block b (Nat.lt_of_lt_of_le h2 h.1)).trans (h.2 b h1 h2)⟩
theorem SO.st {r : Nat} {w x y : World} (h : SO r w x) (hg : x.grownBy y (some r)) : SO r w y := ⟨Nat.le_trans h.1 hg.size, fun b h1 h2 => (hg.block b (Nat.lt_of_lt_of_le h2 h.1) (fun e => h1 (by cases e; rfl))).trans (h.2 b h1 h2)⟩

/- A LIST OF FORMULAS THAT GROWS: all that it meets is at B or behind -/
section
variable {α : Type} [Rep α]
def Grow (B : Nat) (e : TypeId) (w : World) (v : Value) (xs : List α) : Prop := ∃ F, (∀ b, F b → B ≤ b ∧ b < w.heap.size) ∧ Own w B e F v xs
variable {B : Nat} {e : TypeId} {w w' : World} {v : Value} {xs : List α}
theorem Grow.nil : Grow B e w (.slice none 0 0) ([] : List α) := ⟨Non, fun _ h => h.elim, Own.nil⟩
theorem Grow.ext (h : Grow B e w v xs) (hE : Ext w w') : Grow B e w' v xs := by
  obtain ⟨F, h1, h2⟩ := h
  exact ⟨F, fun b hb => ⟨(h1 b hb).1, Nat.lt_of_lt_of_le (h1 b hb).2 hE.size⟩, h2.ext hE fun b hb => (h1 b hb).2⟩
theorem Grow.kept {r : Nat} (h : Grow B e w v xs) (hg : w.grownBy w' (some r)) (hr : r < B) : Grow B e w' v xs := by
  obtain ⟨F, h1, h2⟩ := h
  refine ⟨F, fun b hb => ⟨(h1 b hb).1, Nat.lt_of_lt_of_le (h1 b hb).2 hg.size⟩, h2.kept hg (fun g hgo e => ?_) (fun b hb => ⟨(h1 b hb).2, fun e => ?_⟩)⟩
  · have := (h2.lt g hgo).1; cases e; omega
  · have := (h1 b hb).1; cases e; omega
theorem Grow.lt (h : Grow B e w v xs) : ∀ g, v.ownBlock = some g → B ≤ g ∧ g < w.heap.size := by
  obtain ⟨F, h1, h2⟩ := h
  exact fun g hg => ⟨(h2.lt g hg).1, (h2.lt g hg).2.1⟩
theorem Grow.sl (h : Grow B e w v xs) : ∃ ao cap, v = .slice ao xs.length cap ∧ Sl w (fun b => B ≤ b ∧ b < w.heap.size) ao cap xs := by
  obtain ⟨F, h1, h2⟩ := h
  exact h2.slF (fun b hb => h1 b hb) (fun g hg => ⟨(h2.lt g hg).1, (h2.lt g hg).2.1⟩)
/-- ready for one more, that meets Fu -/
theorem Grow.open (h : Grow B e w v xs) {Fu : Nat → Prop} (hFu : ∀ b, Fu b → B ≤ b ∧ b < w.heap.size) (hn : ∀ g, v.ownBlock = some g → ¬ Fu g) : ∃ F, (∀ b, F b → B ≤ b ∧ b < w.heap.size) ∧ Own w B e F v xs ∧ (∀ b, Fu b → F b) := by
  obtain ⟨F, h1, h2⟩ := h
  refine ⟨fun b => F b ∨ Fu b, fun b hb => hb.elim (h1 b) (hFu b), h2.wk (fun b hb => .inl hb) (fun g hg hb => ?_), fun b hb => .inr hb⟩
  exact hb.elim (h2.lt g hg).2.2 (hn g hg)
end

theorem pu_two (w : World) {F : Nat → Prop} (hF : ∀ b, F b → b < w.heap.size) (k : Int) {v v' : Value} {t t' : Ltl} (h : Rd w F v t) (h' : Rd w F v' t') : Rt Tryz.prog 92 [.int .i64 k, v, v'].toArray w fun v w' => Rd w' (Plus F w w') v (.mk k 0 [t, t'] : Ltl) ∧ Ext w w' := by
  obtain ⟨ao, cap, rfl, hk⟩ := Rd.ltl h
  obtain ⟨ao', cap', rfl, hk'⟩ := Rd.ltl h'
  refine Rt.enter3 Tryz.func92 Tryz.ntmps92 rfl rfl ?_
  (repeat (first | (apply CW.seq) | (apply CW.region)))
  refine WL.boxB rfl rfl rfl fun w0 hb0 hE0 => ?_
  refine WL.boxB rfl rfl rfl fun w1 hb hE1 => ?_
  have hb0 := hb0.ext hE1
  have hE1 := hE0.trans hE1
  refine WL.alloc rfl rfl (fun w2 hr hE2 => ?_)
  have hb0 := hb0.ext hE2
  have hb2 := hb.ext hE2
  have hE12 := hE1.trans hE2
  (repeat (first | (apply WL.pure; rfl; rfl; rfl) | (apply WL.nil) | (apply EX.thenN) | (apply CW.seq) | (apply CW.region) | (apply WL.ldA; rfl; rfl; rfl; assumption; rfl)))
  have hl : Rd w2 F (ltlV t.k t.n ao t.kids.length cap) t := Rd.mono h (fun b hb => hE12.block b (hF b hb)) (fun _ h => h)
  have hl' : Rd w2 F (ltlV t'.k t'.n ao' t'.kids.length cap') t' := Rd.mono h' (fun b hb => hE12.block b (hF b hb)) (fun _ h => h)
  have hw2 : w.heap.size ≤ w2.heap.size := hE12.size
  have hlt := hr.lt
  have hw1 : w.heap.size ≤ w1.heap.size := hE1.size
  refine WL.lit (F := F) (ys := [t, t']) rfl rfl rfl rfl rfl (.cons hl (.cons hl' .nil)) (by show 2 * 3 ≤ 16777216; decide) (fun b hb => Nat.lt_of_lt_of_le (hF b hb) hw2) (fun w3 ho hg3 => ?_)
  have hE23 : Ext w2 w3 := (Ext.refl w2).grown hg3 (Nat.le_refl _) (fun k h => by cases h)
  have hr3 := hr.ext hE23
  have hE13 := hE12.trans hE23
  refine WL.build rfl rfl rfl rfl ?_
  refine WL.st rfl rfl rfl hr3 rfl rfl (ones_of rfl) (fun w4 hr4 hgr => ?_)
  have hE4 : Ext w w4 := hE13.grown hgr hE13.size (fun g hg => by cases hg; exact hE1.size)
  have ho4 := ho.kept hgr (fun g hg => by have := (ho.lt g hg).1; simp; omega) (fun b hb => ⟨Nat.lt_of_lt_of_le (hF b hb) hE13.size, by have : b < w.heap.size := hF b hb; simp; omega⟩)
  obtain ⟨uo, uc, he, hu⟩ := (ho4.rd.mono (F' := Plus F w w4) (fun _ _ => rfl) (fun b hb => hb.elim .inl fun hv => .inr ⟨Nat.le_trans hE12.size (ho4.lt b hv).1, (ho4.lt b hv).2.1⟩)).sl
  obtain ⟨rfl, _, rfl⟩ := Value.slice.inj he
  (repeat (first | (apply WL.nil) | (apply EX.thenN) | (apply CW.ret)))
  exact EX.retC rfl rfl hr4 rfl ⟨Rd.mkLtl (kids := [t, t']) hu, hE4⟩
theorem pu_leaf (w : World) (F : Nat → Prop) (k : Int) : Rt Tryz.prog 93 [.int .i64 k].toArray w fun v w' => Rd w' F v (.mk k 0 [] : Ltl) ∧ Ext w w' := by
  refine Rt.enter1 Tryz.func93 Tryz.ntmps93 rfl rfl ?_
  (repeat (first | (apply CW.seq) | (apply CW.region)))
  refine WL.alloc rfl rfl (fun w1 hb hE => ?_)
  (repeat (first | (apply WL.pure; rfl; rfl; rfl) | (apply WL.nil) | (apply EX.thenN) | (apply CW.seq) | (apply CW.region)))
  refine WL.build rfl rfl rfl rfl ?_
  refine WL.st rfl rfl rfl hb rfl rfl (ones_of rfl) (fun w2 hb2 hgr => ?_)
  have hE2 : Ext w w2 := hE.grown hgr hE.size (fun g hg => by cases hg; exact Nat.le_refl _)
  (repeat (first | (apply WL.nil) | (apply EX.thenN) | (apply CW.ret)))
  exact EX.retC rfl rfl hb2 rfl ⟨Rd.mkLtl (kids := []) ⟨by simp, by simp [maxLen], fun _ => rfl, fun i hi => absurd hi (by simp)⟩, hE2⟩
end Go.Proofs.YtllpfgcngokhnaaGreat

/-
  Package push walked, second part: Same, SameLtl, Size.
-/
set_option linter.unusedVariables false
set_option linter.unusedSimpArgs false
namespace Go.Proofs.YtllpfgcngokhnaaGreat
open Go.RowKit

theorem pu_Same : ∀ (m : Nat) (a b : Ltl), a.nodes ≤ m → ∀ (w : World) (F : Nat → Prop) (ao bo : Option Addr) (ac bc : Nat), Sl w F ao ac a.kids → Sl w F bo bc b.kids → (∀ b, F b → b < w.heap.size) →
    Rt Tryz.prog 97 [ltlV a.k a.n ao a.kids.length ac, ltlV b.k b.n bo b.kids.length bc].toArray w fun v w' => v = .bool (sameB a b) ∧ Ext w w' := by
  intro m
  induction m with
  | zero => intro a b h; have := a.nodes_pos; omega
  | succ m ih =>
    rintro ⟨k, n, xs⟩ ⟨k', n', ys⟩ hm w F ao bo ac bc ha hb hF
    simp only [Ltl.k, Ltl.n, Ltl.kids, Ltl.nodes] at *
    have hxl := ha.len63
    refine Rt.enter2 Tryz.func97 Tryz.ntmps97 rfl rfl ?_
    (repeat (first | (apply CW.seq) | (apply CW.region)))
    refine WL.boxB rfl rfl rfl fun w1 hf hE1 => ?_
    skip
    refine WL.boxB rfl rfl rfl fun w2 hg hE2 => ?_
    have hf := hf.ext hE2
    have hE2 := hE1.trans hE2
    have hS : sameB (.mk k n xs) (.mk k' n' ys) = (k == k' && n == n' && sameBs xs ys) := by simp [sameB]
    rw [hS]
    (repeat (first | (apply WL.pure; rfl; rfl; rfl) | (apply WL.nil) | (apply EX.thenN) | (apply CW.seq) | (apply CW.region) | (apply WL.fa; rfl; rfl; rfl) | (apply WL.ld; rfl; rfl; rfl; assumption; rfl)))
    cases h1 : (k != k') with
    | true =>
      (repeat (first | (apply WL.pure; rfl; rfl; rfl) | (apply WL.nil) | (apply EX.thenN) | (apply CW.seq) | (apply CW.region) | (apply WL.pass; rfl; rfl) | (apply CW.condT; rfl) | (apply CW.ret) | (apply EX.thenR)))
      refine EX.ret1 rfl rfl ⟨?_, hE2⟩
      simp at h1; simp [h1]
    | false =>
    have h1 : k = k' := by simpa using h1
    (repeat (first | (apply WL.pure; rfl; rfl; rfl) | (apply WL.fa; rfl; rfl; rfl) | (apply WL.ld; rfl; rfl; rfl; assumption; rfl)))
    cases h2 : (n != n') with
    | true =>
      (repeat (first | (apply WL.pure; rfl; rfl; rfl) | (apply WL.nil) | (apply EX.thenN) | (apply CW.seq) | (apply CW.region) | (apply WL.pass; rfl; rfl) | (apply CW.condT; rfl) | (apply CW.ret) | (apply EX.thenR)))
      refine EX.ret1 rfl rfl ⟨?_, hE2⟩
      simp at h2; simp [h2]
    | false =>
    have h2 : n = n' := by simpa using h2
    (repeat (first | (apply WL.pure; rfl; rfl; rfl) | (apply WL.nil) | (apply EX.thenN) | (apply WL.lenS; rfl; rfl; rfl) | (apply WL.fa; rfl; rfl; rfl) | (apply WL.ld; rfl; rfl; rfl; assumption; rfl)))
    cases h3 : ((xs.length : Int) != (ys.length : Int)) with
    | true =>
      (repeat (first | (apply WL.pure; rfl; rfl; rfl) | (apply WL.nil) | (apply EX.thenN) | (apply CW.seq) | (apply CW.region) | (apply CW.condT; rfl) | (apply CW.ret) | (apply EX.thenR)))
      refine EX.ret1 rfl rfl ⟨?_, hE2⟩
      have h3 : xs.length ≠ ys.length := by simp at h3; omega
      have : sameBs xs ys = false := by
        rw [Bool.eq_false_iff, Ne, sameBs_iff]
        exact fun e => h3 (by rw [e])
      rw [this]; simp
    | false =>
    have h3 : xs.length = ys.length := by simp at h3; omega
    (repeat (first | (apply WL.pure; rfl; rfl; rfl) | (apply WL.nil) | (apply EX.thenN) | (apply CW.seq) | (apply CW.region) | (apply WL.lenS; rfl; rfl; rfl) | (apply WL.fa; rfl; rfl; rfl) | (apply WL.ld; rfl; rfl; rfl; assumption; rfl) | (apply CW.block) | (apply CW.condF; rfl) | (apply CW.skip)))
    refine CW.loop (S := Nat) (fun i => [(2, .pointer (some ⟨w.heap.size, 0, none⟩)), (3, .pointer (some ⟨w1.heap.size, 0, none⟩)), (29, .int .i64 xs.length), (30, .int .i64 i)])
      (fun i w' => i ≤ xs.length ∧ Ext w2 w' ∧ ∀ j (h : j < xs.length) (h' : j < ys.length), j < i → sameB xs[j] ys[j] = true) (fun i => xs.length - i) 0 (by repeat (first | exact trivial | refine ⟨rfl, ?_⟩)) ⟨by omega, Ext.refl _, by omega⟩ ?_
    rintro i w3 ⟨hi, hE3, hall⟩
    have hf3 := hf.ext hE3
    have hg3 := hg.ext hE3
    have hE3' := hE2.trans hE3
    (repeat (first | (apply WL.pure; rfl; rfl; rfl) | (apply WL.nil) | (apply EX.thenN) | (apply CW.seq) | (apply CW.region)))
    refine CW.cond rfl (fun h => ?_) (fun h => ?_)
    · have h : i < xs.length := by simpa using h
      have h' : i < ys.length := by omega
      (repeat (first | (apply WL.pure; rfl; rfl; rfl) | (apply QL.pure; rfl; rfl; rfl) | (apply WL.nil) | (apply EX.thenN) | (apply CW.seq) | (apply CW.region) | (apply QL.fa; rfl; rfl; rfl) | (apply QL.ld; rfl; rfl; rfl; assumption; rfl) | (apply CW.block) | (apply CW.skip) | (apply CW.draw; exact mixed; kernel_rfl)))
      refine QL.elemN rfl rfl rfl rfl rfl (fun b hb => Nat.lt_of_lt_of_le (hF b hb) hE3'.size) (ha.up0 hE3' hF) h (fun _ => rfl) (fun u q hu => ?_)
      (repeat (first | (apply QL.pure; rfl; rfl; rfl) | (apply QL.fa; rfl; rfl; rfl) | (apply QL.ld; rfl; rfl; rfl; assumption; rfl)))
      refine QL.elemN rfl rfl rfl rfl rfl (fun b hb => Nat.lt_of_lt_of_le (hF b hb) hE3'.size) (hb.up0 hE3' hF) h' (fun _ => rfl) (fun u' q' hu' => ?_)
      obtain ⟨uo, uc, rfl, hku⟩ := Rd.ltl hu
      obtain ⟨uo', uc', rfl, hku'⟩ := Rd.ltl hu'
      have hF3 : ∀ b, F b → b < w3.heap.size := fun b hb => Nat.lt_of_lt_of_le (hF b hb) hE3'.size
      have hnode : (xs[i]).nodes ≤ m := by have := Ltl.nodes_kid xs xs[i] (List.getElem_mem h); omega
      refine QL.call (v := .bool (sameB xs[i] ys[i])) rfl rfl rfl (fun w4 e4 => ih xs[i] ys[i] hnode w4 F uo uo' uc uc' (hku.up0 e4 hF3) (hku'.up0 e4 hF3) (fun b hb => Nat.lt_of_lt_of_le (hF3 b hb) e4.size)) ?_
      (repeat (apply QL.pure; rfl; rfl; rfl))
      refine QL.nil (fun w4 e4 => ?_)
      cases hs : sameB xs[i] ys[i] with
      | true =>
        (repeat (first | (apply WL.add; rfl; rfl; rfl; rfl; omega; omega) | (apply WL.pure; rfl; rfl; rfl) | (apply WL.nil) | (apply EX.thenN) | (apply CW.region) | (apply EX.inN) | (apply CW.condF; rfl) | (apply CW.skip)))
        refine EX.back (i + 1) (by repeat (first | exact trivial | refine ⟨rfl, ?_⟩)) ⟨h, hE3.trans e4, fun j hj hj' hlt => ?_⟩ (by omega)
        by_cases e : j = i
        · subst e; exact hs
        · exact hall j hj hj' (by omega)
      | false =>
        (repeat (first | (apply WL.pure; rfl; rfl; rfl) | (apply WL.nil) | (apply EX.thenN) | (apply CW.seq) | (apply CW.region) | (apply CW.condT; rfl) | (apply CW.ret) | (apply EX.thenR) | (apply EX.inR)))
        refine EX.ret1 rfl rfl ⟨?_, hE3'.trans e4⟩
        have : sameBs xs ys = false := by
          rw [Bool.eq_false_iff, Ne, sameBs_iff]
          intro e
          subst e
          rw [sameB_self] at hs
          cases hs
        rw [this]; simp
    · have h : ¬ i < xs.length := by simpa using h
      (repeat (first | (apply WL.pure; rfl; rfl; rfl) | (apply WL.nil) | (apply EX.thenN) | (apply CW.seq) | (apply CW.region) | (apply CW.exit) | (apply EX.thenX) | (apply EX.inX) | (apply CW.ret)))
      refine EX.ret1 rfl rfl ⟨?_, hE3'⟩
      have : sameBs xs ys = true := by
        rw [sameBs_iff]
        exact List.ext_getElem h3 (fun j hj hj' => (sameB_iff _ _).1 (hall j hj hj' (by omega)))
      rw [this]; simp [h1, h2]
end Go.Proofs.YtllpfgcngokhnaaGreat

/-
  Package push walked, third part: nots.
-/
set_option linter.unusedVariables false
set_option linter.unusedSimpArgs false
namespace Go.Proofs.YtllpfgcngokhnaaGreat
open Go.RowKit

theorem kids_le {k n : Int} {kids : List Ltl} (h : wfT (.mk k n kids)) : kids.length ≤ 2 := by
  simp only [wfT] at h
  have h1 := h.1
  unfold kidsK at h1
  split at h1
  · omega
  · split at h1
    · omega
    · split at h1 <;> omega
theorem wf_kid {k n : Int} {kids : List Ltl} (h : wfT (.mk k n kids)) {i : Nat} (hi : i < kids.length) : wfT kids[i] := by
  simp only [wfT] at h
  exact wfTs_get kids i hi h.2.2.2.2
theorem nodes_kid' {k n : Int} {kids : List Ltl} {m : Nat} (h : (Ltl.mk k n kids).nodes ≤ m + 1) {i : Nat} (hi : i < kids.length) : (kids[i]).nodes ≤ m := by
  have := Ltl.nodes_kid kids kids[i] (List.getElem_mem hi)
  simp only [Ltl.nodes] at h
  omega
/-- what is stored into the result's cell, and that it is returned -/
theorem Rd.cells {w : World} {F : Nat → Prop} {v : Value} {t : Ltl} (h : Rd w F v t) : ∃ ao cap, v = .agg [.int .i64 t.k, .int .i64 t.n, .slice ao t.kids.length cap].toArray ∧ Sl w F ao cap t.kids := Rd.ltl h
end Go.Proofs.YtllpfgcngokhnaaGreat

/-
  Package push walked, fourth part: plain; told; Nots, Plain.
-/
set_option linter.unusedVariables false
set_option linter.unusedSimpArgs false
namespace Go.Proofs.YtllpfgcngokhnaaGreat
open Go.RowKit

theorem plain_ok : ∀ (m : Nat) (t : Ltl), t.nodes ≤ m → wfT t → ∀ (w : World) (F : Nat → Prop) (ao : Option Addr) (cap : Nat), Sl w F ao cap t.kids → (∀ b, F b → b < w.heap.size) →
    Rt Tryz.prog 65 [ltlV t.k t.n ao t.kids.length cap].toArray w fun v w' => Rd w' (Nw w w') v (plainL t) ∧ Ext w w' := by
  intro m
  induction m with
  | zero => intro t h; have := t.nodes_pos; omega
  | succ m ih =>
    rintro ⟨k, n, kids⟩ hm hwf w F ao cap hs hF
    simp only [Ltl.k, Ltl.n, Ltl.kids] at *
    have hkl := kids_le hwf
    refine Rt.enter1 Tryz.func65 Tryz.ntmps65 rfl rfl ?_
    (repeat (first | (apply CW.seq) | (apply CW.region)))
    refine WL.boxB rfl rfl rfl fun w1 hf hE1 => ?_
    refine WL.alloc rfl rfl (fun w2 hr hE2 => ?_)
    have hf := hf.ext hE2
    have hE12 := hE1.trans hE2
    have hz1 : w.heap.size ≤ w1.heap.size := hE1.size
    have hlf := hf.lt
    have hlr := hr.lt
    (repeat (first | (apply WL.nil) | (apply EX.thenN) | (apply CW.seq) | (apply CW.region) | (apply WL.fa; rfl; rfl; rfl) | (apply WL.ld; rfl; rfl; rfl; assumption; rfl)))
    refine WL.build rfl rfl rfl rfl ?_
    refine WL.alloc rfl rfl (fun w3 ho hE3 => ?_)
    refine WL.st rfl rfl rfl ho rfl rfl (ones_of rfl) (fun w4 ho4 hg4 => ?_)
    have e4 : Ext w2 w4 := hE3.grown hg4 hE3.size (fun g hg => by cases hg; exact Nat.le_refl _)
    have hf4 := hf.ext e4
    have hr4 := hr.ext e4
    have hE4 := hE12.trans e4
    have hlo := ho4.lt
    have hsz := hE12.size
    clear hf hr ho hg4 hE3 e4 hE12
    (repeat (first | (apply WL.pure; rfl; rfl; rfl) | (apply WL.nil) | (apply EX.thenN) | (apply CW.seq) | (apply CW.region) | (apply WL.lenS; rfl; rfl; rfl) | (apply WL.fa; rfl; rfl; rfl) | (apply WL.ld; rfl; rfl; rfl; assumption; rfl) | (apply CW.block)))
    refine CW.loop (S := Nat × Value) (fun x => [(1, .pointer (some ⟨w.heap.size, 0, none⟩)), (2, .pointer (some ⟨w1.heap.size, 0, none⟩)), (3, .pointer (some ⟨w2.heap.size, 0, none⟩)), (12, .slice ao kids.length cap), (13, .int .i64 kids.length), (14, .int .i64 x.1)])
      (fun x w' => x.1 ≤ kids.length ∧ Ext w w' ∧ w4.heap.size ≤ w'.heap.size ∧ Blk w' w.heap.size 35 [.int .i64 k, .int .i64 n, .slice ao kids.length cap] ∧ Blk w' w1.heap.size 35 [.int .i64 0, .int .i64 0, .slice none 0 0] ∧
        Blk w' w2.heap.size 35 [.int .i64 k, .int .i64 n, x.2] ∧ Grow w4.heap.size 35 w' x.2 (plainLs (kids.take x.1))) (fun x => kids.length - x.1) (0, .slice none 0 0) (by repeat (first | exact trivial | refine ⟨rfl, ?_⟩)) ⟨by simp, hE4, Nat.le_refl _, hf4, hr4, ho4, by simpa [plainLs] using Grow.nil⟩ ?_
    rintro ⟨i, kv⟩ w5 ⟨hi, hE5, hsz5, hf5, hr5, ho5, hG5⟩
    dsimp only at hi hE5 hsz5 hf5 hr5 ho5 hG5 ⊢
    clear hf4 hr4 ho4
    (repeat (first | (apply WL.pure; rfl; rfl; rfl) | (apply WL.nil) | (apply EX.thenN) | (apply CW.seq) | (apply CW.region)))
    refine CW.cond rfl (fun h => ?_) (fun h => ?_)
    · have h : i < kids.length := by simpa using h
      (repeat (first | (apply EX.thenN) | (apply CW.seq) | (apply CW.region) | (apply CW.block) | (apply CW.skip)))
      refine WL.elemN rfl rfl rfl rfl rfl (hs.up0 hE5 hF) h (fun _ => rfl) (fun u q hu => ?_)
      obtain ⟨uo, uc, rfl, hku⟩ := Rd.ltl hu
      refine WL.alloc rfl rfl (fun w6 hx hE6 => ?_)
      refine WL.st rfl rfl rfl hx rfl rfl (ones_of rfl) (fun w7 hx7 hg7 => ?_)
      have e7 : Ext w5 w7 := hE6.grown hg7 hE6.size (fun g hg => by cases hg; exact Nat.le_refl _)
      have hE7 := hE5.trans e7
      have ed := Ext.drew w7
      have hd := hE7.trans ed
      have ho7 := (ho5.ext e7).ext ed
      have hxd := hx7.ext ed
      have hG7 := (hG5.ext e7).ext ed
      have hlx := hx7.lt
      have hz7 := e7.size
      have hKo : ∀ x, (fun x : World => x.heap[w2.heap.size]? = (drew w7).heap[w2.heap.size]? ∧ x.heap[w5.heap.size]? = (drew w7).heap[w5.heap.size]?) x → x.heap[w2.heap.size]? = (drew w7).heap[w2.heap.size]? := fun _ h => h.1
      have hKx : ∀ x, (fun x : World => x.heap[w2.heap.size]? = (drew w7).heap[w2.heap.size]? ∧ x.heap[w5.heap.size]? = (drew w7).heap[w5.heap.size]?) x → x.heap[w5.heap.size]? = (drew w7).heap[w5.heap.size]? := fun _ h => h.2
      (repeat (first | (apply WL.nil) | (apply EX.thenN)))
      refine CW.drawE (fun x : World => x.heap[w2.heap.size]? = (drew w7).heap[w2.heap.size]? ∧ x.heap[w5.heap.size]? = (drew w7).heap[w5.heap.size]?) [(0, true), (1, true), (2, true), (3, false), (4, false), (5, false), (6, true)] 7 mixed (by kernel_rfl) ⟨rfl, rfl⟩ ?_
      (repeat (first | (refine HL.fa rfl rfl rfl rfl ?_) | (refine HL.ldK (by assumption) rfl rfl rfl rfl (by assumption) rfl ?_)))
      refine HL.ldAK hKx rfl rfl rfl rfl hxd rfl ?_
      skip
      have hFd : ∀ b, F b → b < (drew w7).heap.size := fun b hb => Nat.lt_of_lt_of_le (hF b hb) hd.size
      have hku' : Sl (drew w7) F uo uc (kids[i]).kids := hku.up0 (e7.trans ed) (fun b hb => Nat.lt_of_lt_of_le (hF b hb) hE5.size)
      refine HL.mut rfl (WL.call rfl rfl rfl (ih kids[i] (nodes_kid' hm h) (wf_kid hwf h) (drew w7) F uo uc hku' hFd) ?_)
      rintro v w8 ⟨hv, e8⟩
      have ho8 := ho7.ext e8
      have hG8 := hG7.ext e8
      have hsz8 : w7.heap.size ≤ w8.heap.size := e8.size
      refine WL.nil (EX.mut ⟨e8.block _ ho7.lt, e8.block _ hlx⟩ ?_)
      have hgl := hG7.lt
      obtain ⟨F', hF', hO, hsub⟩ := hG8.open (Fu := Nw (drew w7) w8) (fun b hb => ⟨Nat.le_trans hsz5 (Nat.le_trans hz7 hb.1), hb.2⟩) (fun g hg hb => by have := (hgl g hg).2; have := hb.1; omega)
      have hnl : (plainLs (kids.take i)).length = i := by rw [plainLs_map, List.length_map, List.length_take]; omega
      have hgl5 := hG5.lt
      refine HL.app1 (bytes := 40) (F := F') rfl rfl rfl rfl (fun _ => rfl) rfl rfl (fun _ => rfl) hO (hv.wk hsub) (by omega) (fun b hb => (hF' b hb).2) (by decide) (by rw [hnl]; unfold maxLen; omega) (by rw [hnl]; omega)
        (fun w' hg' => ⟨(hg'.block _ ho8.lt (fun e => ?_)).trans (e8.block _ ho7.lt), (hg'.block _ (by omega) (fun e => ?_)).trans (e8.block _ hlx)⟩) (fun cV w9 q2 hO9 hg9 hnb => ?_)
      · have := (hgl5 _ e.symm).1; omega
      · have := (hgl5 _ e.symm).2; omega
      have hG9 : Grow w4.heap.size 35 w9 cV (plainLs (kids.take i) ++ [plainL kids[i]]) := ⟨F', fun b hb => ⟨(hF' b hb).1, Nat.lt_of_lt_of_le (hF' b hb).2 hg9.size⟩, hO9⟩
      rw [show plainLs (kids.take i) ++ [plainL kids[i]] = plainLs (kids.take (i + 1)) by rw [plainLs_map, plainLs_map, List.take_succ_eq_append_getElem h, List.map_append]; rfl] at hG9
      obtain ⟨co, cc, rfl, _⟩ := hG9.sl
      have hnr : ∀ r, r < w4.heap.size → some r ≠ kv.ownBlock := fun r hr e => by have := (hgl5 _ e.symm).1; omega
      have ho9 := ho8.kept hg9 (hnr _ (by omega))
      have hf9 := ((((hf5.ext e7).ext ed).ext e8)).kept hg9 (hnr _ (by omega))
      have hr9 := ((((hr5.ext e7).ext ed).ext e8)).kept hg9 (hnr _ (by omega))
      have hE8 := hd.trans e8
      have hE9 : Ext w w9 := hE8.grown hg9 hE8.size (fun g hg => by have := (hgl5 g hg).1; omega)
      (repeat (first | (refine HL.fa rfl rfl rfl rfl ?_) | (apply HL.nil)))
      refine EX.tail rfl (WL.st rfl rfl rfl ho9 rfl rfl (ones_of rfl) (fun w10 ho10 hg10 => WL.nil (EX.tailE ?_)))
      have hE10 : Ext w w10 := hE9.grown hg10 hE9.size (fun g hg => by cases hg; omega)
      have hsz9 := hg9.size
      have hsz10 := hg10.size
      (repeat (first | (apply WL.add; rfl; rfl; rfl; rfl; omega; omega) | (apply WL.pure; rfl; rfl; rfl) | (apply WL.nil) | (apply EX.thenN) | (apply CW.region) | (apply EX.inN)))
      exact EX.back (i + 1, .slice co (plainLs (kids.take (i + 1))).length cc) (by repeat (first | exact trivial | refine ⟨rfl, ?_⟩)) ⟨h, hE10, by omega, hf9.kept hg10 (fun e => by have := Option.some.inj e; omega), hr9.kept hg10 (fun e => by have := Option.some.inj e; omega), ho10, hG9.kept hg10 (by omega)⟩ (by dsimp only; omega)
    · have h : ¬ i < kids.length := by simpa using h
      have hik : i = kids.length := by omega
      subst hik
      rw [List.take_length] at hG5
      obtain ⟨co, cc, rfl, hsl⟩ := hG5.sl
      have hnl : (plainLs kids).length = kids.length := by rw [plainLs_map, List.length_map]
      have hout : Rd w5 (fun b => w4.heap.size ≤ b ∧ b < w5.heap.size) (ltlV k n co (plainLs kids).length cc) (Ltl.mk k n (plainLs kids)) := Rd.mkLtl hsl
      have hN : plainL (.mk k n kids) = if k = 10 then Ltl.mk 8 0 [.mk 1 0 [], (plainLs kids).getD 0 (.mk 0 0 [])] else if k = 11 then .mk 9 0 [.mk 2 0 [], (plainLs kids).getD 0 (.mk 0 0 [])] else .mk k n (plainLs kids) := by simp only [plainL]
      rw [hN]
      have hone : k = 10 ∨ k = 11 → 0 < (plainLs kids).length := by
        intro hc
        rw [hnl]
        have h := hwf
        simp only [wfT] at h
        have h1 := h.1
        unfold kidsK at h1
        rw [if_neg (by omega), if_pos (by omega)] at h1
        omega
      have fin : ∀ (w8 w9 : World) (F' : Nat → Prop) (v : Value) (t' : Ltl), Rd w8 F' v t' → (∀ b, F' b → w4.heap.size ≤ b ∧ b < w8.heap.size) → w8.grownBy w9 (some w1.heap.size) → Rd w9 (Nw w w9) v t' := by
        intro w8 w9 F' v t' hv hF' hg
        exact (hv.kept hg (fun b hb => ⟨(hF' b hb).2, fun e => by have := Option.some.inj e; have := (hF' b hb).1; omega⟩)).wk (fun b hb => ⟨by have := (hF' b hb).1; omega, Nat.lt_of_lt_of_le (hF' b hb).2 hg.size⟩)
      (repeat (first | (apply WL.pure; rfl; rfl; rfl) | (apply WL.nil) | (apply EX.thenN) | (apply CW.seq) | (apply CW.region) | (apply WL.fa; rfl; rfl; rfl) | (apply WL.ld; rfl; rfl; rfl; assumption; rfl) | (apply CW.block) | (apply CW.exit) | (apply EX.thenX) | (apply EX.inX)))
      cases h10 : (k == 10) with
      | true =>
        have h10 : k = 10 := by simpa using h10
        have h0 := hone (.inl h10)
        rw [if_pos h10]
        have hdr := Ext.drew w5
        have ho6 := ho5.ext hdr
        have hz5 : w5.heap.size = (drew w5).heap.size := rfl
        have hK : ∀ x, (fun x : World => SO w1.heap.size (drew w5) x) x → x.heap[w2.heap.size]? = (drew w5).heap[w2.heap.size]? := fun x hx => hx.2 _ (by omega) ho6.lt
        (repeat (first | (apply CW.seq) | (apply CW.condT; rfl)))
        refine CW.drawH (fun x : World => SO w1.heap.size (drew w5) x) [(1, true), (2, true), (3, true), (4, true), (0, false), (5, false), (6, false)] mixed (by kernel_rfl) (SO.refl _ _) ?_
        (repeat (first | (refine HL.fa rfl rfl rfl rfl ?_) | (refine HL.ldK (by assumption) rfl rfl rfl rfl (by assumption) rfl ?_)))
        refine HL.elemK (w := drew w5) (F := fun b => w4.heap.size ≤ b ∧ b < w5.heap.size) (k := 0) (fun x hx b hb => hx.2 b (by have := hb.1; omega) hb.2) rfl rfl rfl rfl rfl rfl rfl (hsl.up0 hdr (fun b hb => hb.2)) h0 (fun _ => rfl) (fun u q hu => ?_)
        refine HL.mut rfl (WL.call rfl rfl rfl (pu_leaf (drew w5) Non 1) ?_)
        rintro lf w6 ⟨hlf, e6⟩
        refine WL.nil (EX.mut ((SO.refl _ _).ext e6) ?_)
        have hz6 : w5.heap.size ≤ w6.heap.size := e6.size
        have hu6 : Rd w6 (fun b => w4.heap.size ≤ b ∧ b < w5.heap.size) u (plainLs kids)[0] := hu.up0 e6 (fun b hb => hb.2)
        refine HL.mut rfl (WL.call rfl rfl rfl (pu_two w6 (F := fun b => w4.heap.size ≤ b ∧ b < w5.heap.size) (fun b hb => Nat.lt_of_lt_of_le hb.2 hz6) 8 (hlf.wk fun _ h => h.elim) hu6) ?_)
        rintro v w7 ⟨hv, e7⟩
        obtain ⟨vo, vc, rfl, hkv⟩ := Rd.ltl hv
        refine WL.nil (EX.mut (((SO.refl _ _).ext e6).ext e7) ?_)
        have hz7 := e7.size
        refine HL.mut rfl (WL.st rfl rfl rfl (((hr5.ext hdr).ext e6).ext e7) rfl rfl (ones_of rfl) (fun w8 hr8 hg8 => ?_))
        refine WL.nil (EX.mut ((((SO.refl _ _).ext e6).ext e7).st hg8) (HL.nil ?_))
        have hE7 := ((hE5.trans hdr).trans e6).trans e7
        have hgd : (plainLs kids).getD 0 (.mk 0 0 []) = (plainLs kids)[0] := by simp [List.getD_eq_getElem?_getD, h0]
        (repeat (first | (apply EX.thenN) | (apply CW.ret) | (apply EX.thenR) | (apply EX.inR)))
        refine EX.retC rfl rfl hr8 rfl ⟨?_, hE7.grown hg8 hE7.size (fun g hg => by cases hg; omega)⟩
        rw [hgd]
        refine fin _ _ _ _ _ hv (fun b hb => ?_) hg8
        rcases hb with hb | hb
        · exact ⟨hb.1, by have := hb.2; omega⟩
        · exact ⟨by have := hb.1; omega, hb.2⟩
      | false =>
      have h10 : k ≠ 10 := by simpa using h10
      rw [if_neg h10]
      (repeat (first | (apply WL.pure; rfl; rfl; rfl) | (apply WL.nil) | (apply EX.thenN) | (apply CW.seq) | (apply CW.region) | (apply CW.condF; rfl)))
      cases h11 : (k == 11) with
      | true =>
        have h11 : k = 11 := by simpa using h11
        have h0 := hone (.inr h11)
        rw [if_pos h11]
        have hdr := Ext.drew w5
        have ho6 := ho5.ext hdr
        have hz5 : w5.heap.size = (drew w5).heap.size := rfl
        have hK : ∀ x, (fun x : World => SO w1.heap.size (drew w5) x) x → x.heap[w2.heap.size]? = (drew w5).heap[w2.heap.size]? := fun x hx => hx.2 _ (by omega) ho6.lt
        (repeat (first | (apply CW.seq) | (apply CW.condT; rfl)))
        refine CW.drawH (fun x : World => SO w1.heap.size (drew w5) x) [(1, true), (2, true), (3, true), (4, true), (0, false), (5, false), (6, false)] mixed (by kernel_rfl) (SO.refl _ _) ?_
        (repeat (first | (refine HL.fa rfl rfl rfl rfl ?_) | (refine HL.ldK (by assumption) rfl rfl rfl rfl (by assumption) rfl ?_)))
        refine HL.elemK (w := drew w5) (F := fun b => w4.heap.size ≤ b ∧ b < w5.heap.size) (k := 0) (fun x hx b hb => hx.2 b (by have := hb.1; omega) hb.2) rfl rfl rfl rfl rfl rfl rfl (hsl.up0 hdr (fun b hb => hb.2)) h0 (fun _ => rfl) (fun u q hu => ?_)
        refine HL.mut rfl (WL.call rfl rfl rfl (pu_leaf (drew w5) Non 2) ?_)
        rintro lf w6 ⟨hlf, e6⟩
        refine WL.nil (EX.mut ((SO.refl _ _).ext e6) ?_)
        have hz6 : w5.heap.size ≤ w6.heap.size := e6.size
        have hu6 : Rd w6 (fun b => w4.heap.size ≤ b ∧ b < w5.heap.size) u (plainLs kids)[0] := hu.up0 e6 (fun b hb => hb.2)
        refine HL.mut rfl (WL.call rfl rfl rfl (pu_two w6 (F := fun b => w4.heap.size ≤ b ∧ b < w5.heap.size) (fun b hb => Nat.lt_of_lt_of_le hb.2 hz6) 9 (hlf.wk fun _ h => h.elim) hu6) ?_)
        rintro v w7 ⟨hv, e7⟩
        obtain ⟨vo, vc, rfl, hkv⟩ := Rd.ltl hv
        refine WL.nil (EX.mut (((SO.refl _ _).ext e6).ext e7) ?_)
        have hz7 := e7.size
        refine HL.mut rfl (WL.st rfl rfl rfl (((hr5.ext hdr).ext e6).ext e7) rfl rfl (ones_of rfl) (fun w8 hr8 hg8 => ?_))
        refine WL.nil (EX.mut ((((SO.refl _ _).ext e6).ext e7).st hg8) (HL.nil ?_))
        have hE7 := ((hE5.trans hdr).trans e6).trans e7
        have hgd : (plainLs kids).getD 0 (.mk 0 0 []) = (plainLs kids)[0] := by simp [List.getD_eq_getElem?_getD, h0]
        (repeat (first | (apply EX.thenN) | (apply CW.ret) | (apply EX.thenR) | (apply EX.inR)))
        refine EX.retC rfl rfl hr8 rfl ⟨?_, hE7.grown hg8 hE7.size (fun g hg => by cases hg; omega)⟩
        rw [hgd]
        refine fin _ _ _ _ _ hv (fun b hb => ?_) hg8
        rcases hb with hb | hb
        · exact ⟨hb.1, by have := hb.2; omega⟩
        · exact ⟨by have := hb.1; omega, hb.2⟩
      | false =>
        have h11 : k ≠ 11 := by simpa using h11
        rw [if_neg h11]
        (repeat (first | (apply EX.thenN) | (apply CW.seq) | (apply CW.region) | (apply WL.ldA; rfl; rfl; rfl; assumption; rfl) | (apply EX.inN) | (apply CW.condF; rfl) | (apply CW.skip)))
        refine WL.st rfl rfl rfl hr5 rfl rfl (ones_of rfl) (fun w6 hr6 hg6 => ?_)
        (repeat (first | (apply WL.nil) | (apply EX.thenN) | (apply CW.ret)))
        exact EX.retC rfl rfl hr6 rfl ⟨fin _ _ _ _ _ hout (fun b hb => hb) hg6, hE5.grown hg6 hE5.size (fun g hg => by cases hg; omega)⟩
/-- what told answers -/
def toldE (t : Ltl) : Ltl × Int := if (chkF t 1 0).1 ≠ 0 then (.mk 0 0 [], (chkF t 1 0).1) else (t, 0)
theorem told_ok (w : World) {F : Nat → Prop} {v : Value} {t : Ltl} (h : Rd w F v t) (hF : ∀ b, F b → b < w.heap.size) :
    Rt Tryz.prog 64 [v].toArray w fun u w' => ∃ x, u = .tuple ⟨[x, .int .i64 (toldE t).2]⟩ ∧ Rd w' F x (toldE t).1 ∧ Ext w w' := by
  obtain ⟨ao, cap, rfl, hk⟩ := Rd.ltl h
  refine Rt.enter1 Tryz.func64 Tryz.ntmps64 rfl rfl ?_
  (repeat (first | (apply CW.seq) | (apply CW.region)))
  refine WL.boxB rfl rfl rfl fun w1 hf hE1 => ?_
  refine WL.alloc rfl rfl (fun w2 hr hE2 => ?_)
  have hf := hf.ext hE2
  have hE12 := hE1.trans hE2
  (repeat (first | (apply WL.pure; rfl; rfl; rfl) | (apply WL.nil) | (apply EX.thenN) | (apply CW.seq) | (apply CW.region) | (apply WL.ldA; rfl; rfl; rfl; assumption; rfl)))
  refine WL.call rfl rfl rfl (ltlCheck w2 (hk.up0 hE12 hF) (fun b hb => Nat.lt_of_lt_of_le (hF b hb) hE12.size)) ?_
  rintro _ w3 ⟨rfl, e3⟩
  have hf3 := hf.ext e3
  have hr3 := hr.ext e3
  have hE3 := hE12.trans e3
  have hz1 := hE1.size
  have fin : ∀ w8, w3.grownBy w8 (some w1.heap.size) → Ext w w8 := fun w8 hg => hE3.grown hg hE3.size (fun g hg => by cases hg; omega)
  (repeat (first | (apply WL.pure; rfl; rfl; rfl) | (apply WL.nil) | (apply EX.thenN) | (apply CW.seq) | (apply CW.region)))
  unfold toldE
  refine CW.cond rfl (fun h0 => ?_) (fun h0 => ?_)
  · have h0 : (chkF t 1 0).1 ≠ 0 := by simpa using h0
    rw [if_pos h0]
    (repeat (first | (apply CW.seq) | (apply CW.region)))
    refine WL.build (parts := []) rfl rfl rfl rfl ?_
    (repeat (apply WL.pure; rfl; rfl; rfl))
    refine WL.st rfl rfl rfl hr3 rfl rfl (ones_of rfl) (fun w4 hr4 hg4 => ?_)
    (repeat (first | (apply WL.pure; rfl; rfl; rfl) | (apply WL.nil) | (apply EX.thenN) | (apply CW.ret) | (apply EX.thenR)))
    exact EX.retC2 rfl rfl rfl hr4 rfl ⟨_, rfl, Rd.mkLtl (kids := []) (Sl.zero _ _), fin _ hg4⟩
  · have h0 : (chkF t 1 0).1 = 0 := by simpa using h0
    rw [if_neg (by simp [h0])]
    (repeat (first | (apply EX.thenN) | (apply CW.seq) | (apply CW.region) | (apply WL.ldA; rfl; rfl; rfl; assumption; rfl) | (apply CW.skip)))
    refine WL.st rfl rfl rfl hr3 rfl rfl (ones_of rfl) (fun w4 hr4 hg4 => ?_)
    (repeat (first | (apply WL.pure; rfl; rfl; rfl) | (apply WL.nil) | (apply EX.thenN) | (apply CW.ret)))
    exact EX.retC2 rfl rfl rfl hr4 rfl ⟨_, rfl, Rd.up0 h (fin _ hg4) hF, fin _ hg4⟩
def plainE (t : Ltl) : Ltl × Int := if (chkF t 1 0).1 ≠ 0 then (.mk 0 0 [], (chkF t 1 0).1) else toldE (plainL t)
theorem Plain_ok (w : World) {F : Nat → Prop} {t : Ltl} {ao : Option Addr} {cap : Nat} (hk : Sl w F ao cap t.kids) (hF : ∀ b, F b → b < w.heap.size) :
    Rt Tryz.prog 30 [ltlV t.k t.n ao t.kids.length cap].toArray w fun u w' => ∃ x, u = .tuple ⟨[x, .int .i64 (plainE t).2]⟩ ∧ Rd w' (Nw w w') x (plainE t).1 ∧ Ext w w' := by
  refine Rt.enter1 Tryz.func30 Tryz.ntmps30 rfl rfl ?_
  (repeat (first | (apply CW.seq) | (apply CW.region)))
  refine WL.boxB rfl rfl rfl fun w1 hf hE1 => ?_
  refine WL.alloc rfl rfl (fun w2 hr hE2 => ?_)
  have hf := hf.ext hE2
  have hE12 := hE1.trans hE2
  have hF2 : ∀ b, F b → b < w2.heap.size := fun b hb => Nat.lt_of_lt_of_le (hF b hb) hE12.size
  (repeat (first | (apply WL.pure; rfl; rfl; rfl) | (apply WL.nil) | (apply EX.thenN) | (apply CW.seq) | (apply CW.region) | (apply WL.ldA; rfl; rfl; rfl; assumption; rfl)))
  refine WL.call rfl rfl rfl (ltlCheck w2 (hk.up0 hE12 hF) hF2) ?_
  rintro _ w3 ⟨rfl, e3⟩
  have hf3 := hf.ext e3
  have hr3 := hr.ext e3
  have hE3 := hE12.trans e3
  have hz1 := hE1.size
  have hz2 := hE2.size
  have hlr := hr.lt
  have hz3 := e3.size
  (repeat (first | (apply WL.pure; rfl; rfl; rfl) | (apply WL.nil) | (apply EX.thenN) | (apply CW.seq) | (apply CW.region)))
  unfold plainE
  refine CW.cond rfl (fun h0 => ?_) (fun h0 => ?_)
  · have h0 : (chkF t 1 0).1 ≠ 0 := by simpa using h0
    rw [if_pos h0]
    (repeat (first | (apply CW.seq) | (apply CW.region)))
    refine WL.build (parts := []) rfl rfl rfl rfl ?_
    (repeat (apply WL.pure; rfl; rfl; rfl))
    refine WL.st rfl rfl rfl hr3 rfl rfl (ones_of rfl) (fun w4 hr4 hg4 => ?_)
    (repeat (first | (apply WL.pure; rfl; rfl; rfl) | (apply WL.nil) | (apply EX.thenN) | (apply CW.ret) | (apply EX.thenR)))
    exact EX.retC2 rfl rfl rfl hr4 rfl ⟨_, rfl, Rd.mkLtl (kids := []) (Sl.zero _ _), hE3.grown hg4 hE3.size (fun g hg => by cases hg; omega)⟩
  · have h0 : (chkF t 1 0).1 = 0 := by simpa using h0
    rw [if_neg (by simp [h0])]
    (repeat (first | (apply EX.thenN) | (apply CW.seq) | (apply CW.region) | (apply WL.ldA; rfl; rfl; rfl; assumption; rfl) | (apply CW.skip)))
    refine WL.call rfl rfl rfl (plain_ok t.nodes t (Nat.le_refl _) (chkF_wf t 1 0 h0) w3 F ao cap (hk.up0 hE3 hF) (fun b hb => Nat.lt_of_lt_of_le (hF b hb) hE3.size)) ?_
    rintro v w4 ⟨hv, e4⟩
    refine WL.call rfl rfl rfl (told_ok w4 hv (fun b hb => hb.2)) ?_
    rintro _ w5 ⟨x, rfl, hx, e5⟩
    obtain ⟨xo, xc, rfl, hkx⟩ := Rd.ltl hx
    have hE5 := (hE3.trans e4).trans e5
    have hz4 := e4.size
    have hz5 := e5.size
    (repeat (apply WL.pure; rfl; rfl; rfl))
    refine WL.st rfl rfl rfl ((hr3.ext e4).ext e5) rfl rfl (ones_of rfl) (fun w6 hr6 hg6 => ?_)
    (repeat (first | (apply WL.pure; rfl; rfl; rfl) | (apply WL.nil) | (apply EX.thenN) | (apply CW.ret)))
    refine EX.retC2 rfl rfl rfl hr6 rfl ⟨_, rfl, ?_, hE5.grown hg6 hE5.size (fun g hg => by cases hg; omega)⟩
    exact (hx.kept hg6 (fun b hb => ⟨Nat.lt_of_lt_of_le hb.2 hz5, fun e => by have := Option.some.inj e; have := hb.1; omega⟩)).wk (fun b hb => ⟨by have := hb.1; omega, Nat.lt_of_lt_of_le hb.2 (Nat.le_trans hz5 hg6.size)⟩)
end Go.Proofs.YtllpfgcngokhnaaGreat

/-
  slices.Sort at []int: the kit's proof, over our own rows.
-/
set_option linter.unusedVariables false
set_option linter.unusedSimpArgs false
namespace Go.Proofs.YtllpfgcngokhnaaGreat
open Go.RowKit Go.Shelf

def sortRen : Ren := ⟨fun x => if Nat.beq x 125 = true then 69 else if Nat.beq x 128 = true then 107 else if Nat.beq x 129 = true then 108 else if Nat.beq x 189 = true then 32 else if Nat.beq x 215 = true then 122 else if Nat.beq x 216 = true then 104 else if Nat.beq x 257 = true then 68 else if Nat.beq x 294 = true then 98 else if Nat.beq x 295 = true then 99 else if Nat.beq x 296 = true then 100 else if Nat.beq x 297 = true then 101 else if Nat.beq x 298 = true then 102 else if Nat.beq x 299 = true then 103 else if Nat.beq x 300 = true then 105 else if Nat.beq x 301 = true then 106 else if Nat.beq x 328 = true then 117 else if Nat.beq x 329 = true then 118 else if Nat.beq x 330 = true then 119 else if Nat.beq x 331 = true then 120 else if Nat.beq x 332 = true then 121 else if Nat.beq x 343 = true then 126 else 0, fun x => if Nat.beq x 0 = true then 0 else if Nat.beq x 3 = true then 3 else if Nat.beq x 4 = true then 4 else if Nat.beq x 5 = true then 5 else if Nat.beq x 9 = true then 9 else if Nat.beq x 28 = true then 22 else if Nat.beq x 46 = true then 115 else if Nat.beq x 51 = true then 142 else if Nat.beq x 53 = true then 65 else if Nat.beq x 131 = true then 124 else if Nat.beq x 182 = true then 134 else if Nat.beq x 183 = true then 135 else if Nat.beq x 218 = true then 152 else if Nat.beq x 222 = true then 74 else if Nat.beq x 228 = true then 158 else if Nat.beq x 229 = true then 159 else 0, fun x => x⟩
set_option maxRecDepth 100000 in
theorem sortLays : Lays.n189 Tryz.prog sortRen where
  mixed := by kernel_rfl
  f125 := (Tryz.func69).trans (by kernel_rfl)
  f128 := (Tryz.func107).trans (by kernel_rfl)
  f129 := (Tryz.func108).trans (by kernel_rfl)
  f189 := (Tryz.func32).trans (by kernel_rfl)
  f215 := (Tryz.func122).trans (by kernel_rfl)
  f216 := (Tryz.func104).trans (by kernel_rfl)
  f257 := (Tryz.func68).trans (by kernel_rfl)
  f294 := (Tryz.func98).trans (by kernel_rfl)
  f295 := (Tryz.func99).trans (by kernel_rfl)
  f296 := (Tryz.func100).trans (by kernel_rfl)
  f297 := (Tryz.func101).trans (by kernel_rfl)
  f298 := (Tryz.func102).trans (by kernel_rfl)
  f299 := (Tryz.func103).trans (by kernel_rfl)
  f300 := (Tryz.func105).trans (by kernel_rfl)
  f301 := (Tryz.func106).trans (by kernel_rfl)
  f328 := (Tryz.func117).trans (by kernel_rfl)
  f329 := (Tryz.func118).trans (by kernel_rfl)
  f330 := (Tryz.func119).trans (by kernel_rfl)
  f331 := (Tryz.func120).trans (by kernel_rfl)
  f332 := (Tryz.func121).trans (by kernel_rfl)
  f343 := (Tryz.func126).trans (by kernel_rfl)
  t0 := Tryz.underlying0
  a0 := Tryz.isAgg0
  z0 := Tryz.sizeOf0
  v0 := Tryz.zeroValue0
  t3 := Tryz.underlying3
  a3 := Tryz.isAgg3
  z3 := Tryz.sizeOf3
  v3 := Tryz.zeroValue3
  t4 := Tryz.underlying4
  a4 := Tryz.isAgg4
  z4 := Tryz.sizeOf4
  v4 := Tryz.zeroValue4
  t5 := Tryz.underlying5
  a5 := Tryz.isAgg5
  z5 := Tryz.sizeOf5
  v5 := Tryz.zeroValue5
  t9 := Tryz.underlying9
  a9 := Tryz.isAgg9
  z9 := Tryz.sizeOf9
  v9 := Tryz.zeroValue9
  t28 := Tryz.underlying22
  a28 := Tryz.isAgg22
  z28 := Tryz.sizeOf22
  v28 := Tryz.zeroValue22
  t46 := Tryz.underlying115
  a46 := Tryz.isAgg115
  z46 := Tryz.sizeOf115
  v46 := Tryz.zeroValue115
  t51 := Tryz.underlying142
  a51 := Tryz.isAgg142
  z51 := Tryz.sizeOf142
  v51 := Tryz.zeroValue142
  t53 := Tryz.underlying65
  a53 := Tryz.isAgg65
  z53 := Tryz.sizeOf65
  v53 := Tryz.zeroValue65
  t131 := Tryz.underlying124
  a131 := Tryz.isAgg124
  z131 := Tryz.sizeOf124
  v131 := Tryz.zeroValue124
  t182 := Tryz.underlying134
  a182 := Tryz.isAgg134
  z182 := Tryz.sizeOf134
  v182 := Tryz.zeroValue134
  t183 := Tryz.underlying135
  a183 := Tryz.isAgg135
  z183 := Tryz.sizeOf135
  v183 := Tryz.zeroValue135
  t218 := Tryz.underlying152
  a218 := Tryz.isAgg152
  z218 := Tryz.sizeOf152
  v218 := Tryz.zeroValue152
  t222 := Tryz.underlying74
  a222 := Tryz.isAgg74
  z222 := Tryz.sizeOf74
  v222 := Tryz.zeroValue74
  t228 := Tryz.underlying158
  a228 := Tryz.isAgg158
  z228 := Tryz.sizeOf158
  v228 := Tryz.zeroValue158
  t229 := Tryz.underlying159
  a229 := Tryz.isAgg159
  z229 := Tryz.sizeOf159
  v229 := Tryz.zeroValue159
theorem ext_grow (w : World) (os : Array Obj) : Ext w (Sort.grow w os) := ⟨rfl, rfl, rfl, by simp [Sort.grow], fun k hk => by simp [Sort.grow, Array.getElem?_append_left hk]⟩
def sortI (xs : List Int) : List Int := xs.mergeSort fun x y => decide (x ≤ y)
theorem sortI_mem {xs : List Int} {x : Int} : x ∈ sortI xs ↔ x ∈ xs := List.mem_mergeSort
theorem sortI_len {xs : List Int} : (sortI xs).length = xs.length := List.length_mergeSort xs
theorem sort_int (w : World) {B : Nat} {v : Value} {xs : List Int} (ho : Own w B 3 Non v xs) (hlen : xs.length < 4611686018427387904) :
    Rt Tryz.prog 32 [v].toArray w fun u w' => u = .tuple #[] ∧ Own w' B 3 Non v (sortI xs) ∧ w.grownBy w' v.ownBlock := by
  have hgr : w.grownBy w v.ownBlock := ⟨rfl, rfl, rfl, Nat.le_refl _, fun _ _ _ => rfl⟩
  rcases ho with ⟨rfl, rfl⟩ | ⟨g, off, cap, cur, rfl, ho⟩
  · refine Calls.mono (Any.slices_Sort_int_none sortLays none 0 w) ?_
    rintro e w' ⟨rfl, rfl⟩
    exact ⟨_, rfl, rfl, by rw [show sortI [] = [] by simp [sortI]]; exact Own.nil, hgr⟩
  · have hz : sz Int = 1 := rfl
    have hfit := ho.fit
    have hle := ho.le
    have hmx := ho.mx
    have hel := elems_get ho.el
    rw [hz, Nat.mul_one] at hfit hel
    have hcell : ∀ j (hj : j < xs.length), cur[off + j]? = some (Value.int .i64 xs[j]) := fun j hj => by
      have h1 : ((cur.toList.drop off).take xs.length)[j]? = (xs.map fun x => Value.int .i64 x)[j]? := by rw [hel]
      rw [List.getElem?_take_of_lt hj, List.getElem?_drop, List.getElem?_map, List.getElem?_eq_getElem hj] at h1
      simpa using h1
    have hH : Sort.Holds (Value.int .i64) w g off xs.toArray := fun j hj => by
      have hj' : j < xs.length := by simpa using hj
      constructor
      · have : xs.toArray[j]! = xs[j] := by simp [hj']
        rw [this]
        simp [World.cell?, ho.blk, hcell j hj']
      · simp [World.frozen?, ho.blk]
    have hsl := sortI_len (xs := xs)
    refine Calls.mono (Any.slices_Sort_int sortLays g off cap xs w hH (Array.getElem?_eq_some_iff.1 ho.blk).1 hlen) ?_
    rintro e w' ⟨rfl, n, os, rfl⟩
    generalize hys : (xs.mergeSort fun x y => decide (x ≤ y)) = ys at *
    have hysl : ys.length = xs.length := by rw [← hys]; exact hsl
    rw [show sortI xs = ys from hys]
    have hheap : (Sort.putRow (Value.int .i64) (Sort.ahead w n) g off ys.toArray).heap[g]? = some (.cells (Sort.putCells (Value.int .i64) off ys.toArray cur) 3 (0, 0)) := by
      show (w.heap.modify g _)[g]? = _
      rw [Array.getElem?_modify, if_pos rfl, ho.blk]; rfl
    have hother : ∀ k, k ≠ g → (Sort.putRow (Value.int .i64) (Sort.ahead w n) g off ys.toArray).heap[k]? = w.heap[k]? := fun k hk => by
      show (w.heap.modify g _)[k]? = _
      rw [Array.getElem?_modify, if_neg (fun e => hk e.symm)]
    have hsize : (Sort.putRow (Value.int .i64) (Sort.ahead w n) g off ys.toArray).heap.size = w.heap.size := by
      show (w.heap.modify g _).size = _
      rw [Array.size_modify]
    have hos : (Sort.putRow (Value.int .i64) (Sort.ahead w n) g off ys.toArray).os = w.os := rfl
    have htp : (Sort.putRow (Value.int .i64) (Sort.ahead w n) g off ys.toArray).tape = w.tape := rfl
    have hou : (Sort.putRow (Value.int .i64) (Sort.ahead w n) g off ys.toArray).output = w.output := rfl
    generalize Sort.putRow (Value.int .i64) (Sort.ahead w n) g off ys.toArray = w1 at *
    have hE : Ext w1 (Sort.grow w1 os) := ext_grow w1 os
    generalize Sort.grow w1 os = w2 at *
    have hps : (Sort.putCells (Value.int .i64) off ys.toArray cur).size = cur.size := by simp [Sort.putCells]
    have ho1 : Own w1 B 3 Non (.slice (some ⟨g, off, none⟩) xs.length cap) ys := by
      refine .inr ⟨g, off, cap, _, by rw [hysl], ⟨hheap, ho.ge, ho.nF, by omega, hmx, by rw [hps, hz]; omega, ?_⟩⟩
      have e1 : (((Sort.putCells (Value.int .i64) off ys.toArray cur).toList.drop off).take (ys.length * sz Int)) = ys.map fun x => Value.int .i64 x := by
        rw [hz, Nat.mul_one]
        refine List.ext_getElem? fun j => ?_
        by_cases hj : j < xs.length
        · rw [List.getElem?_take_of_lt (by omega), List.getElem?_drop, Array.getElem?_toList, Sort.putCells, Array.getElem?_mapIdx, hcell j hj, List.getElem?_map, List.getElem?_eq_getElem (by omega)]
          simp [show j < ys.length by omega, show off + j < off + ys.length by omega]
        · rw [List.getElem?_eq_none (by simp; omega), List.getElem?_eq_none (by simp; omega)]
      rw [e1]
      exact elems_ints _ _ _
    have hg2 : w.grownBy w2 (some g) := ⟨hE.os.trans hos, hE.tape.trans htp, hE.output.trans hou, Nat.le_trans (by omega) hE.size, fun k hk hne => (hE.block k (by omega)).trans (hother k (fun e => hne (by rw [e])))⟩
    exact ⟨_, rfl, rfl, ho1.extN hE, hg2⟩
end Go.Proofs.YtllpfgcngokhnaaGreat

