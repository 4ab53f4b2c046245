import Derived.DeepKeys4
import Derived.Maps.Keyed
import Derived.Test.YtbphcblopoegcaaPtLabelTwins12
/-
  Package label: eu, eg, au: walked.
-/
set_option linter.unusedVariables false
set_option linter.unusedSimpArgs false
namespace Go.Proofs.Ytbphcblopoegcaa
open Go.RowKit

/- THE SEARCH, PLAIN -/
def unm (out : List Bool) : Nat := out.countP fun b => !b
theorem unm_set {out : List Bool} {k : Nat} (hk : k < out.length) (h : out.getD k false = false) : unm (out.set k true) + 1 = unm out := by
  have hv : out[k] = false := by rw [← wgetB hk]; exact h
  unfold unm
  rw [List.countP_set hk, hv]
  have : 0 < out.countP fun b => !b := List.countP_pos_iff.2 ⟨false, hv ▸ List.getElem_mem _, rfl⟩
  simp only [Bool.not_false, Bool.not_true, if_true, Bool.false_eq_true, if_false]
  omega
theorem turnE_mem {nx : Graph} {c k : Nat} : (k : Int) ∈ (turnL nx).getD c [] ↔ c < nx.length ∧ Eg nx k c := by
  by_cases hc : c < nx.length
  · have hc' : c < (turnL nx).length := by rw [turnL_len]; exact hc
    rw [wgetDG hc', turnL_row hc', List.mem_map]
    constructor
    · rintro ⟨x, hx, e⟩
      obtain rfl : x = k := by omega
      obtain ⟨h1, h2⟩ := List.mem_filter.1 hx
      exact ⟨hc, by unfold Eg; simpa using h2⟩
    · rintro ⟨_, h⟩
      refine ⟨k, List.mem_filter.2 ⟨List.mem_range.2 h.lt1, ?_⟩, rfl⟩
      unfold Eg at h; simpa using h
  · constructor
    · intro h
      rw [List.getD_eq_getElem?_getD, List.getElem?_eq_none (by rw [turnL_len]; omega)] at h
      cases h
    · exact fun h => absurd h.1 hc
structure EuI (nx : Graph) (A B : Nat → Prop) (out : List Bool) (todo : List Int) (cur : Option (Nat × Nat)) : Prop where
  len : out.length = nx.length
  td : ∀ x ∈ todo, 0 ≤ x ∧ x < nx.length ∧ out.getD x.toNat false = true
  snd : ∀ c, c < nx.length → out.getD c false = true → EuP (Eg nx) A B c
  bas : ∀ c, c < nx.length → B c → out.getD c false = true
  cls : ∀ c, c < nx.length → out.getD c false = true → (c : Int) ∈ todo ∨ (∀ k, Eg nx k c → A k → out.getD k false = true) ∨ ∃ j, cur = some (c, j) ∧ ∀ k : Nat, (k : Int) ∈ ((turnL nx).getD c []).take j → A k → out.getD k false = true
  cnt : todo.length + unm out ≤ nx.length
section
variable {nx : Graph} {A B : Nat → Prop} {out : List Bool} {todo : List Int}
theorem EuI.done (hok : okG nx) (h : EuI nx A B out [] none) : out = boolsN nx.length (EuP (Eg nx) A B) := by
  refine boolsN_of h.len fun c hc => ⟨h.snd c hc, fun hu => ?_⟩
  induction hu with
  | here hb => exact h.bas _ hc hb
  | @step n m h1 h2 h3 ih =>
    have hm := h2.lt hok
    rcases h.cls m hm (ih hm) with h4 | h4 | ⟨j, h4, _⟩
    · cases h4
    · exact h4 n h2 h1
    · cases h4
theorem EuI.pop {c : Nat} {r : List Int} (h : EuI nx A B out ((c : Int) :: r) none) : EuI nx A B out r (some (c, 0)) := by
  refine ⟨h.len, fun x hx => h.td x (by simp [hx]), h.snd, h.bas, fun c' hc' ho => ?_, by have := h.cnt; simp at this; omega⟩
  rcases h.cls c' hc' ho with h4 | h4 | ⟨j, h4, _⟩
  · rcases List.mem_cons.1 h4 with h4 | h4
    · exact .inr (.inr ⟨0, by rw [show c' = c by omega], fun k hk => by simp at hk⟩)
    · exact .inl h4
  · exact .inr (.inl h4)
  · cases h4
theorem EuI.rowEnd {c j : Nat} (h : EuI nx A B out todo (some (c, j))) (hj : ((turnL nx).getD c []).length ≤ j) : EuI nx A B out todo none := by
  refine ⟨h.len, h.td, h.snd, h.bas, fun c' hc' ho => ?_, h.cnt⟩
  rcases h.cls c' hc' ho with h4 | h4 | ⟨j', h4, h5⟩
  · exact .inl h4
  · exact .inr (.inl h4)
  · obtain ⟨rfl, rfl⟩ := Prod.mk.inj (Option.some.inj h4)
    rw [List.take_of_length_le hj] at h5
    exact .inr (.inl fun k hk ha => h5 k (turnE_mem.2 ⟨hc', hk⟩) ha)
theorem EuI.skip {c j k : Nat} (h : EuI nx A B out todo (some (c, j))) (hj : j < ((turnL nx).getD c []).length) (hk : ((turnL nx).getD c [])[j] = (k : Int)) (ha : A k → out.getD k false = true) : EuI nx A B out todo (some (c, j + 1)) := by
  refine ⟨h.len, h.td, h.snd, h.bas, fun c' hc' ho => ?_, h.cnt⟩
  rcases h.cls c' hc' ho with h4 | h4 | ⟨j', h4, h5⟩
  · exact .inl h4
  · exact .inr (.inl h4)
  · obtain ⟨rfl, rfl⟩ := Prod.mk.inj (Option.some.inj h4)
    refine .inr (.inr ⟨j + 1, rfl, fun k' hk' ha' => ?_⟩)
    rw [List.take_add_one, List.getElem?_eq_getElem hj, hk] at hk'
    rcases List.mem_append.1 hk' with hk' | hk'
    · exact h5 k' hk' ha'
    · have : k' = k := by have := List.mem_singleton.1 hk'; omega
      subst this; exact ha ha'
theorem EuI.mark {c j k : Nat} (hc : c < nx.length) (ho : out.getD c false = true) (h : EuI nx A B out todo (some (c, j))) (hj : j < ((turnL nx).getD c []).length) (hk : ((turnL nx).getD c [])[j] = (k : Int)) (ha : A k) (hu : out.getD k false = false) :
    EuI nx A B (out.set k true) (todo ++ [(k : Int)]) (some (c, j + 1)) ∧ k < nx.length := by
  have hin : (k : Int) ∈ (turnL nx).getD c [] := hk ▸ List.getElem_mem hj
  obtain ⟨_, he⟩ := turnE_mem.1 hin
  have hkn := he.lt1
  have hg : ∀ i, (out.set k true).getD i false = if k = i then true else out.getD i false := fun i => getD_set (by rw [h.len]; exact hkn)
  have up : ∀ i, out.getD i false = true → (out.set k true).getD i false = true := fun i hi => by rw [hg]; split; rfl; exact hi
  refine ⟨⟨by simp [h.len], fun x hx => ?_, fun i hi hoi => ?_, fun i hi hb => up i (h.bas i hi hb), fun i hi hoi => ?_, ?_⟩, hkn⟩
  · rcases List.mem_append.1 hx with hx | hx
    · obtain ⟨h1, h2, h3⟩ := h.td x hx
      exact ⟨h1, h2, up _ h3⟩
    · rw [List.mem_singleton] at hx; subst hx
      exact ⟨by omega, by omega, by rw [hg]; simp⟩
  · rw [hg] at hoi
    split at hoi
    · rename_i e; subst e; exact .step ha he (h.snd c hc ho)
    · exact h.snd i hi hoi
  · rw [hg] at hoi
    split at hoi
    · rename_i e; subst e; exact .inl (List.mem_append_right _ (by simp))
    · rcases h.cls i hi hoi with h4 | h4 | ⟨j', h4, h5⟩
      · exact .inl (List.mem_append_left _ h4)
      · exact .inr (.inl fun q hq hq2 => up q (h4 q hq hq2))
      · obtain ⟨rfl, rfl⟩ := Prod.mk.inj (Option.some.inj h4)
        refine .inr (.inr ⟨j + 1, rfl, fun k' hk' ha' => ?_⟩)
        rw [List.take_add_one, List.getElem?_eq_getElem hj, hk] at hk'
        rcases List.mem_append.1 hk' with hk' | hk'
        · exact up _ (h5 k' hk' ha')
        · have : k' = k := by have := List.mem_singleton.1 hk'; omega
          subst this; rw [hg]; simp
  · have := unm_set (out := out) (by rw [h.len]; exact hkn) hu
    have := h.cnt
    rw [List.length_append]; simp; omega
end
/-- the marked ones of the first i -/
def trueL (out : List Bool) (i : Nat) : List Int := ((List.range i).filter fun c => out.getD c false).map fun c : Nat => (c : Int)
theorem trueL_next {out : List Bool} {i : Nat} : trueL out (i + 1) = trueL out i ++ if out.getD i false = true then [(i : Int)] else [] := by
  unfold trueL
  rw [List.range_succ, List.filter_append, List.map_append]
  congr 1
  cases h : out.getD i false with
  | false => rw [List.filter_cons_of_neg (by rw [h]; decide)]; rfl
  | true => rw [List.filter_cons_of_pos (by rw [h])]; rfl
theorem trueL_mem {out : List Bool} {i c : Nat} : (c : Int) ∈ trueL out i ↔ c < i ∧ out.getD c false = true := by
  unfold trueL
  rw [List.mem_map]
  constructor
  · rintro ⟨x, hx, e⟩
    obtain rfl : x = c := by omega
    obtain ⟨h1, h2⟩ := List.mem_filter.1 hx
    exact ⟨List.mem_range.1 h1, h2⟩
  · rintro ⟨h1, h2⟩
    exact ⟨c, List.mem_filter.2 ⟨List.mem_range.2 h1, h2⟩, rfl⟩
theorem trueL_len {out : List Bool} : ∀ i, i ≤ out.length → (trueL out i).length + (out.take i).countP (fun b => !b) = i
  | 0, _ => by simp [trueL]
  | i + 1, h => by
    have hi : i < out.length := by omega
    have ih := trueL_len (out := out) i (by omega)
    rw [trueL_next, List.length_append, List.take_add_one, List.getElem?_eq_getElem hi, List.countP_append, wgetB hi]
    cases hb : out[i] <;> simp <;> omega
theorem EuI.start {nx : Graph} {A B : Nat → Prop} : EuI nx A B (boolsN nx.length B) (trueL (boolsN nx.length B) nx.length) none := by
  refine ⟨boolsN_len, fun x hx => ?_, fun c hc h => .here ((boolsN_iff hc).1 h), fun c hc h => (boolsN_iff hc).2 h, fun c hc h => .inl (trueL_mem.2 ⟨hc, h⟩), ?_⟩
  · obtain ⟨c, hc, rfl⟩ : ∃ c : Nat, c < nx.length ∧ x = (c : Int) := by
      unfold trueL at hx
      obtain ⟨c, hc, rfl⟩ := List.mem_map.1 hx
      exact ⟨c, List.mem_range.1 (List.mem_filter.1 hc).1, rfl⟩
    exact ⟨by omega, by omega, (trueL_mem.1 hx).2⟩
  · have := trueL_len (out := boolsN nx.length B) nx.length (by rw [boolsN_len]; exact Nat.le_refl _)
    rw [List.take_of_length_le (by rw [boolsN_len]; exact Nat.le_refl _)] at this
    unfold unm; omega

set_option maxHeartbeats 1000000 in
theorem leu_ok (w0 : World) {b : Nat} {nx fr : Graph} {lb : List Nat} (hL : LabAt w0 b nx lb fr) (hok : okG nx) (hn : nx.length ≤ 600) {ao bo : Option Addr} {ac bc : Nat} {P Q : Nat → Prop} (ha : Sl w0 (Old w0) ao ac (boolsN nx.length P)) (hb : Sl w0 (Old w0) bo bc (boolsN nx.length Q)) :
    Rt Try.prog 154 [labP b, .slice ao (boolsN nx.length P).length ac, .slice bo (boolsN nx.length Q).length bc].toArray w0 fun v w' => Own w' w0.heap.size 4 Non v (boolsN nx.length (euP nx fr P Q)) ∧ Ext w0 w' := by
  have hL0 := hL
  obtain ⟨a1, c1, n1, a2, c2, a3, c3, a4, c4, fo, fc, ro, rc, hlb, h2, h3, h4, h5, h6⟩ := hL
  refine Rt.enter3 Try.func154 Try.ntmps154 rfl rfl ?_
  (repeat (first | (apply WL.pure; rfl; rfl; rfl) | (apply WL.nil) | (apply EX.thenN) | (apply CW.seq) | (apply CW.region) | (apply WL.fa; rfl; rfl; rfl) | (apply WL.nck; rfl; rfl; rfl) | (apply WL.ld; rfl; rfl; rfl; assumption; rfl)))
  refine WL.call rfl rfl rfl (lboth_ok w0 hL0 hn hb h5) ?_
  rintro _ w1 ⟨ho, e1⟩
  rename_i ov
  have hov : ∃ oo oc, ov = .slice oo nx.length oc := by
    obtain ⟨oo, oc, e⟩ := ho.val
    rw [boolsN_len] at e; exact ⟨oo, oc, e⟩
  obtain ⟨oo, oc, rfl⟩ := hov
  (repeat (first | (apply WL.pure; rfl; rfl; rfl) | (apply WL.nil) | (apply EX.thenN) | (apply CW.seq) | (apply CW.region) | (apply WL.lenS; rfl; rfl; rfl) | (apply CW.block)))
  refine CW.loop (S := Nat × Value) (fun s => [(0, labP b), (1, .slice ao (boolsN nx.length P).length ac), (7, .slice oo nx.length oc), (8, s.2), (21, .slice oo nx.length oc), (22, .int .i64 nx.length), (23, .int .i64 s.1)])
    (fun s w => s.1 ≤ nx.length ∧ Own w w0.heap.size 4 Non (.slice oo nx.length oc) (boolsN nx.length fun i => Q i ∧ fairP nx fr i) ∧ Own w w0.heap.size 3 Non s.2 (trueL (boolsN nx.length fun i => Q i ∧ fairP nx fr i) s.1) ∧ (∀ g, s.2.ownBlock = some g → Value.ownBlock (.slice oo nx.length oc) ≠ some g) ∧ Ext w0 w)
    (fun s => nx.length - s.1) (0, .slice none 0 0) (by repeat (first | exact trivial | refine ⟨rfl, ?_⟩)) ⟨Nat.zero_le _, ho, Own.nil, (fun g hg => by cases hg), e1⟩ ?_
  · clear ho e1
    rintro ⟨i, tv⟩ w2 ⟨hi, ho, ht, hd, e2⟩
    dsimp only at hi ho ht hd e2 ⊢
    have hle := trueL_len (out := boolsN nx.length fun i => Q i ∧ fairP nx fr i) i (by rw [boolsN_len]; exact hi)
    (repeat (first | (apply WL.pure; rfl; rfl; rfl) | (apply WL.nil) | (apply EX.thenN) | (apply CW.seq) | (apply CW.region)))
    refine CW.cond rfl (fun h => ?_) (fun h => ?_)
    · have hi' : i < nx.length := by simp at h; omega
      have hix : i < (boolsN nx.length fun i => Q i ∧ fairP nx fr i).length := by rw [boolsN_len]; exact hi'
      have hnx := trueL_next (out := boolsN nx.length fun i => Q i ∧ fairP nx fr i) (i := i)
      (repeat (first | (apply WL.pure; rfl; rfl; rfl) | (apply EX.thenN) | (apply CW.seq) | (apply CW.region) | (apply CW.block) | (apply CW.skip)))
      refine WL.elemON (i := i) rfl rfl rfl rfl rfl ho hix (fun _ => rfl) (fun u q hu => ?_)
      rw [hu.bool, ← wgetB hix]
      clear hu
      generalize (boolsN nx.length fun i => Q i ∧ fairP nx fr i).getD i false = c at *
      cases c with
      | false =>
        rw [if_neg (by decide), List.append_nil] at hnx
        rw [← hnx] at ht
        (repeat (first | (apply WL.add; rfl; rfl; rfl; rfl; omega; omega) | (apply WL.pure; rfl; rfl; rfl) | (apply WL.nil) | (apply EX.thenN) | (apply CW.seq) | (apply CW.region) | (apply EX.inN) | (apply CW.condF; rfl) | (apply CW.skip)))
        exact EX.back (i + 1, tv) (by repeat (first | exact trivial | refine ⟨rfl, ?_⟩)) ⟨hi', ho, ht, hd, e2⟩ (by dsimp only; omega)
      | true =>
        rw [if_pos rfl] at hnx
        (repeat (first | (apply WL.pure; rfl; rfl; rfl) | (apply WL.nil) | (apply EX.thenN) | (apply CW.seq) | (apply CW.region) | (apply CW.condT; rfl)))
        refine WL.app1 (α := Int) (F := Non) (bytes := 8) rfl rfl (fun _ => rfl) rfl rfl (fun _ => rfl) ht (Rd.mkInt _ _ _) e2.size (fun _ h => h.elim) (by decide) (by unfold maxLen; omega) (by omega) (fun tv' w3 q ht3 hg3 hnb3 => ?_)
        rw [← hnx] at ht3
        (repeat (first | (apply WL.add; rfl; rfl; rfl; rfl; omega; omega) | (apply WL.pure; rfl; rfl; rfl) | (apply WL.nil) | (apply EX.thenN) | (apply CW.region) | (apply EX.inN)))
        exact EX.back (i + 1, tv') (by repeat (first | exact trivial | refine ⟨rfl, ?_⟩)) ⟨hi', ho.keptN hg3 (fun g hg e => hd g e.symm hg), ht3, fun g hg e => by
          rcases hnb3 g hg with h | h
          · exact hd g h e
          · have := (ho.lt g e).2.1; omega, e2.grown hg3 e2.size (fun g hg => (ht.lt g hg).1)⟩ (by dsimp only; omega)
    obtain rfl : i = nx.length := by simp at h; omega
    have hI0 : EuI nx P (fun i => Q i ∧ fairP nx fr i) _ _ none := EuI.start
    generalize trueL (boolsN nx.length fun i => Q i ∧ fairP nx fr i) nx.length = todo at *
    generalize (boolsN nx.length fun i => Q i ∧ fairP nx fr i) = out at *
    (repeat (first | (apply EX.thenN) | (apply CW.seq) | (apply CW.block) | (apply CW.exit) | (apply EX.thenX) | (apply EX.inX)))
    refine CW.loop (S := List Bool × Value × List Int) (fun s => [(0, labP b), (1, .slice ao (boolsN nx.length P).length ac), (7, .slice oo nx.length oc), (8, s.2.1)])
      (fun s w => EuI nx P (fun i => Q i ∧ fairP nx fr i) s.1 s.2.2 none ∧ Own w w0.heap.size 4 Non (.slice oo nx.length oc) s.1 ∧ Own w w0.heap.size 3 Non s.2.1 s.2.2 ∧ (∀ g, s.2.1.ownBlock = some g → Value.ownBlock (.slice oo nx.length oc) ≠ some g) ∧ Ext w0 w)
      (fun s => s.2.2.length + 2 * unm s.1) (out, tv, todo) (by repeat (first | exact trivial | refine ⟨rfl, ?_⟩)) ⟨hI0, ho, ht, hd, e2⟩ ?_
    clear hI0 ho ht hd e2 hle h tv
    rintro ⟨out, tv, todo⟩ w2 ⟨hI, ho, ht, hd, e2⟩
    dsimp only at hI ho ht hd e2 ⊢
    (repeat (first | (apply WL.pure; rfl; rfl; rfl) | (apply WL.nil) | (apply EX.thenN) | (apply CW.seq) | (apply CW.region) | (refine WL.lenO rfl rfl rfl (by assumption) ?_)))
    refine CW.cond rfl (fun h => ?_) (fun h => ?_)
    · have ht0 : 0 < todo.length := by simpa using h
      obtain ⟨x, r, rfl⟩ : ∃ x r, todo = x :: r := by
        cases todo with
        | nil => simp at ht0
        | cons x r => exact ⟨x, r, rfl⟩
      obtain ⟨hx0, hxn, hxo⟩ := hI.td x (by simp)
      obtain ⟨c, rfl⟩ : ∃ c : Nat, x = (c : Int) := ⟨x.toNat, by omega⟩
      rw [Int.toNat_natCast] at hxo
      have hc : c < nx.length := by omega
      have hct : c < (turnL nx).length := by rw [turnL_len]; exact hc
      have hb2 := hlb.ext e2
      have hrows := h6.at e2
      (repeat (first | (apply WL.pure; rfl; rfl; rfl) | (apply EX.thenN) | (apply CW.seq) | (apply CW.region) | (apply CW.block) | (apply CW.skip)))
      refine WL.elemON (i := 0) rfl rfl rfl rfl rfl ht (by simp) (fun _ => rfl) (fun u q hu => ?_)
      rw [hu.int]
      simp only [List.getElem_cons_zero]
      (repeat (first | (apply WL.pure; rfl; rfl; rfl) | (apply WL.nil) | (apply EX.thenN) | (apply CW.seq) | (apply CW.region)))
      refine WL.cutLoO (α := Int) 1 rfl rfl rfl rfl rfl ht (by simp) (fun tv2 ht2 hnb => ?_)
      rw [List.drop_one, List.tail_cons] at ht2
      (repeat (first | (apply WL.pure; rfl; rfl; rfl) | (apply WL.nil) | (apply EX.thenN) | (apply CW.seq) | (apply CW.region) | (apply WL.fa; rfl; rfl; rfl) | (apply WL.nck; rfl; rfl; rfl) | (apply WL.ld; rfl; rfl; rfl; assumption; rfl)))
      refine WL.elemN (i := c) rfl rfl rfl rfl rfl hrows hct (fun _ => rfl) (fun u2 q2 hu2 => ?_)
      obtain ⟨po, pc, rfl, hp⟩ := hu2.sl
      have hpl := hp.len63
      have hgr : (turnL nx)[c] = (turnL nx).getD c [] := (wgetDG hct).symm
      rw [hgr] at hp hpl ⊢
      clear ht ht0 hu hu2 hgr hrows hb2
      (repeat (first | (apply WL.pure; rfl; rfl; rfl) | (apply WL.nil) | (apply EX.thenN) | (apply WL.lenS; rfl; rfl; rfl) | (apply CW.block)))
      refine CW.loop (S := Nat × List Bool × Value × List Int) (fun s => [(0, labP b), (1, .slice ao (boolsN nx.length P).length ac), (7, .slice oo nx.length oc), (8, s.2.2.1), (48, .slice po ((turnL nx).getD c []).length pc), (49, .int .i64 ((turnL nx).getD c []).length), (50, .int .i64 s.1)])
        (fun s w => s.1 ≤ ((turnL nx).getD c []).length ∧ EuI nx P (fun i => Q i ∧ fairP nx fr i) s.2.1 s.2.2.2 (some (c, s.1)) ∧ s.2.1.getD c false = true ∧ Own w w0.heap.size 4 Non (.slice oo nx.length oc) s.2.1 ∧ Own w w0.heap.size 3 Non s.2.2.1 s.2.2.2 ∧ (∀ g, s.2.2.1.ownBlock = some g → Value.ownBlock (.slice oo nx.length oc) ≠ some g) ∧ Ext w0 w ∧ s.2.2.2.length + 2 * unm s.2.1 + 1 ≤ ((c : Int) :: r).length + 2 * unm out)
        (fun s => ((turnL nx).getD c []).length - s.1) (0, out, tv2, r) (by repeat (first | exact trivial | refine ⟨rfl, ?_⟩)) ⟨Nat.zero_le _, hI.pop, hxo, ho, ht2, (fun g hg => hd g (hnb ▸ hg)), e2, by simp only [List.length_cons]; omega⟩ ?_
      clear hI ho ht2 hd hxo hnb
      rintro ⟨j, o2, tv3, t2⟩ w3 ⟨hj, hI, hco, ho, ht, hd, e3, hmu⟩
      dsimp only at hj hI hco ho ht hd e3 hmu ⊢
      (repeat (first | (apply WL.pure; rfl; rfl; rfl) | (apply WL.nil) | (apply EX.thenN) | (apply CW.seq) | (apply CW.region)))
      refine CW.cond rfl (fun h => ?_) (fun h => ?_)
      · have hj' : j < ((turnL nx).getD c []).length := by simp only [decide_eq_true_eq] at h; omega
        obtain ⟨k, hk⟩ : ∃ k : Nat, ((turnL nx).getD c [])[j] = (k : Int) := ⟨(((turnL nx).getD c [])[j]).toNat, by
          have := okG_row (turnL_ok nx) c _ (List.getElem_mem hj'); omega⟩
        have hkn : k < nx.length := by
          have := okG_row (turnL_ok nx) c _ (List.getElem_mem hj')
          rw [turnL_len] at this; omega
        have hp3 : Sl w3 (Old w0) po pc ((turnL nx).getD c []) := hp.mono (fun b hb => (e3.block b hb).trans (e2.block b hb).symm) (fun _ h => h)
        have haa := ha.up e3
        have bP := boolsN_iff (P := P) hkn
        have hko : k < o2.length := by rw [hI.len]; exact hkn
        (repeat (first | (apply EX.thenN) | (apply CW.seq) | (apply CW.region) | (apply CW.block) | (apply CW.skip)))
        refine WL.elemI rfl rfl rfl rfl rfl hp3 hj' hk (fun _ => rfl) (fun q => ?_)
        (repeat (first | (apply WL.pure; rfl; rfl; rfl) | (apply WL.nil) | (apply EX.thenN) | (apply CW.seq) | (apply CW.region)))
        refine WL.elemB rfl rfl rfl rfl rfl haa (show k < _ by rw [boolsN_len]; exact hkn) (wgetB _).symm (fun _ => rfl) (fun q2 => ?_)
        generalize (boolsN nx.length P).getD k false = pk at *
        cases pk with
        | false =>
          (repeat (first | (apply WL.add; rfl; rfl; rfl; rfl; omega; omega) | (apply WL.pure; rfl; rfl; rfl) | (apply WL.nil) | (apply EX.thenN) | (apply CW.region) | (apply WL.pass; rfl; rfl) | (apply EX.inN) | (apply CW.condF; rfl) | (apply CW.skip)))
          exact EX.back (j + 1, o2, tv3, t2) (by repeat (first | exact trivial | refine ⟨rfl, ?_⟩)) ⟨hj', hI.skip hj' hk (fun h => by have := bP.2 h; cases this), hco, ho, ht, hd, e3, hmu⟩ (by dsimp only; omega)
        | true =>
          (repeat (apply WL.pure; rfl; rfl; rfl))
          refine WL.elemON (i := k) rfl rfl rfl rfl rfl ho hko (fun _ => rfl) (fun u q3 hu => ?_)
          rw [hu.bool, ← wgetB hko]
          cases hok2 : o2.getD k false with
          | true =>
            (repeat (first | (apply WL.add; rfl; rfl; rfl; rfl; omega; omega) | (apply WL.pure; rfl; rfl; rfl) | (apply WL.nil) | (apply EX.thenN) | (apply CW.region) | (apply EX.inN) | (apply CW.condF; rfl) | (apply CW.skip)))
            exact EX.back (j + 1, o2, tv3, t2) (by repeat (first | exact trivial | refine ⟨rfl, ?_⟩)) ⟨hj', hI.skip hj' hk (fun _ => hok2), hco, ho, ht, hd, e3, hmu⟩ (by dsimp only; omega)
          | false =>
            obtain ⟨hI4, _⟩ := hI.mark hc hco hj' hk (bP.1 rfl) hok2
            have hu4 := unm_set hko hok2
            have hcnt := hI4.cnt
            have hcnt' := hI.cnt
            (repeat (first | (apply WL.pure; rfl; rfl; rfl) | (apply WL.nil) | (apply EX.thenN) | (apply CW.seq) | (apply CW.region) | (apply CW.condT; rfl)))
            refine WL.setN (u := .bool true) (yv := true) rfl rfl rfl rfl ho hko (fun _ => rfl) (fun _ => rfl) (Rd.mkBool _ _ _) (fun w4 q4 ho4 hg4 => ?_)
            have e4 : Ext w0 w4 := e3.grown hg4 e3.size (fun g hg => (ho.lt g hg).1)
            have ht4 := ht.keptN hg4 (fun g hg e => hd g hg e.symm)
            (repeat (first | (apply WL.pure; rfl; rfl; rfl) | (apply WL.nil) | (apply EX.thenN) | (apply CW.region)))
            refine WL.app1 (α := Int) (F := Non) (bytes := 8) rfl rfl (fun _ => rfl) rfl rfl (fun _ => rfl) ht4 (Rd.mkInt _ _ _) e4.size (fun _ h => h.elim) (by decide) (by unfold maxLen; omega) (by omega) (fun tv' w5 q5 ht5 hg5 hnb5 => ?_)
            (repeat (first | (apply WL.add; rfl; rfl; rfl; rfl; omega; omega) | (apply WL.pure; rfl; rfl; rfl) | (apply WL.nil) | (apply EX.thenN) | (apply CW.region) | (apply EX.inN)))
            refine EX.back (j + 1, o2.set k true, tv', t2 ++ [(k : Int)]) (by repeat (first | exact trivial | refine ⟨rfl, ?_⟩)) ⟨hj', hI4, ?_, ho4.keptN hg5 (fun g hg e => hd g e.symm hg), ht5, fun g hg e => ?_, e4.grown hg5 e4.size (fun g hg => (ht4.lt g hg).1), ?_⟩ (by dsimp only; omega)
            · dsimp only; rw [getD_set hko]; split; rfl; exact hco
            · rcases hnb5 g hg with h | h
              · exact hd g h e
              · have := (ho4.lt g e).2.1; omega
            · dsimp only; rw [List.length_append]; simp only [List.length_cons, List.length_nil] at hmu ⊢; omega
      · have hj' : ((turnL nx).getD c []).length ≤ j := by simp only [decide_eq_false_iff_not] at h; omega
        (repeat (first | (apply EX.inN) | (apply CW.exit) | (apply EX.thenX) | (apply EX.inX)))
        exact EX.back (o2, tv3, t2) (by repeat (first | exact trivial | refine ⟨rfl, ?_⟩)) ⟨hI.rowEnd hj', ho, ht, hd, e3⟩ (by dsimp only; simp only [List.length_cons] at hmu ⊢; omega)
    · have ht0 : todo = [] := List.eq_nil_of_length_eq_zero (by simpa using h)
      subst ht0
      rw [hI.done hok] at ho
      (repeat (first | (apply WL.pure; rfl; rfl; rfl) | (apply WL.nil) | (apply EX.thenN) | (apply CW.seq) | (apply CW.region) | (apply CW.exit) | (apply EX.thenX) | (apply EX.inX) | (apply CW.ret)))
      exact EX.ret1 rfl rfl ⟨ho, e2⟩
theorem leg_ok (w0 : World) {b : Nat} {nx fr : Graph} {lb : List Nat} (hL : LabAt w0 b nx lb fr) (hW : WOk nx fr) {ao : Option Addr} {ac : Nat} {P : Nat → Prop} (ha : Sl w0 (Old w0) ao ac (boolsN nx.length P)) :
    Rt Try.prog 155 [labP b, .slice ao (boolsN nx.length P).length ac].toArray w0 fun v w' => Own w' w0.heap.size 4 Non v (boolsN nx.length (egP nx fr P)) ∧ Ext w0 w' := by
  obtain ⟨a1, c1, n1, a2, c2, a3, c3, a4, c4, fo, fc, ro, rc, hlb, h2, h3, h4, h5, h6⟩ := hL
  refine Rt.enter2 Try.func155 Try.ntmps155 rfl rfl ?_
  (repeat (first | (apply WL.pure; rfl; rfl; rfl) | (apply WL.nil) | (apply EX.thenN) | (apply CW.seq) | (apply CW.region) | (apply WL.fa; rfl; rfl; rfl) | (apply WL.nck; rfl; rfl; rfl) | (apply WL.ldA; rfl; rfl; rfl; assumption; rfl)))
  refine WL.call rfl rfl rfl (Within_ok w0 (inn := boolsN nx.length P) (n1 := n1) (a1 := a1) (c1 := c1) h2 h4 ha hW.g hW.f boolsN_len hW.n hW.e) ?_
  rintro _ w1 ⟨ho, e1⟩
  rw [within_egP hW.g] at ho
  (repeat (first | (apply WL.pure; rfl; rfl; rfl) | (apply WL.nil) | (apply EX.thenN) | (apply CW.ret)))
  exact EX.ret1 rfl rfl ⟨ho, e1⟩
theorem or_orB {c d : Bool} {P Q : Prop} (h : c = true ↔ P) (k : d = true ↔ Q) : (c || d) = true ↔ P ∨ Q := by
  rw [← h, ← k]; cases c <;> cases d <;> simp
theorem Own.asSl {w : World} {B : Nat} {e : TypeId} {v : Value} {xs : List Bool} (h : Own w B e Non v xs) : ∃ ao cap, v = .slice ao xs.length cap ∧ Sl w (Old w) ao cap xs := h.oldN.sl
set_option maxHeartbeats 1000000 in
theorem lau_ok (w0 : World) {b : Nat} {nx fr : Graph} {lb : List Nat} (hL : LabAt w0 b nx lb fr) (hW : WOk nx fr) {ao bo : Option Addr} {ac bc : Nat} {P Q : Nat → Prop} (ha : Sl w0 (Old w0) ao ac (boolsN nx.length P)) (hb : Sl w0 (Old w0) bo bc (boolsN nx.length Q)) :
    Rt Try.prog 156 [labP b, .slice ao (boolsN nx.length P).length ac, .slice bo (boolsN nx.length Q).length bc].toArray w0 fun v w' => Own w' w0.heap.size 4 Non v (boolsN nx.length (auP nx fr P Q)) ∧ Ext w0 w' := by
  have hn := hW.n
  refine Rt.enter3 Try.func156 Try.ntmps156 rfl rfl ?_
  (repeat (first | (apply WL.pure; rfl; rfl; rfl) | (apply WL.nil) | (apply EX.thenN) | (apply CW.seq) | (apply CW.region)))
  refine WL.call rfl rfl rfl (lnot_ok w0 hL hn hb) ?_
  rintro _ w1 ⟨hxo, e1⟩
  obtain ⟨xo, xc, rfl, hx⟩ := hxo.asSl
  (repeat (apply WL.pure; rfl; rfl; rfl))
  refine WL.call rfl rfl rfl (lnot_ok w1 (hL.up e1) hn (ha.up e1)) ?_
  rintro _ w2 ⟨hyo, e2⟩
  obtain ⟨yo, yc, rfl, hy⟩ := hyo.asSl
  have hE := e1.trans e2
  (repeat (apply WL.pure; rfl; rfl; rfl))
  refine WL.call rfl rfl rfl (lnot_ok w2 (hL.up hE) hn (hb.up hE)) ?_
  rintro _ w3 ⟨hzo, e3⟩
  obtain ⟨zo, zc, rfl, hz⟩ := hzo.asSl
  have hE := hE.trans e3
  skip
  refine WL.call rfl rfl rfl (lboth_ok w3 (hL.up hE) hn (hy.up e3) hz) ?_
  rintro _ w4 ⟨hvo, e4⟩
  obtain ⟨vo, vc, rfl, hv⟩ := hvo.asSl
  have hE4 := hE.trans e4
  skip
  refine WL.call rfl rfl rfl (leu_ok w4 (hL.up hE4) hW.g hn (hx.up (e2.trans (e3.trans e4))) hv) ?_
  rintro bv w5 ⟨ho, e5⟩
  have hE5 := hE4.trans e5
  have ho := ho.low (B' := w0.heap.size) hE4.size
  clear hx hy hz hv hxo hyo hzo hvo e1 e2 e3 e4 e5 hE hE4
  (repeat (first | (apply WL.pure; rfl; rfl; rfl) | (apply WL.nil) | (apply EX.thenN) | (apply CW.seq) | (apply CW.region)))
  refine WL.call rfl rfl rfl (lnot_ok w5 (hL.up hE5) hn (hb.up hE5)) ?_
  rintro _ w6 ⟨hxo, e6⟩
  obtain ⟨xo, xc, rfl, hx⟩ := hxo.asSl
  have hE6 := hE5.trans e6
  have ho := ho.extN e6
  have hl6 := fun g hg => (ho.lt g hg).2.1
  skip
  refine WL.call rfl rfl rfl (leg_ok w6 (hL.up hE6) hW hx) ?_
  rintro gv w7 ⟨hg, e7⟩
  have hE7 := hE6.trans e7
  have ho := ho.extN e7
  have hgx : ∃ go gc, gv = .slice go nx.length gc := by
    obtain ⟨go, gc, e⟩ := hg.val
    rw [boolsN_len] at e; exact ⟨go, gc, e⟩
  obtain ⟨go, gc, rfl⟩ := hgx
  have hdis : ∀ g, bv.ownBlock = some g → Value.ownBlock (.slice go nx.length gc) ≠ some g := fun g h1 h2 => by
    have := hl6 g h1; have := (hg.lt g h2).1; omega
  have hg := hg.low (B' := w0.heap.size) hE6.size
  have hol : (boolsN nx.length (euP nx fr (fun i => ¬ Q i) fun i => ¬ P i ∧ ¬ Q i)).length = nx.length := boolsN_len
  have hob : ∀ c, c < nx.length → ((boolsN nx.length (euP nx fr (fun i => ¬ Q i) fun i => ¬ P i ∧ ¬ Q i)).getD c false = true ↔ euP nx fr (fun i => ¬ Q i) (fun i => ¬ P i ∧ ¬ Q i) c) := fun c hc => boolsN_iff hc
  generalize boolsN nx.length (euP nx fr (fun i => ¬ Q i) fun i => ¬ P i ∧ ¬ Q i) = out at *
  clear hl6 hx hxo e6 e7
  (repeat (first | (apply WL.pure; rfl; rfl; rfl) | (apply WL.nil) | (apply EX.thenN) | (apply WL.lenS; rfl; rfl; rfl) | (apply CW.block)))
  refine CW.loop (S := Nat × List Bool) (fun s => [(0, labP b), (7, bv), (27, .slice go nx.length gc), (28, .int .i64 nx.length), (29, .int .i64 s.1)])
    (fun s w => s.1 ≤ nx.length ∧ s.2.length = nx.length ∧ (∀ c, c < nx.length → (s.2.getD c false = true ↔ euP nx fr (fun i => ¬ Q i) (fun i => ¬ P i ∧ ¬ Q i) c ∨ (c < s.1 ∧ egP nx fr (fun i => ¬ Q i) c))) ∧ Own w w0.heap.size 4 Non bv s.2 ∧ Own w w0.heap.size 4 Non (.slice go nx.length gc) (boolsN nx.length (egP nx fr fun i => ¬ Q i)) ∧ Ext w0 w)
    (fun s => nx.length - s.1) (0, out) (by repeat (first | exact trivial | refine ⟨rfl, ?_⟩)) ⟨Nat.zero_le _, hol, fun c hc => by rw [hob c hc]; exact ⟨.inl, fun h => h.elim id (fun h => absurd h.1 (Nat.not_lt_zero _))⟩, ho, hg, hE7⟩ ?_
  clear hol hob ho hg hE7 hE6 hE5
  rintro ⟨i, o⟩ w8 ⟨hi, hol, hob, ho, hg, e8⟩
  dsimp only at hi hol hob ho hg e8 ⊢
  obtain ⟨oo, oc, hov⟩ := ho.val
  (repeat (first | (apply WL.pure; rfl; rfl; rfl) | (apply WL.nil) | (apply EX.thenN) | (apply CW.seq) | (apply CW.region)))
  refine CW.cond rfl (fun h => ?_) (fun h => ?_)
  · have hi' : i < nx.length := by simp at h; omega
    have hix : i < (boolsN nx.length (egP nx fr fun i => ¬ Q i)).length := by rw [boolsN_len]; exact hi'
    have hio : i < o.length := by omega
    have bG := boolsN_iff (P := egP nx fr fun i => ¬ Q i) hi'
    have bO := hob i hi'
    (repeat (first | (apply WL.pure; rfl; rfl; rfl) | (apply EX.thenN) | (apply CW.seq) | (apply CW.region) | (apply CW.block) | (apply CW.skip)))
    refine WL.elemON (i := i) rfl rfl rfl rfl rfl hg hix (fun _ => rfl) (fun u q hu => ?_)
    rw [hu.bool, ← wgetB hix]
    clear hu
    generalize (boolsN nx.length (egP nx fr fun i => ¬ Q i)).getD i false = gb at *
    (repeat (first | (apply WL.pure; rfl; rfl; rfl) | (apply WL.nil) | (apply EX.thenN) | (apply CW.region)))
    refine WL.elemON (i := i) rfl rfl rfl rfl rfl ho hio (fun _ => rfl) (fun u q2 hu => ?_)
    rw [hu.bool, ← wgetB hio]
    clear hu
    have fin : ∀ c : Bool, (c = true ↔ euP nx fr (fun i => ¬ Q i) (fun i => ¬ P i ∧ ¬ Q i) i ∨ egP nx fr (fun i => ¬ Q i) i) → ∀ k, k < nx.length → ((o.set i c).getD k false = true ↔ euP nx fr (fun i => ¬ Q i) (fun i => ¬ P i ∧ ¬ Q i) k ∨ (k < i + 1 ∧ egP nx fr (fun i => ¬ Q i) k)) := fun c hc k hk => by
      rw [getD_set hio]
      by_cases e : i = k
      · subst e; rw [if_pos rfl, hc]
        exact or_congr Iff.rfl ⟨fun h => ⟨Nat.lt_succ_self _, h⟩, fun h => h.2⟩
      · rw [if_neg e, hob k hk]
        exact or_congr Iff.rfl (and_congr (by omega) Iff.rfl)
    generalize o.getD i false = ob at *
    cases ob with
    | true =>
      (repeat (first | (apply WL.pure; rfl; rfl; rfl) | (apply WL.pass; rfl; rfl)))
      refine WL.setN (u := .bool true) (yv := true) rfl rfl rfl rfl ho hio (fun _ => rfl) (fun _ => rfl) (Rd.mkBool _ _ _) (fun w9 q4 ho4 hg4 => ?_)
      (repeat (first | (apply WL.add; rfl; rfl; rfl; rfl; omega; omega) | (apply WL.pure; rfl; rfl; rfl) | (apply WL.nil) | (apply EX.thenN) | (apply CW.region) | (apply EX.inN)))
      refine EX.back (i + 1, o.set i true) (by repeat (first | exact trivial | refine ⟨rfl, ?_⟩)) ⟨hi', by simpa using hol, fin true ⟨fun _ => (bO.1 rfl).imp id (fun h => h.2), fun _ => rfl⟩, ho4, hg.keptN hg4 (fun g h1 e => hdis g e.symm h1), e8.grown hg4 e8.size (fun g hg => (ho.lt g hg).1)⟩ (by dsimp only; omega)
    | false =>
      (repeat (apply WL.pure; rfl; rfl; rfl))
      refine WL.setN (u := .bool gb) (yv := gb) rfl rfl rfl rfl ho hio (fun _ => rfl) (fun _ => rfl) (Rd.mkBool _ _ _) (fun w9 q4 ho4 hg4 => ?_)
      (repeat (first | (apply WL.add; rfl; rfl; rfl; rfl; omega; omega) | (apply WL.pure; rfl; rfl; rfl) | (apply WL.nil) | (apply EX.thenN) | (apply CW.region) | (apply EX.inN)))
      refine EX.back (i + 1, o.set i gb) (by repeat (first | exact trivial | refine ⟨rfl, ?_⟩)) ⟨hi', by simpa using hol, fin gb ⟨fun h => .inr (bG.1 h), fun h => h.elim (fun h => by have := bO.2 (.inl h); cases this) (fun h => bG.2 h)⟩, ho4, hg.keptN hg4 (fun g h1 e => hdis g e.symm h1), e8.grown hg4 e8.size (fun g hg => (ho.lt g hg).1)⟩ (by dsimp only; omega)
  obtain rfl : i = nx.length := by simp at h; omega
  have hfin : o = boolsN nx.length fun c => euP nx fr (fun i => ¬ Q i) (fun i => ¬ P i ∧ ¬ Q i) c ∨ egP nx fr (fun i => ¬ Q i) c := boolsN_of hol fun c hc => by
    rw [hob c hc]
    exact or_congr Iff.rfl ⟨fun h => h.2, fun h => ⟨hc, h⟩⟩
  subst hfin
  obtain ⟨oo, oc, rfl, hos⟩ := ho.asSl
  (repeat (first | (apply WL.pure; rfl; rfl; rfl) | (apply EX.thenN) | (apply CW.seq) | (apply CW.region) | (apply CW.exit) | (apply EX.thenX) | (apply EX.inX)))
  refine WL.call rfl rfl rfl (lnot_ok w8 (hL.up e8) hn hos) ?_
  rintro _ w9 ⟨ho9, e9⟩
  (repeat (first | (apply WL.pure; rfl; rfl; rfl) | (apply WL.nil) | (apply EX.thenN) | (apply CW.ret)))
  exact EX.ret1 rfl rfl ⟨ho9.low e8.size, e8.trans e9⟩
end Go.Proofs.Ytbphcblopoegcaa
/-
  Lists of lists that grow: the outer row is owned, the inner ones stay as they are. Over any program.
-/
set_option linter.unusedVariables false
set_option linter.unusedSimpArgs false
namespace Go.Proofs.Ytbphcblopoegcaa
open Go.RowKit

/-- what nobody changes: all but the blocks of M -/
def Fz (w : World) (M : Nat → Prop) : Nat → Prop := fun b => b < w.heap.size ∧ ¬ M b
section
variable {α : Type} [Rep α]
theorem Fz.keep {w w' : World} {M M' : Nat → Prop} (hC : Chg M w w') (hM : ∀ b, M' b → M b ∨ w.heap.size ≤ b) : (∀ b, Fz w M b → w'.heap[b]? = w.heap[b]?) ∧ ∀ b, Fz w M b → Fz w' M' b :=
  ⟨fun b hb => hC.block b hb.1 hb.2, fun b hb => ⟨Nat.lt_of_lt_of_le hb.1 hC.size, fun h => (hM b h).elim hb.2 (fun h => absurd hb.1 (by omega))⟩⟩
theorem Rd.fz {w w' : World} {M M' : Nat → Prop} {v : Value} {x : α} (h : Rd w (Fz w M) v x) (hC : Chg M w w') (hM : ∀ b, M' b → M b ∨ w.heap.size ≤ b) : Rd w' (Fz w' M') v x := h.mono (Fz.keep hC hM).1 (Fz.keep hC hM).2
theorem Sl.fz {w w' : World} {M M' : Nat → Prop} {ao : Option Addr} {cap : Nat} {xs : List α} (h : Sl w (Fz w M) ao cap xs) (hC : Chg M w w') (hM : ∀ b, M' b → M b ∨ w.heap.size ≤ b) : Sl w' (Fz w' M') ao cap xs := h.mono (Fz.keep hC hM).1 (Fz.keep hC hM).2
theorem Rd.old' {w : World} {M : Nat → Prop} {v : Value} {x : α} (h : Rd w (Fz w M) v x) : Rd w (Old w) v x := h.mono (fun _ _ => rfl) fun _ h => h.1
theorem Sl.old' {w : World} {M : Nat → Prop} {ao : Option Addr} {cap : Nat} {xs : List α} (h : Sl w (Fz w M) ao cap xs) : Sl w (Old w) ao cap xs := h.mono (fun _ _ => rfl) fun _ h => h.1
theorem Sl.toFz {w : World} {F M : Nat → Prop} {ao : Option Addr} {cap : Nat} {xs : List α} (h : Sl w F ao cap xs) (hF : ∀ b, F b → b < w.heap.size ∧ ¬ M b) : Sl w (Fz w M) ao cap xs := h.mono (fun _ _ => rfl) hF
theorem Chg.of_ext {w w' : World} (M : Nat → Prop) (h : Ext w w') : Chg M w w' := ⟨h.os, h.tape, h.output, h.size, fun k hk _ => h.block k hk⟩
theorem Chg.trans {M : Nat → Prop} {a b c : World} (h : Chg M a b) (k : Chg M b c) : Chg M a c :=
  ⟨k.os.trans h.os, k.tape.trans h.tape, k.output.trans h.output, Nat.le_trans h.size k.size, fun i hi hn => (k.block i (Nat.lt_of_lt_of_le hi h.size) hn).trans (h.block i hi hn)⟩
/-- .. where the second changes new blocks too -/
theorem Chg.then {M M' : Nat → Prop} {a b c : World} (h : Chg M a b) (k : Chg M' b c) (hM : ∀ i, M' i → M i ∨ a.heap.size ≤ i) : Chg M a c :=
  ⟨k.os.trans h.os, k.tape.trans h.tape, k.output.trans h.output, Nat.le_trans h.size k.size, fun i hi hn => (k.block i (Nat.lt_of_lt_of_le hi h.size) (fun hm => (hM i hm).elim hn (by omega))).trans (h.block i hi hn)⟩
theorem Chg.wk {M M' : Nat → Prop} {a b : World} (h : Chg M a b) (hM : ∀ i, M i → M' i) : Chg M' a b := ⟨h.os, h.tape, h.output, h.size, fun i hi hn => h.block i hi (fun hm => hn (hM i hm))⟩
theorem Chg.of_grown {w w' : World} {row : Option Nat} (hg : w.grownBy w' row) : Chg (fun b => row = some b) w w' := (Chg.refl _ w).grown hg fun g h => h
/-- inner rows, read -/
structure InnR (w : World) (M : Nat → Prop) (vs : List Raw) (xs : List (List α)) : Prop where
  len : vs.length = xs.length
  el : ∀ i (h : i < vs.length) (h' : i < xs.length), Rd w (Fz w M) vs[i].v xs[i]
theorem InnR.nil {w : World} {M : Nat → Prop} : InnR w M [] ([] : List (List α)) := ⟨rfl, fun i h => absurd h (by simp)⟩
theorem InnR.to {w w' : World} {M M' : Nat → Prop} {vs : List Raw} {xs : List (List α)} (h : InnR w M vs xs) (hC : Chg M w w') (hM : ∀ b, M' b → M b ∨ w.heap.size ≤ b) : InnR w' M' vs xs := ⟨h.len, fun i h1 h2 => (h.el i h1 h2).fz hC hM⟩
theorem InnR.push {w : World} {M : Nat → Prop} {vs : List Raw} {xs : List (List α)} {v : Value} {x : List α} (h : InnR w M vs xs) (hv : Rd w (Fz w M) v x) : InnR w M (vs ++ [(⟨v⟩ : Raw)]) (xs ++ [x]) := by
  refine ⟨by simp [h.len], fun i h1 h2 => ?_⟩
  rcases Nat.lt_or_ge i vs.length with hi | hi
  · rw [List.getElem_append_left hi, List.getElem_append_left (by rw [← h.len]; exact hi)]
    exact h.el i hi _
  · have hl := h.len
    obtain rfl : i = vs.length := by simp at h1; omega
    rw [List.getElem_append_right (Nat.le_refl _), List.getElem_append_right (by omega)]
    simp only [hl, Nat.sub_self, List.getElem_cons_zero]
    exact hv
/-- the whole, read -/
theorem InnR.sl {w : World} {M F : Nat → Prop} {B : Nat} {e : TypeId} {v : Value} {vs : List Raw} {xs : List (List α)} (h : InnR w M vs xs) (ho : Own w B e Non v vs) (hF : ∀ b, Fz w M b → F b) (hv : ∀ g, v.ownBlock = some g → F g) : ∃ ao cap, v = .slice ao xs.length cap ∧ Sl w F ao cap xs := by
  obtain ⟨ao, cap, e, hs⟩ := ho.slF (F' := F) (fun _ h => h.elim) hv
  refine ⟨ao, cap, by rw [← h.len]; exact e, ⟨by rw [← h.len]; exact hs.le, hs.mx, hs.nil, fun i hi => ?_⟩⟩
  have hi' : i < vs.length := by rw [h.len]; exact hi
  obtain ⟨b, off, e1, hF1, es, hc, hr⟩ := hs.el i hi'
  obtain ⟨rfl, h1⟩ := hr
  obtain ⟨io, ic, e2, hs2⟩ := (h.el i hi' hi).sl
  exact ⟨b, off, e1, hF1, [vs[i].v], hc, io, ic, by rw [e2], hs2.mono (fun _ _ => rfl) hF⟩
theorem InnR.old {w : World} {M : Nat → Prop} {B : Nat} {e : TypeId} {v : Value} {vs : List Raw} {xs : List (List α)} (h : InnR w M vs xs) (ho : Own w B e Non v vs) : ∃ ao cap, v = .slice ao xs.length cap ∧ Sl w (Old w) ao cap xs :=
  h.sl ho (fun _ h => h.1) (fun g hg => (ho.lt g hg).2.1)
end
end Go.Proofs.Ytbphcblopoegcaa
/-
  Maps from a key to its number, made by the call: the keys as a list, in the order in which they came. Over any program.
-/
set_option linter.unusedVariables false
set_option linter.unusedSimpArgs false
namespace Go.Proofs.Ytbphcblopoegcaa
open Go.RowKit

/-- a map type, its key's type and its element's type -/
class IsM (P : Program) (t : TypeId) (k e : outParam TypeId) : Prop where
  ok : P.underlying t = some (.map k e)
/-- keys of which the model's order is whole -/
class IsKy (P : Program) (k : TypeId) : Prop where
  ok : WideMaps.KeyLaw P k
theorem IsKy.of {P : Program} {k : TypeId} {d : TypeDesc} (hl : laidOutB P = true) {m : Nat} (hm : Nat.ble (m + 1) 10000 = true) (hrow : Nat.ble (k + 1) P.types.size = true) (hk : P.keyTypeAt m k = true) (hu : P.underlying k = some d) (hd : aggD d = true) : IsKy P k :=
  ⟨deep_law_laid hl (Nat.le_of_ble_eq_true hm) (Nat.lt_of_succ_le (Nat.le_of_ble_eq_true hrow)) hk (by
    rw [hu]; cases d <;> first | rfl | (cases hd))⟩
/-- a type whose zero value is the number 0 -/
class IsZ0 (P : Program) (e : TypeId) : Prop where
  ok : (P.info? e).map (fun i => i.zero) = some (some (.int .i64 0))
/-- v is a key of type k -/
def KeyV (P : Program) (k : TypeId) (v : Value) : Prop := ∃ l, keyOf P k v = some l
/-- block b is a map that holds the keys ks, each with its number -/
def NumM (P : Program) (k : TypeId) (w : World) (b : Nat) (ks : List Value) : Prop :=
  ∃ (es : Array MapEntry) (clock : Nat), w.heap[b]? = some (.map es clock) ∧ es.toList.map (·.key) = ks ∧ (∀ (i : Nat) (e : MapEntry), es.toList[i]? = some e → e.val = .int .i64 (i : Int)) ∧ (∀ x ∈ ks, KeyV P k x) ∧ ks.Nodup
section
variable {P : Program} {k : TypeId} {w w' : World} {b : Nat} {ks : List Value}
theorem NumM.lt (h : NumM P k w b ks) : b < w.heap.size := by
  obtain ⟨es, clock, hb, _⟩ := h
  exact (Array.getElem?_eq_some_iff.1 hb).1
theorem NumM.at (h : NumM P k w b ks) (hb : w'.heap[b]? = w.heap[b]?) : NumM P k w' b ks := by
  obtain ⟨es, clock, h1, h2⟩ := h
  exact ⟨es, clock, hb.trans h1, h2⟩
theorem NumM.ext (h : NumM P k w b ks) (hE : Ext w w') : NumM P k w' b ks := h.at (hE.block b h.lt)
theorem NumM.kept {row : Option Nat} (h : NumM P k w b ks) (hg : w.grownBy w' row) (hne : some b ≠ row) : NumM P k w' b ks := h.at (hg.block b h.lt hne)
theorem NumM.made (w : World) : NumM P k (w.alloc (.map #[] 0)) w.heap.size [] :=
  ⟨#[], 0, heap_alloc_new w _, rfl, fun i e h => by simp at h, fun x h => by simp at h, List.Pairwise.nil⟩
theorem run_num {t e : TypeId} {x : Value} [ht : IsM P t k e] [hk : IsKy P k] [hz : IsZ0 P e] (h : NumM P k w b ks) (hx : KeyV P k x) :
    (x ∉ ks ∧ (Instr.lookup t (.map (some b)) x true).run P w = .ok (.tuple #[.int .i64 0, .bool false]) w) ∨
    ∃ (j : Nat) (hj : j < ks.length), ks[j] = x ∧ (Instr.lookup t (.map (some b)) x true).run P w = .ok (.tuple #[.int .i64 (j : Int), .bool true]) w := by
  obtain ⟨es, clock, hb, hes, hv, hks, hnd⟩ := h
  obtain ⟨l, hx⟩ := hx
  obtain ⟨i, h1, h2⟩ := Option.map_eq_some_iff.1 hz.ok
  have hzr : (zeroValue e).run P w = .ok (.int .i64 0) w := by simp [zeroValue, typeInfo, h1, h2]
  have hkeys : ∀ e ∈ es.toList, ∃ l, keyOf P k e.key = some l := fun e he => hks _ (hes ▸ List.mem_map.2 ⟨e, he, rfl⟩)
  rcases hk.ok.find w hx es.toList hkeys with ⟨g1, g2⟩ | ⟨j, e0, g1, g2, g3⟩
  · refine .inl ⟨fun hm => ?_, by simp [Instr.lookup, run_underlying ht.ok, MapKept.run_getObj_map hb, hk.ok.check w _ hx, g1, hzr, Result.andThen]⟩
    rw [← hes] at hm
    obtain ⟨e, he, hke⟩ := List.mem_map.1 hm
    exact g2 e he hke
  · have hj : j < ks.length := by rw [← hes, List.length_map]; exact (List.getElem?_eq_some_iff.1 g2).1
    refine .inr ⟨j, hj, ?_, ?_⟩
    · subst hes
      rw [List.getElem_map, ← g3]
      congr 1
      exact (List.getElem?_eq_some_iff.1 g2).2
    · have hval := hv j e0 g2
      simp [Instr.lookup, run_underlying ht.ok, MapKept.run_getObj_map hb, hk.ok.check w _ hx, g1, Result.andThen, hval]
theorem run_numPut {t e : TypeId} {x : Value} [ht : IsM P t k e] [hk : IsKy P k] (h : NumM P k w b ks) (hx : KeyV P k x) (hn : x ∉ ks) :
    ∃ w', (Instr.mapUpdate t (.map (some b)) x (.int .i64 (ks.length : Int))).run P w = .ok () w' ∧ NumM P k w' b (ks ++ [x]) ∧ w.grownBy w' (some b) := by
  obtain ⟨es, clock, hb, hes, hv, hks, hnd⟩ := h
  obtain ⟨l, hx'⟩ := hx
  have hkeys : ∀ e ∈ es.toList, ∃ l, keyOf P k e.key = some l := fun e he => hks _ (hes ▸ List.mem_map.2 ⟨e, he, rfl⟩)
  have hsz : es.toList.length = ks.length := by rw [← hes, List.length_map]
  have hlt := (Array.getElem?_eq_some_iff.1 hb).1
  rcases hk.ok.find w hx' es.toList hkeys with ⟨g1, g2⟩ | ⟨j, e0, g1, g2, g3⟩
  · refine ⟨_, by simp [Instr.mapUpdate, run_underlying ht.ok, MapKept.run_getObj_map hb, hk.ok.check w false hx', g1, MapKept.run_setObj_map _ hb, Result.andThen]; rfl, ?_, ?_⟩
    · refine ⟨es.push ⟨x, .int .i64 (ks.length : Int), clock⟩, clock + 1, by simp [hlt], by simp [hes], fun i e he => ?_, fun y hy => ?_, ?_⟩
      · rw [Array.toList_push] at he
        rcases Nat.lt_or_ge i es.toList.length with hi | hi
        · rw [List.getElem?_append_left hi] at he
          exact hv i e he
        · rw [List.getElem?_append_right hi] at he
          have h0 : i - es.toList.length = 0 := by
            have := (List.getElem?_eq_some_iff.1 he).1
            simp at this; omega
          rw [h0] at he
          simp at he
          subst he
          show Value.int .i64 (ks.length : Int) = _
          congr 1; omega
      · rcases List.mem_append.1 hy with hy | hy
        · exact hks y hy
        · rw [List.mem_singleton] at hy; subst hy; exact ⟨l, hx'⟩
      · rw [List.nodup_append]
        refine ⟨hnd, by simp, fun a ha c hc e => ?_⟩
        rw [List.mem_singleton] at hc
        subst hc; subst e; exact hn ha
    · exact ⟨rfl, rfl, rfl, by simp, fun i _ hi => by
        simp only [Array.getElem?_setIfInBounds]
        rw [if_neg (fun e => hi (by rw [e]))]⟩
  · exact absurd (hes ▸ List.mem_map.2 ⟨e0, List.mem_of_getElem? g2, g3⟩) hn
end

section
variable {P : Program} {Q : Exit → Act → World → Prop} {n : Nat} {σ : Sg} {w : World} {L rest : List Oper} {d : Nat} {ty : TypeId} {pos : String} {af : Array Edge} {g : Option (Nat × Bool)} {t k e : TypeId} {b : Nat} {ks : List Value} {x y z : Operand} {v : Value}
/-- v, ok := m[x] -/
theorem WL.num (hg : gd L σ ⟨some d, .lookup t x y true, ty, pos, af, g⟩ = some true) (hd : Nat.ble (d + 1) n = true) (hx : ev σ x = some (.map (some b))) (hy : ev σ y = some v) [ht : IsM P t k e] [hk : IsKy P k] [hz : IsZ0 P e]
    (h : NumM P k w b ks) (hv : KeyV P k v)
    (h1 : v ∉ ks → WL P L Q rest n ((d, .tuple ⟨[.int .i64 0, .bool false]⟩) :: σ) w)
    (h2 : ∀ (j : Nat) (hj : j < ks.length), ks[j] = v → WL P L Q rest n ((d, .tuple ⟨[.int .i64 (j : Int), .bool true]⟩) :: σ) w) :
    WL P L Q (⟨some d, .lookup t x y true, ty, pos, af, g⟩ :: rest) n σ w := by
  rcases run_num (t := t) h hv with ⟨g1, g2⟩ | ⟨j, hj, g1, g2⟩
  · refine WL.run hg hd (fun a ha => ?_) (h1 g1)
    simp [execOp, ha.ev hx, ha.ev hy, g2]
  · refine WL.run hg hd (fun a ha => ?_) (h2 j hj g1)
    simp [execOp, ha.ev hx, ha.ev hy, g2]
/-- m[x] = len(m), at a new key -/
theorem WL.numPut (hg : gd L σ ⟨none, .mapUpdate t x y z, ty, pos, af, g⟩ = some true) (hx : ev σ x = some (.map (some b))) (hy : ev σ y = some v) (hzv : ev σ z = some (.int .i64 (ks.length : Int))) [ht : IsM P t k e] [hk : IsKy P k]
    (h : NumM P k w b ks) (hv : KeyV P k v) (hn : v ∉ ks)
    (hr : ∀ w', NumM P k w' b (ks ++ [v]) → w.grownBy w' (some b) → WL P L Q rest n σ w') :
    WL P L Q (⟨none, .mapUpdate t x y z, ty, pos, af, g⟩ :: rest) n σ w := by
  obtain ⟨w', g1, g2, g3⟩ := run_numPut (t := t) h hv hn
  refine WL.runU hg (fun a ha => ?_) (hr w' g2 g3)
  simp [execOp, ha.ev hx, ha.ev hy, ha.ev hzv, g1]
/-- make(map[K]int) -/
theorem WL.mkMap (hg : gd L σ ⟨some d, .makeMap t none, ty, pos, af, g⟩ = some true) (hd : Nat.ble (d + 1) n = true)
    (h : NumM P k (w.alloc (.map #[] 0)) w.heap.size [] → WL P L Q rest n ((d, .map (some w.heap.size)) :: σ) (w.alloc (.map #[] 0))) :
    WL P L Q (⟨some d, .makeMap t none, ty, pos, af, g⟩ :: rest) n σ w := by
  refine WL.run hg hd (fun a ha => ?_) (h (NumM.made w))
  simp [execOp, Instr.makeMap]
end
/-- a key that is a pair of numbers -/
theorem KeyV.pair {P : Program} {k fa fb : TypeId} {x y : Int} (h : (P.keyType k && Value.formed P k (.agg #[.int .i64 0, .int .i64 0])) = true)
    (hk : ∀ a b : Int, P.keyLits (P.types.size + 1) k [.int .i64 a, .int .i64 b] = (if (Lit.int .i64 a).wf = true ∧ (Lit.int .i64 b).wf = true then some [.int .i64 a, .int .i64 b] else none))
    (hd : ∃ d, P.underlying k = some (.struct d)) (hx : (Lit.int .i64 x).wf = true) (hy : (Lit.int .i64 y).wf = true) : KeyV P k (.agg ⟨[.int .i64 x, .int .i64 y]⟩) := by
  obtain ⟨d, hd⟩ := hd
  refine ⟨.string (keyBytes [.int .i64 x, .int .i64 y]), ?_⟩
  unfold keyOf
  rw [hd]
  dsimp only
  have hf : Value.formed P k (.agg ⟨[.int .i64 x, .int .i64 y]⟩) = Value.formed P k (.agg #[.int .i64 0, .int .i64 0]) := by
    unfold Value.formed
    rw [hd]; rfl
  rw [hf, if_pos h]
  show Option.map _ (P.keyLits (P.types.size + 1) k [.int .i64 x, .int .i64 y]) = _
  rw [hk, if_pos ⟨hx, hy⟩]
  rfl
end Go.Proofs.Ytbphcblopoegcaa
/-
  Maps in drawn regions that only read.
-/
set_option linter.unusedVariables false
set_option linter.unusedSimpArgs false
namespace Go.Proofs.Ytbphcblopoegcaa
open Go.RowKit

theorem nodup_get {α : Type} {l : List α} (h : l.Nodup) {i j : Nat} (hi : i < l.length) (hj : j < l.length) (e : l[i] = l[j]) : i = j := by
  have h := List.pairwise_iff_getElem.1 h
  rcases Nat.lt_trichotomy i j with hlt | he | hlt
  · exact absurd e (h i j hi hj hlt)
  · exact he
  · exact absurd e.symm (h j i hj hi hlt)
section
variable {P : Program} {Q : Exit → Act → World → Prop} {n : Nat} {σ : Sg} {w : World} {L rest : List Oper} {d : Nat} {ty : TypeId} {pos : String} {af : Array Edge} {g : Option (Nat × Bool)} {t k e : TypeId} {b : Nat} {ks : List Value} {x y z : Operand} {v : Value}
theorem QL.numNo (hg : gd L σ ⟨some d, .lookup t x y true, ty, pos, af, g⟩ = some true) (hd : Nat.ble (d + 1) n = true) (hx : ev σ x = some (.map (some b))) (hy : ev σ y = some v) [ht : IsM P t k e] [hk : IsKy P k] [hz : IsZ0 P e]
    (h : NumM P k w b ks) (hv : KeyV P k v) (hn : v ∉ ks) (hr : QL P L w Q rest n ((d, .tuple ⟨[.int .i64 0, .bool false]⟩) :: σ)) : QL P L w Q (⟨some d, .lookup t x y true, ty, pos, af, g⟩ :: rest) n σ := by
  refine QL.run hg hd (fun a ha w' hw' => ?_) hr
  rcases run_num (t := t) (h.ext hw') hv with ⟨_, g2⟩ | ⟨j, hj, g1, g2⟩
  · simp [execOp, ha.ev hx, ha.ev hy, g2]
  · exact absurd (g1 ▸ List.getElem_mem hj) hn
theorem QL.numYes {j : Nat} (hj : j < ks.length) (hjv : ks[j] = v) (hg : gd L σ ⟨some d, .lookup t x y true, ty, pos, af, g⟩ = some true) (hd : Nat.ble (d + 1) n = true) (hx : ev σ x = some (.map (some b))) (hy : ev σ y = some v) [ht : IsM P t k e] [hk : IsKy P k] [hz : IsZ0 P e]
    (h : NumM P k w b ks) (hv : KeyV P k v) (hr : QL P L w Q rest n ((d, .tuple ⟨[.int .i64 (j : Int), .bool true]⟩) :: σ)) : QL P L w Q (⟨some d, .lookup t x y true, ty, pos, af, g⟩ :: rest) n σ := by
  refine QL.run hg hd (fun a ha w' hw' => ?_) hr
  rcases run_num (t := t) (h.ext hw') hv with ⟨g1, _⟩ | ⟨i, hi, g1, g2⟩
  · exact absurd (hjv ▸ List.getElem_mem hj) g1
  · obtain ⟨_, _, _, _, _, _, hnd⟩ := h
    obtain rfl : i = j := nodup_get hnd hi hj (g1.trans hjv.symm)
    simp [execOp, ha.ev hx, ha.ev hy, g2]
end
theorem HL.ldAQ {P : Program} {Q : Exit → Act → World → Prop} {n : Nat} {σ : Sg} {w wc : World} {L : List Oper} {S : World → Prop} {ord : List (Nat × Bool)} {i d : Nat} {ty : TypeId} {pos : String} {af : Array Edge} {g : Option (Nat × Bool)} {t e : TypeId} {x : Operand} {b o k : Nat} {cells vs : List Value}
    (hK : ∀ w1, S w1 → w1.heap[b]? = w.heap[b]?) (ho : nthO L i = some ⟨some d, .load t x, ty, pos, af, g⟩) (hg : gd L σ ⟨some d, .load t x, ty, pos, af, g⟩ = some true) (hd : Nat.ble (d + 1) n = true) (hx : ev σ x = some (.pointer (some ⟨b, o, none⟩))) [hc : IsC P t k true] (hb : Blk w b e cells) (hv : segL cells o k = some vs)
    (h : HL P L S Q ord n ((d, .agg vs.toArray) :: σ) wc) : HL P L S Q ((i, true) :: ord) n σ wc := by
  refine HL.run ho hg hd (fun a ha w' hsw => ?_) h
  have hb' : Blk w' b e cells := (hK w' hsw).trans hb
  simp [execOp, ha.ev hx, run_ldA (P := P) (t := t) w' hb' hv]
end Go.Proofs.Ytbphcblopoegcaa
