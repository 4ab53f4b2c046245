import Derived.Test.YtikigaeihdmcaaaPtWorldOwn11
/-
  Package label: eu, eg, au: walked.
-/
set_option linter.unusedVariables false
set_option linter.unusedSimpArgs false
namespace Go.Proofs.Ytikigaeihdmcaaa
open Go.RowKit

/- THE SEARCH, PLAIN -/
def unm (out : List Bool) : Nat := out.countP fun b => !b
theorem unm_set {out : List Bool} {k : Nat} (hk : k < out.length) (h : out.getD k false = false) : unm (out.set k true) + 1 = unm out := by
  have hv : out[k] = false := by rw [← wgetB hk]; exact h
  unfold unm
  rw [List.countP_set hk, hv]
  have : 0 < out.countP fun b => !b := List.countP_pos_iff.2 ⟨false, hv ▸ List.getElem_mem _, rfl⟩
  simp only [Bool.not_false, Bool.not_true, if_true, Bool.false_eq_true, if_false]
  omega
theorem turnE_mem {nx : Graph} {c k : Nat} : (k : Int) ∈ (turnL nx).getD c [] ↔ c < nx.length ∧ Eg nx k c := by
  by_cases hc : c < nx.length
  · have hc' : c < (turnL nx).length := by rw [turnL_len]; exact hc
    rw [wgetDG hc', turnL_row hc', List.mem_map]
    constructor
    · rintro ⟨x, hx, e⟩
      obtain rfl : x = k := by omega
      obtain ⟨h1, h2⟩ := List.mem_filter.1 hx
      exact ⟨hc, by unfold Eg; simpa using h2⟩
    · rintro ⟨_, h⟩
      refine ⟨k, List.mem_filter.2 ⟨List.mem_range.2 h.lt1, ?_⟩, rfl⟩
      unfold Eg at h; simpa using h
  · constructor
    · intro h
      rw [List.getD_eq_getElem?_getD, List.getElem?_eq_none (by rw [turnL_len]; omega)] at h
      cases h
    · exact fun h => absurd h.1 hc
structure EuI (nx : Graph) (A B : Nat → Prop) (out : List Bool) (todo : List Int) (cur : Option (Nat × Nat)) : Prop where
  len : out.length = nx.length
  td : ∀ x ∈ todo, 0 ≤ x ∧ x < nx.length ∧ out.getD x.toNat false = true
  snd : ∀ c, c < nx.length → out.getD c false = true → EuP (Eg nx) A B c
  bas : ∀ c, c < nx.length → B c → out.getD c false = true
  cls : ∀ c, c < nx.length → out.getD c false = true → (c : Int) ∈ todo ∨ (∀ k, Eg nx k c → A k → out.getD k false = true) ∨ ∃ j, cur = some (c, j) ∧ ∀ k : Nat, (k : Int) ∈ ((turnL nx).getD c []).take j → A k → out.getD k false = true
  cnt : todo.length + unm out ≤ nx.length
section
variable {nx : Graph} {A B : Nat → Prop} {out : List Bool} {todo : List Int}
theorem EuI.done (hok : okG nx) (h : EuI nx A B out [] none) : out = boolsN nx.length (EuP (Eg nx) A B) := by
  refine boolsN_of h.len fun c hc => ⟨h.snd c hc, fun hu => ?_⟩
  induction hu with
  | here hb => exact h.bas _ hc hb
  | @step n m h1 h2 h3 ih =>
    have hm := h2.lt hok
    rcases h.cls m hm (ih hm) with h4 | h4 | ⟨j, h4, _⟩
    · cases h4
    · exact h4 n h2 h1
    · cases h4
theorem EuI.pop {c : Nat} {r : List Int} (h : EuI nx A B out ((c : Int) :: r) none) : EuI nx A B out r (some (c, 0)) := by
  refine ⟨h.len, fun x hx => h.td x (by simp [hx]), h.snd, h.bas, fun c' hc' ho => ?_, by have := h.cnt; simp at this; omega⟩
  rcases h.cls c' hc' ho with h4 | h4 | ⟨j, h4, _⟩
  · rcases List.mem_cons.1 h4 with h4 | h4
    · exact .inr (.inr ⟨0, by rw [show c' = c by omega], fun k hk => by simp at hk⟩)
    · exact .inl h4
  · exact .inr (.inl h4)
  · cases h4
theorem EuI.rowEnd {c j : Nat} (h : EuI nx A B out todo (some (c, j))) (hj : ((turnL nx).getD c []).length ≤ j) : EuI nx A B out todo none := by
  refine ⟨h.len, h.td, h.snd, h.bas, fun c' hc' ho => ?_, h.cnt⟩
  rcases h.cls c' hc' ho with h4 | h4 | ⟨j', h4, h5⟩
  · exact .inl h4
  · exact .inr (.inl h4)
  · obtain ⟨rfl, rfl⟩ := Prod.mk.inj (Option.some.inj h4)
    rw [List.take_of_length_le hj] at h5
    exact .inr (.inl fun k hk ha => h5 k (turnE_mem.2 ⟨hc', hk⟩) ha)
theorem EuI.skip {c j k : Nat} (h : EuI nx A B out todo (some (c, j))) (hj : j < ((turnL nx).getD c []).length) (hk : ((turnL nx).getD c [])[j] = (k : Int)) (ha : A k → out.getD k false = true) : EuI nx A B out todo (some (c, j + 1)) := by
  refine ⟨h.len, h.td, h.snd, h.bas, fun c' hc' ho => ?_, h.cnt⟩
  rcases h.cls c' hc' ho with h4 | h4 | ⟨j', h4, h5⟩
  · exact .inl h4
  · exact .inr (.inl h4)
  · obtain ⟨rfl, rfl⟩ := Prod.mk.inj (Option.some.inj h4)
    refine .inr (.inr ⟨j + 1, rfl, fun k' hk' ha' => ?_⟩)
    rw [List.take_add_one, List.getElem?_eq_getElem hj, hk] at hk'
    rcases List.mem_append.1 hk' with hk' | hk'
    · exact h5 k' hk' ha'
    · have : k' = k := by have := List.mem_singleton.1 hk'; omega
      subst this; exact ha ha'
theorem EuI.mark {c j k : Nat} (hc : c < nx.length) (ho : out.getD c false = true) (h : EuI nx A B out todo (some (c, j))) (hj : j < ((turnL nx).getD c []).length) (hk : ((turnL nx).getD c [])[j] = (k : Int)) (ha : A k) (hu : out.getD k false = false) :
    EuI nx A B (out.set k true) (todo ++ [(k : Int)]) (some (c, j + 1)) ∧ k < nx.length := by
  have hin : (k : Int) ∈ (turnL nx).getD c [] := hk ▸ List.getElem_mem hj
  obtain ⟨_, he⟩ := turnE_mem.1 hin
  have hkn := he.lt1
  have hg : ∀ i, (out.set k true).getD i false = if k = i then true else out.getD i false := fun i => getD_set (by rw [h.len]; exact hkn)
  have up : ∀ i, out.getD i false = true → (out.set k true).getD i false = true := fun i hi => by rw [hg]; split; rfl; exact hi
  refine ⟨⟨by simp [h.len], fun x hx => ?_, fun i hi hoi => ?_, fun i hi hb => up i (h.bas i hi hb), fun i hi hoi => ?_, ?_⟩, hkn⟩
  · rcases List.mem_append.1 hx with hx | hx
    · obtain ⟨h1, h2, h3⟩ := h.td x hx
      exact ⟨h1, h2, up _ h3⟩
    · rw [List.mem_singleton] at hx; subst hx
      exact ⟨by omega, by omega, by rw [hg]; simp⟩
  · rw [hg] at hoi
    split at hoi
    · rename_i e; subst e; exact .step ha he (h.snd c hc ho)
    · exact h.snd i hi hoi
  · rw [hg] at hoi
    split at hoi
    · rename_i e; subst e; exact .inl (List.mem_append_right _ (by simp))
    · rcases h.cls i hi hoi with h4 | h4 | ⟨j', h4, h5⟩
      · exact .inl (List.mem_append_left _ h4)
      · exact .inr (.inl fun q hq hq2 => up q (h4 q hq hq2))
      · obtain ⟨rfl, rfl⟩ := Prod.mk.inj (Option.some.inj h4)
        refine .inr (.inr ⟨j + 1, rfl, fun k' hk' ha' => ?_⟩)
        rw [List.take_add_one, List.getElem?_eq_getElem hj, hk] at hk'
        rcases List.mem_append.1 hk' with hk' | hk'
        · exact up _ (h5 k' hk' ha')
        · have : k' = k := by have := List.mem_singleton.1 hk'; omega
          subst this; rw [hg]; simp
  · have := unm_set (out := out) (by rw [h.len]; exact hkn) hu
    have := h.cnt
    rw [List.length_append]; simp; omega
end
/-- the marked ones of the first i -/
def trueL (out : List Bool) (i : Nat) : List Int := ((List.range i).filter fun c => out.getD c false).map fun c : Nat => (c : Int)
theorem trueL_next {out : List Bool} {i : Nat} : trueL out (i + 1) = trueL out i ++ if out.getD i false = true then [(i : Int)] else [] := by
  unfold trueL
  rw [List.range_succ, List.filter_append, List.map_append]
  congr 1
  cases h : out.getD i false with
  | false => rw [List.filter_cons_of_neg (by rw [h]; decide)]; rfl
  | true => rw [List.filter_cons_of_pos (by rw [h])]; rfl
theorem trueL_mem {out : List Bool} {i c : Nat} : (c : Int) ∈ trueL out i ↔ c < i ∧ out.getD c false = true := by
  unfold trueL
  rw [List.mem_map]
  constructor
  · rintro ⟨x, hx, e⟩
    obtain rfl : x = c := by omega
    obtain ⟨h1, h2⟩ := List.mem_filter.1 hx
    exact ⟨List.mem_range.1 h1, h2⟩
  · rintro ⟨h1, h2⟩
    exact ⟨c, List.mem_filter.2 ⟨List.mem_range.2 h1, h2⟩, rfl⟩
theorem trueL_len {out : List Bool} : ∀ i, i ≤ out.length → (trueL out i).length + (out.take i).countP (fun b => !b) = i
  | 0, _ => by simp [trueL]
  | i + 1, h => by
    have hi : i < out.length := by omega
    have ih := trueL_len (out := out) i (by omega)
    rw [trueL_next, List.length_append, List.take_add_one, List.getElem?_eq_getElem hi, List.countP_append, wgetB hi]
    cases hb : out[i] <;> simp <;> omega
theorem EuI.start {nx : Graph} {A B : Nat → Prop} : EuI nx A B (boolsN nx.length B) (trueL (boolsN nx.length B) nx.length) none := by
  refine ⟨boolsN_len, fun x hx => ?_, fun c hc h => .here ((boolsN_iff hc).1 h), fun c hc h => (boolsN_iff hc).2 h, fun c hc h => .inl (trueL_mem.2 ⟨hc, h⟩), ?_⟩
  · obtain ⟨c, hc, rfl⟩ : ∃ c : Nat, c < nx.length ∧ x = (c : Int) := by
      unfold trueL at hx
      obtain ⟨c, hc, rfl⟩ := List.mem_map.1 hx
      exact ⟨c, List.mem_range.1 (List.mem_filter.1 hc).1, rfl⟩
    exact ⟨by omega, by omega, (trueL_mem.1 hx).2⟩
  · have := trueL_len (out := boolsN nx.length B) nx.length (by rw [boolsN_len]; exact Nat.le_refl _)
    rw [List.take_of_length_le (by rw [boolsN_len]; exact Nat.le_refl _)] at this
    unfold unm; omega

set_option maxHeartbeats 1000000 in
theorem leu_ok (w0 : World) {b : Nat} {nx fr : Graph} {lb : List Nat} (hL : LabAt w0 b nx lb fr) (hok : okG nx) (hn : nx.length ≤ 600) {ao bo : Option Addr} {ac bc : Nat} {P Q : Nat → Prop} (ha : Sl w0 (Old w0) ao ac (boolsN nx.length P)) (hb : Sl w0 (Old w0) bo bc (boolsN nx.length Q)) :
    Rt Try.prog 42 [labP b, .slice ao (boolsN nx.length P).length ac, .slice bo (boolsN nx.length Q).length bc].toArray w0 fun v w' => Own w' w0.heap.size 4 Non v (boolsN nx.length (euP nx fr P Q)) ∧ Ext w0 w' := by
  have hL0 := hL
  obtain ⟨a1, c1, n1, a2, c2, a3, c3, a4, c4, fo, fc, ro, rc, hlb, h2, h3, h4, h5, h6⟩ := hL
  refine Rt.enter3 Try.func42 Try.ntmps42 rfl rfl ?_
  (repeat (first | (apply WL.pure; rfl; rfl; rfl) | (apply WL.nil) | (apply EX.thenN) | (apply CW.seq) | (apply CW.region) | (apply WL.fa; rfl; rfl; rfl) | (apply WL.nck; rfl; rfl; rfl) | (apply WL.ld; rfl; rfl; rfl; assumption; rfl)))
  refine WL.call rfl rfl rfl (lboth_ok w0 hL0 hn hb h5) ?_
  rintro _ w1 ⟨ho, e1⟩
  rename_i ov
  have hov : ∃ oo oc, ov = .slice oo nx.length oc := by
    obtain ⟨oo, oc, e⟩ := ho.val
    rw [boolsN_len] at e; exact ⟨oo, oc, e⟩
  obtain ⟨oo, oc, rfl⟩ := hov
  (repeat (first | (apply WL.pure; rfl; rfl; rfl) | (apply WL.nil) | (apply EX.thenN) | (apply CW.seq) | (apply CW.region) | (apply WL.lenS; rfl; rfl; rfl) | (apply CW.block)))
  refine CW.loop (S := Nat × Value) (fun s => [(0, labP b), (1, .slice ao (boolsN nx.length P).length ac), (7, .slice oo nx.length oc), (8, s.2), (21, .slice oo nx.length oc), (22, .int .i64 nx.length), (23, .int .i64 s.1)])
    (fun s w => s.1 ≤ nx.length ∧ Own w w0.heap.size 4 Non (.slice oo nx.length oc) (boolsN nx.length fun i => Q i ∧ fairP nx fr i) ∧ Own w w0.heap.size 3 Non s.2 (trueL (boolsN nx.length fun i => Q i ∧ fairP nx fr i) s.1) ∧ (∀ g, s.2.ownBlock = some g → Value.ownBlock (.slice oo nx.length oc) ≠ some g) ∧ Ext w0 w)
    (fun s => nx.length - s.1) (0, .slice none 0 0) (by repeat (first | exact trivial | refine ⟨rfl, ?_⟩)) ⟨Nat.zero_le _, ho, Own.nil, (fun g hg => by cases hg), e1⟩ ?_
  · clear ho e1
    rintro ⟨i, tv⟩ w2 ⟨hi, ho, ht, hd, e2⟩
    dsimp only at hi ho ht hd e2 ⊢
    have hle := trueL_len (out := boolsN nx.length fun i => Q i ∧ fairP nx fr i) i (by rw [boolsN_len]; exact hi)
    (repeat (first | (apply WL.pure; rfl; rfl; rfl) | (apply WL.nil) | (apply EX.thenN) | (apply CW.seq) | (apply CW.region)))
    refine CW.cond rfl (fun h => ?_) (fun h => ?_)
    · have hi' : i < nx.length := by simp at h; omega
      have hix : i < (boolsN nx.length fun i => Q i ∧ fairP nx fr i).length := by rw [boolsN_len]; exact hi'
      have hnx := trueL_next (out := boolsN nx.length fun i => Q i ∧ fairP nx fr i) (i := i)
      (repeat (first | (apply WL.pure; rfl; rfl; rfl) | (apply EX.thenN) | (apply CW.seq) | (apply CW.region) | (apply CW.block) | (apply CW.skip)))
      refine WL.elemON (i := i) rfl rfl rfl rfl rfl ho hix (fun _ => rfl) (fun u q hu => ?_)
      rw [hu.bool, ← wgetB hix]
      clear hu
      generalize (boolsN nx.length fun i => Q i ∧ fairP nx fr i).getD i false = c at *
      cases c with
      | false =>
        rw [if_neg (by decide), List.append_nil] at hnx
        rw [← hnx] at ht
        (repeat (first | (apply WL.add; rfl; rfl; rfl; rfl; omega; omega) | (apply WL.pure; rfl; rfl; rfl) | (apply WL.nil) | (apply EX.thenN) | (apply CW.seq) | (apply CW.region) | (apply EX.inN) | (apply CW.condF; rfl) | (apply CW.skip)))
        exact EX.back (i + 1, tv) (by repeat (first | exact trivial | refine ⟨rfl, ?_⟩)) ⟨hi', ho, ht, hd, e2⟩ (by dsimp only; omega)
      | true =>
        rw [if_pos rfl] at hnx
        (repeat (first | (apply WL.pure; rfl; rfl; rfl) | (apply WL.nil) | (apply EX.thenN) | (apply CW.seq) | (apply CW.region) | (apply CW.condT; rfl)))
        refine WL.app1 (α := Int) (F := Non) (bytes := 8) rfl rfl (fun _ => rfl) rfl rfl (fun _ => rfl) ht (Rd.mkInt _ _ _) e2.size (fun _ h => h.elim) (by decide) (by unfold maxLen; omega) (by omega) (fun tv' w3 q ht3 hg3 hnb3 => ?_)
        rw [← hnx] at ht3
        (repeat (first | (apply WL.add; rfl; rfl; rfl; rfl; omega; omega) | (apply WL.pure; rfl; rfl; rfl) | (apply WL.nil) | (apply EX.thenN) | (apply CW.region) | (apply EX.inN)))
        exact EX.back (i + 1, tv') (by repeat (first | exact trivial | refine ⟨rfl, ?_⟩)) ⟨hi', ho.keptN hg3 (fun g hg e => hd g e.symm hg), ht3, fun g hg e => by
          rcases hnb3 g hg with h | h
          · exact hd g h e
          · have := (ho.lt g e).2.1; omega, e2.grown hg3 e2.size (fun g hg => (ht.lt g hg).1)⟩ (by dsimp only; omega)
    obtain rfl : i = nx.length := by simp at h; omega
    have hI0 : EuI nx P (fun i => Q i ∧ fairP nx fr i) _ _ none := EuI.start
    generalize trueL (boolsN nx.length fun i => Q i ∧ fairP nx fr i) nx.length = todo at *
    generalize (boolsN nx.length fun i => Q i ∧ fairP nx fr i) = out at *
    (repeat (first | (apply EX.thenN) | (apply CW.seq) | (apply CW.block) | (apply CW.exit) | (apply EX.thenX) | (apply EX.inX)))
    refine CW.loop (S := List Bool × Value × List Int) (fun s => [(0, labP b), (1, .slice ao (boolsN nx.length P).length ac), (7, .slice oo nx.length oc), (8, s.2.1)])
      (fun s w => EuI nx P (fun i => Q i ∧ fairP nx fr i) s.1 s.2.2 none ∧ Own w w0.heap.size 4 Non (.slice oo nx.length oc) s.1 ∧ Own w w0.heap.size 3 Non s.2.1 s.2.2 ∧ (∀ g, s.2.1.ownBlock = some g → Value.ownBlock (.slice oo nx.length oc) ≠ some g) ∧ Ext w0 w)
      (fun s => s.2.2.length + 2 * unm s.1) (out, tv, todo) (by repeat (first | exact trivial | refine ⟨rfl, ?_⟩)) ⟨hI0, ho, ht, hd, e2⟩ ?_
    clear hI0 ho ht hd e2 hle h tv
    rintro ⟨out, tv, todo⟩ w2 ⟨hI, ho, ht, hd, e2⟩
    dsimp only at hI ho ht hd e2 ⊢
    (repeat (first | (apply WL.pure; rfl; rfl; rfl) | (apply WL.nil) | (apply EX.thenN) | (apply CW.seq) | (apply CW.region) | (refine WL.lenO rfl rfl rfl (by assumption) ?_)))
    refine CW.cond rfl (fun h => ?_) (fun h => ?_)
    · have ht0 : 0 < todo.length := by simpa using h
      obtain ⟨x, r, rfl⟩ : ∃ x r, todo = x :: r := by
        cases todo with
        | nil => simp at ht0
        | cons x r => exact ⟨x, r, rfl⟩
      obtain ⟨hx0, hxn, hxo⟩ := hI.td x (by simp)
      obtain ⟨c, rfl⟩ : ∃ c : Nat, x = (c : Int) := ⟨x.toNat, by omega⟩
      rw [Int.toNat_natCast] at hxo
      have hc : c < nx.length := by omega
      have hct : c < (turnL nx).length := by rw [turnL_len]; exact hc
      have hb2 := hlb.ext e2
      have hrows := h6.at e2
      (repeat (first | (apply WL.pure; rfl; rfl; rfl) | (apply EX.thenN) | (apply CW.seq) | (apply CW.region) | (apply CW.block) | (apply CW.skip)))
      refine WL.elemON (i := 0) rfl rfl rfl rfl rfl ht (by simp) (fun _ => rfl) (fun u q hu => ?_)
      rw [hu.int]
      simp only [List.getElem_cons_zero]
      (repeat (first | (apply WL.pure; rfl; rfl; rfl) | (apply WL.nil) | (apply EX.thenN) | (apply CW.seq) | (apply CW.region)))
      refine WL.cutLoO (α := Int) 1 rfl rfl rfl rfl rfl ht (by simp) (fun tv2 ht2 hnb => ?_)
      rw [List.drop_one, List.tail_cons] at ht2
      (repeat (first | (apply WL.pure; rfl; rfl; rfl) | (apply WL.nil) | (apply EX.thenN) | (apply CW.seq) | (apply CW.region) | (apply WL.fa; rfl; rfl; rfl) | (apply WL.nck; rfl; rfl; rfl) | (apply WL.ld; rfl; rfl; rfl; assumption; rfl)))
      refine WL.elemN (i := c) rfl rfl rfl rfl rfl hrows hct (fun _ => rfl) (fun u2 q2 hu2 => ?_)
      obtain ⟨po, pc, rfl, hp⟩ := hu2.sl
      have hpl := hp.len63
      have hgr : (turnL nx)[c] = (turnL nx).getD c [] := (wgetDG hct).symm
      rw [hgr] at hp hpl ⊢
      clear ht ht0 hu hu2 hgr hrows hb2
      (repeat (first | (apply WL.pure; rfl; rfl; rfl) | (apply WL.nil) | (apply EX.thenN) | (apply WL.lenS; rfl; rfl; rfl) | (apply CW.block)))
      refine CW.loop (S := Nat × List Bool × Value × List Int) (fun s => [(0, labP b), (1, .slice ao (boolsN nx.length P).length ac), (7, .slice oo nx.length oc), (8, s.2.2.1), (48, .slice po ((turnL nx).getD c []).length pc), (49, .int .i64 ((turnL nx).getD c []).length), (50, .int .i64 s.1)])
        (fun s w => s.1 ≤ ((turnL nx).getD c []).length ∧ EuI nx P (fun i => Q i ∧ fairP nx fr i) s.2.1 s.2.2.2 (some (c, s.1)) ∧ s.2.1.getD c false = true ∧ Own w w0.heap.size 4 Non (.slice oo nx.length oc) s.2.1 ∧ Own w w0.heap.size 3 Non s.2.2.1 s.2.2.2 ∧ (∀ g, s.2.2.1.ownBlock = some g → Value.ownBlock (.slice oo nx.length oc) ≠ some g) ∧ Ext w0 w ∧ s.2.2.2.length + 2 * unm s.2.1 + 1 ≤ ((c : Int) :: r).length + 2 * unm out)
        (fun s => ((turnL nx).getD c []).length - s.1) (0, out, tv2, r) (by repeat (first | exact trivial | refine ⟨rfl, ?_⟩)) ⟨Nat.zero_le _, hI.pop, hxo, ho, ht2, (fun g hg => hd g (hnb ▸ hg)), e2, by simp only [List.length_cons]; omega⟩ ?_
      clear hI ho ht2 hd hxo hnb
      rintro ⟨j, o2, tv3, t2⟩ w3 ⟨hj, hI, hco, ho, ht, hd, e3, hmu⟩
      dsimp only at hj hI hco ho ht hd e3 hmu ⊢
      (repeat (first | (apply WL.pure; rfl; rfl; rfl) | (apply WL.nil) | (apply EX.thenN) | (apply CW.seq) | (apply CW.region)))
      refine CW.cond rfl (fun h => ?_) (fun h => ?_)
      · have hj' : j < ((turnL nx).getD c []).length := by simp only [decide_eq_true_eq] at h; omega
        obtain ⟨k, hk⟩ : ∃ k : Nat, ((turnL nx).getD c [])[j] = (k : Int) := ⟨(((turnL nx).getD c [])[j]).toNat, by
          have := okG_row (turnL_ok nx) c _ (List.getElem_mem hj'); omega⟩
        have hkn : k < nx.length := by
          have := okG_row (turnL_ok nx) c _ (List.getElem_mem hj')
          rw [turnL_len] at this; omega
        have hp3 : Sl w3 (Old w0) po pc ((turnL nx).getD c []) := hp.mono (fun b hb => (e3.block b hb).trans (e2.block b hb).symm) (fun _ h => h)
        have haa := ha.up e3
        have bP := boolsN_iff (P := P) hkn
        have hko : k < o2.length := by rw [hI.len]; exact hkn
        (repeat (first | (apply EX.thenN) | (apply CW.seq) | (apply CW.region) | (apply CW.block) | (apply CW.skip)))
        refine WL.elemI rfl rfl rfl rfl rfl hp3 hj' hk (fun _ => rfl) (fun q => ?_)
        (repeat (first | (apply WL.pure; rfl; rfl; rfl) | (apply WL.nil) | (apply EX.thenN) | (apply CW.seq) | (apply CW.region)))
        refine WL.elemB rfl rfl rfl rfl rfl haa (show k < _ by rw [boolsN_len]; exact hkn) (wgetB _).symm (fun _ => rfl) (fun q2 => ?_)
        generalize (boolsN nx.length P).getD k false = pk at *
        cases pk with
        | false =>
          (repeat (first | (apply WL.add; rfl; rfl; rfl; rfl; omega; omega) | (apply WL.pure; rfl; rfl; rfl) | (apply WL.nil) | (apply EX.thenN) | (apply CW.region) | (apply WL.pass; rfl; rfl) | (apply EX.inN) | (apply CW.condF; rfl) | (apply CW.skip)))
          exact EX.back (j + 1, o2, tv3, t2) (by repeat (first | exact trivial | refine ⟨rfl, ?_⟩)) ⟨hj', hI.skip hj' hk (fun h => by have := bP.2 h; cases this), hco, ho, ht, hd, e3, hmu⟩ (by dsimp only; omega)
        | true =>
          (repeat (apply WL.pure; rfl; rfl; rfl))
          refine WL.elemON (i := k) rfl rfl rfl rfl rfl ho hko (fun _ => rfl) (fun u q3 hu => ?_)
          rw [hu.bool, ← wgetB hko]
          cases hok2 : o2.getD k false with
          | true =>
            (repeat (first | (apply WL.add; rfl; rfl; rfl; rfl; omega; omega) | (apply WL.pure; rfl; rfl; rfl) | (apply WL.nil) | (apply EX.thenN) | (apply CW.region) | (apply EX.inN) | (apply CW.condF; rfl) | (apply CW.skip)))
            exact EX.back (j + 1, o2, tv3, t2) (by repeat (first | exact trivial | refine ⟨rfl, ?_⟩)) ⟨hj', hI.skip hj' hk (fun _ => hok2), hco, ho, ht, hd, e3, hmu⟩ (by dsimp only; omega)
          | false =>
            obtain ⟨hI4, _⟩ := hI.mark hc hco hj' hk (bP.1 rfl) hok2
            have hu4 := unm_set hko hok2
            have hcnt := hI4.cnt
            have hcnt' := hI.cnt
            (repeat (first | (apply WL.pure; rfl; rfl; rfl) | (apply WL.nil) | (apply EX.thenN) | (apply CW.seq) | (apply CW.region) | (apply CW.condT; rfl)))
            refine WL.setN (u := .bool true) (yv := true) rfl rfl rfl rfl ho hko (fun _ => rfl) (fun _ => rfl) (Rd.mkBool _ _ _) (fun w4 q4 ho4 hg4 => ?_)
            have e4 : Ext w0 w4 := e3.grown hg4 e3.size (fun g hg => (ho.lt g hg).1)
            have ht4 := ht.keptN hg4 (fun g hg e => hd g hg e.symm)
            (repeat (first | (apply WL.pure; rfl; rfl; rfl) | (apply WL.nil) | (apply EX.thenN) | (apply CW.region)))
            refine WL.app1 (α := Int) (F := Non) (bytes := 8) rfl rfl (fun _ => rfl) rfl rfl (fun _ => rfl) ht4 (Rd.mkInt _ _ _) e4.size (fun _ h => h.elim) (by decide) (by unfold maxLen; omega) (by omega) (fun tv' w5 q5 ht5 hg5 hnb5 => ?_)
            (repeat (first | (apply WL.add; rfl; rfl; rfl; rfl; omega; omega) | (apply WL.pure; rfl; rfl; rfl) | (apply WL.nil) | (apply EX.thenN) | (apply CW.region) | (apply EX.inN)))
            refine EX.back (j + 1, o2.set k true, tv', t2 ++ [(k : Int)]) (by repeat (first | exact trivial | refine ⟨rfl, ?_⟩)) ⟨hj', hI4, ?_, ho4.keptN hg5 (fun g hg e => hd g e.symm hg), ht5, fun g hg e => ?_, e4.grown hg5 e4.size (fun g hg => (ht4.lt g hg).1), ?_⟩ (by dsimp only; omega)
            · dsimp only; rw [getD_set hko]; split; rfl; exact hco
            · rcases hnb5 g hg with h | h
              · exact hd g h e
              · have := (ho4.lt g e).2.1; omega
            · dsimp only; rw [List.length_append]; simp only [List.length_cons, List.length_nil] at hmu ⊢; omega
      · have hj' : ((turnL nx).getD c []).length ≤ j := by simp only [decide_eq_false_iff_not] at h; omega
        (repeat (first | (apply EX.inN) | (apply CW.exit) | (apply EX.thenX) | (apply EX.inX)))
        exact EX.back (o2, tv3, t2) (by repeat (first | exact trivial | refine ⟨rfl, ?_⟩)) ⟨hI.rowEnd hj', ho, ht, hd, e3⟩ (by dsimp only; simp only [List.length_cons] at hmu ⊢; omega)
    · have ht0 : todo = [] := List.eq_nil_of_length_eq_zero (by simpa using h)
      subst ht0
      rw [hI.done hok] at ho
      (repeat (first | (apply WL.pure; rfl; rfl; rfl) | (apply WL.nil) | (apply EX.thenN) | (apply CW.seq) | (apply CW.region) | (apply CW.exit) | (apply EX.thenX) | (apply EX.inX) | (apply CW.ret)))
      exact EX.ret1 rfl rfl ⟨ho, e2⟩
theorem leg_ok (w0 : World) {b : Nat} {nx fr : Graph} {lb : List Nat} (hL : LabAt w0 b nx lb fr) (hW : WOk nx fr) {ao : Option Addr} {ac : Nat} {P : Nat → Prop} (ha : Sl w0 (Old w0) ao ac (boolsN nx.length P)) :
    Rt Try.prog 43 [labP b, .slice ao (boolsN nx.length P).length ac].toArray w0 fun v w' => Own w' w0.heap.size 4 Non v (boolsN nx.length (egP nx fr P)) ∧ Ext w0 w' := by
  obtain ⟨a1, c1, n1, a2, c2, a3, c3, a4, c4, fo, fc, ro, rc, hlb, h2, h3, h4, h5, h6⟩ := hL
  refine Rt.enter2 Try.func43 Try.ntmps43 rfl rfl ?_
  (repeat (first | (apply WL.pure; rfl; rfl; rfl) | (apply WL.nil) | (apply EX.thenN) | (apply CW.seq) | (apply CW.region) | (apply WL.fa; rfl; rfl; rfl) | (apply WL.nck; rfl; rfl; rfl) | (apply WL.ldA; rfl; rfl; rfl; assumption; rfl)))
  refine WL.call rfl rfl rfl (Within_ok w0 (inn := boolsN nx.length P) (n1 := n1) (a1 := a1) (c1 := c1) h2 h4 ha hW.g hW.f boolsN_len hW.n hW.e) ?_
  rintro _ w1 ⟨ho, e1⟩
  rw [within_egP hW.g] at ho
  (repeat (first | (apply WL.pure; rfl; rfl; rfl) | (apply WL.nil) | (apply EX.thenN) | (apply CW.ret)))
  exact EX.ret1 rfl rfl ⟨ho, e1⟩
theorem Own.asSl {w : World} {B : Nat} {e : TypeId} {v : Value} {xs : List Bool} (h : Own w B e Non v xs) : ∃ ao cap, v = .slice ao xs.length cap ∧ Sl w (Old w) ao cap xs := h.oldN.sl
set_option maxHeartbeats 1000000 in
theorem lau_ok (w0 : World) {b : Nat} {nx fr : Graph} {lb : List Nat} (hL : LabAt w0 b nx lb fr) (hW : WOk nx fr) {ao bo : Option Addr} {ac bc : Nat} {P Q : Nat → Prop} (ha : Sl w0 (Old w0) ao ac (boolsN nx.length P)) (hb : Sl w0 (Old w0) bo bc (boolsN nx.length Q)) :
    Rt Try.prog 44 [labP b, .slice ao (boolsN nx.length P).length ac, .slice bo (boolsN nx.length Q).length bc].toArray w0 fun v w' => Own w' w0.heap.size 4 Non v (boolsN nx.length (auP nx fr P Q)) ∧ Ext w0 w' := by
  have hn := hW.n
  refine Rt.enter3 Try.func44 Try.ntmps44 rfl rfl ?_
  (repeat (first | (apply WL.pure; rfl; rfl; rfl) | (apply WL.nil) | (apply EX.thenN) | (apply CW.seq) | (apply CW.region)))
  refine WL.call rfl rfl rfl (lnot_ok w0 hL hn hb) ?_
  rintro _ w1 ⟨hxo, e1⟩
  obtain ⟨xo, xc, rfl, hx⟩ := hxo.asSl
  (repeat (apply WL.pure; rfl; rfl; rfl))
  refine WL.call rfl rfl rfl (lnot_ok w1 (hL.up e1) hn (ha.up e1)) ?_
  rintro _ w2 ⟨hyo, e2⟩
  obtain ⟨yo, yc, rfl, hy⟩ := hyo.asSl
  have hE := e1.trans e2
  (repeat (apply WL.pure; rfl; rfl; rfl))
  refine WL.call rfl rfl rfl (lnot_ok w2 (hL.up hE) hn (hb.up hE)) ?_
  rintro _ w3 ⟨hzo, e3⟩
  obtain ⟨zo, zc, rfl, hz⟩ := hzo.asSl
  have hE := hE.trans e3
  skip
  refine WL.call rfl rfl rfl (lboth_ok w3 (hL.up hE) hn (hy.up e3) hz) ?_
  rintro _ w4 ⟨hvo, e4⟩
  obtain ⟨vo, vc, rfl, hv⟩ := hvo.asSl
  have hE4 := hE.trans e4
  skip
  refine WL.call rfl rfl rfl (leu_ok w4 (hL.up hE4) hW.g hn (hx.up (e2.trans (e3.trans e4))) hv) ?_
  rintro bv w5 ⟨ho, e5⟩
  have hE5 := hE4.trans e5
  have ho := ho.low (B' := w0.heap.size) hE4.size
  clear hx hy hz hv hxo hyo hzo hvo e1 e2 e3 e4 e5 hE hE4
  (repeat (first | (apply WL.pure; rfl; rfl; rfl) | (apply WL.nil) | (apply EX.thenN) | (apply CW.seq) | (apply CW.region)))
  refine WL.call rfl rfl rfl (lnot_ok w5 (hL.up hE5) hn (hb.up hE5)) ?_
  rintro _ w6 ⟨hxo, e6⟩
  obtain ⟨xo, xc, rfl, hx⟩ := hxo.asSl
  have hE6 := hE5.trans e6
  have ho := ho.extN e6
  have hl6 := fun g hg => (ho.lt g hg).2.1
  skip
  refine WL.call rfl rfl rfl (leg_ok w6 (hL.up hE6) hW hx) ?_
  rintro gv w7 ⟨hg, e7⟩
  have hE7 := hE6.trans e7
  have ho := ho.extN e7
  have hgx : ∃ go gc, gv = .slice go nx.length gc := by
    obtain ⟨go, gc, e⟩ := hg.val
    rw [boolsN_len] at e; exact ⟨go, gc, e⟩
  obtain ⟨go, gc, rfl⟩ := hgx
  have hdis : ∀ g, bv.ownBlock = some g → Value.ownBlock (.slice go nx.length gc) ≠ some g := fun g h1 h2 => by
    have := hl6 g h1; have := (hg.lt g h2).1; omega
  have hg := hg.low (B' := w0.heap.size) hE6.size
  have hol : (boolsN nx.length (euP nx fr (fun i => ¬ Q i) fun i => ¬ P i ∧ ¬ Q i)).length = nx.length := boolsN_len
  have hob : ∀ c, c < nx.length → ((boolsN nx.length (euP nx fr (fun i => ¬ Q i) fun i => ¬ P i ∧ ¬ Q i)).getD c false = true ↔ euP nx fr (fun i => ¬ Q i) (fun i => ¬ P i ∧ ¬ Q i) c) := fun c hc => boolsN_iff hc
  generalize boolsN nx.length (euP nx fr (fun i => ¬ Q i) fun i => ¬ P i ∧ ¬ Q i) = out at *
  clear hl6 hx hxo e6 e7
  (repeat (first | (apply WL.pure; rfl; rfl; rfl) | (apply WL.nil) | (apply EX.thenN) | (apply WL.lenS; rfl; rfl; rfl) | (apply CW.block)))
  refine CW.loop (S := Nat × List Bool) (fun s => [(0, labP b), (7, bv), (27, .slice go nx.length gc), (28, .int .i64 nx.length), (29, .int .i64 s.1)])
    (fun s w => s.1 ≤ nx.length ∧ s.2.length = nx.length ∧ (∀ c, c < nx.length → (s.2.getD c false = true ↔ euP nx fr (fun i => ¬ Q i) (fun i => ¬ P i ∧ ¬ Q i) c ∨ (c < s.1 ∧ egP nx fr (fun i => ¬ Q i) c))) ∧ Own w w0.heap.size 4 Non bv s.2 ∧ Own w w0.heap.size 4 Non (.slice go nx.length gc) (boolsN nx.length (egP nx fr fun i => ¬ Q i)) ∧ Ext w0 w)
    (fun s => nx.length - s.1) (0, out) (by repeat (first | exact trivial | refine ⟨rfl, ?_⟩)) ⟨Nat.zero_le _, hol, fun c hc => by rw [hob c hc]; exact ⟨.inl, fun h => h.elim id (fun h => absurd h.1 (Nat.not_lt_zero _))⟩, ho, hg, hE7⟩ ?_
  clear hol hob ho hg hE7 hE6 hE5
  rintro ⟨i, o⟩ w8 ⟨hi, hol, hob, ho, hg, e8⟩
  dsimp only at hi hol hob ho hg e8 ⊢
  obtain ⟨oo, oc, hov⟩ := ho.val
  (repeat (first | (apply WL.pure; rfl; rfl; rfl) | (apply WL.nil) | (apply EX.thenN) | (apply CW.seq) | (apply CW.region)))
  refine CW.cond rfl (fun h => ?_) (fun h => ?_)
  · have hi' : i < nx.length := by simp at h; omega
    have hix : i < (boolsN nx.length (egP nx fr fun i => ¬ Q i)).length := by rw [boolsN_len]; exact hi'
    have hio : i < o.length := by omega
    have bG := boolsN_iff (P := egP nx fr fun i => ¬ Q i) hi'
    have bO := hob i hi'
    (repeat (first | (apply WL.pure; rfl; rfl; rfl) | (apply EX.thenN) | (apply CW.seq) | (apply CW.region) | (apply CW.block) | (apply CW.skip)))
    refine WL.elemON (i := i) rfl rfl rfl rfl rfl hg hix (fun _ => rfl) (fun u q hu => ?_)
    rw [hu.bool, ← wgetB hix]
    clear hu
    generalize (boolsN nx.length (egP nx fr fun i => ¬ Q i)).getD i false = gb at *
    (repeat (first | (apply WL.pure; rfl; rfl; rfl) | (apply WL.nil) | (apply EX.thenN) | (apply CW.region)))
    refine WL.elemON (i := i) rfl rfl rfl rfl rfl ho hio (fun _ => rfl) (fun u q2 hu => ?_)
    rw [hu.bool, ← wgetB hio]
    clear hu
    have fin : ∀ c : Bool, (c = true ↔ euP nx fr (fun i => ¬ Q i) (fun i => ¬ P i ∧ ¬ Q i) i ∨ egP nx fr (fun i => ¬ Q i) i) → ∀ k, k < nx.length → ((o.set i c).getD k false = true ↔ euP nx fr (fun i => ¬ Q i) (fun i => ¬ P i ∧ ¬ Q i) k ∨ (k < i + 1 ∧ egP nx fr (fun i => ¬ Q i) k)) := fun c hc k hk => by
      rw [getD_set hio]
      by_cases e : i = k
      · subst e; rw [if_pos rfl, hc]
        exact or_congr Iff.rfl ⟨fun h => ⟨Nat.lt_succ_self _, h⟩, fun h => h.2⟩
      · rw [if_neg e, hob k hk]
        exact or_congr Iff.rfl (and_congr (by omega) Iff.rfl)
    generalize o.getD i false = ob at *
    cases ob with
    | true =>
      (repeat (first | (apply WL.pure; rfl; rfl; rfl) | (apply WL.pass; rfl; rfl)))
      refine WL.setN (u := .bool true) (yv := true) rfl rfl rfl rfl ho hio (fun _ => rfl) (fun _ => rfl) (Rd.mkBool _ _ _) (fun w9 q4 ho4 hg4 => ?_)
      (repeat (first | (apply WL.add; rfl; rfl; rfl; rfl; omega; omega) | (apply WL.pure; rfl; rfl; rfl) | (apply WL.nil) | (apply EX.thenN) | (apply CW.region) | (apply EX.inN)))
      refine EX.back (i + 1, o.set i true) (by repeat (first | exact trivial | refine ⟨rfl, ?_⟩)) ⟨hi', by simpa using hol, fin true ⟨fun _ => (bO.1 rfl).imp id (fun h => h.2), fun _ => rfl⟩, ho4, hg.keptN hg4 (fun g h1 e => hdis g e.symm h1), e8.grown hg4 e8.size (fun g hg => (ho.lt g hg).1)⟩ (by dsimp only; omega)
    | false =>
      (repeat (apply WL.pure; rfl; rfl; rfl))
      refine WL.setN (u := .bool gb) (yv := gb) rfl rfl rfl rfl ho hio (fun _ => rfl) (fun _ => rfl) (Rd.mkBool _ _ _) (fun w9 q4 ho4 hg4 => ?_)
      (repeat (first | (apply WL.add; rfl; rfl; rfl; rfl; omega; omega) | (apply WL.pure; rfl; rfl; rfl) | (apply WL.nil) | (apply EX.thenN) | (apply CW.region) | (apply EX.inN)))
      refine EX.back (i + 1, o.set i gb) (by repeat (first | exact trivial | refine ⟨rfl, ?_⟩)) ⟨hi', by simpa using hol, fin gb ⟨fun h => .inr (bG.1 h), fun h => h.elim (fun h => by have := bO.2 (.inl h); cases this) (fun h => bG.2 h)⟩, ho4, hg.keptN hg4 (fun g h1 e => hdis g e.symm h1), e8.grown hg4 e8.size (fun g hg => (ho.lt g hg).1)⟩ (by dsimp only; omega)
  obtain rfl : i = nx.length := by simp at h; omega
  have hfin : o = boolsN nx.length fun c => euP nx fr (fun i => ¬ Q i) (fun i => ¬ P i ∧ ¬ Q i) c ∨ egP nx fr (fun i => ¬ Q i) c := boolsN_of hol fun c hc => by
    rw [hob c hc]
    exact or_congr Iff.rfl ⟨fun h => h.2, fun h => ⟨hc, h⟩⟩
  subst hfin
  obtain ⟨oo, oc, rfl, hos⟩ := ho.asSl
  (repeat (first | (apply WL.pure; rfl; rfl; rfl) | (apply EX.thenN) | (apply CW.seq) | (apply CW.region) | (apply CW.exit) | (apply EX.thenX) | (apply EX.inX)))
  refine WL.call rfl rfl rfl (lnot_ok w8 (hL.up e8) hn hos) ?_
  rintro _ w9 ⟨ho9, e9⟩
  (repeat (first | (apply WL.pure; rfl; rfl; rfl) | (apply WL.nil) | (apply EX.thenN) | (apply CW.ret)))
  exact EX.ret1 rfl rfl ⟨ho9.low e8.size, e8.trans e9⟩
end Go.Proofs.Ytikigaeihdmcaaa

/-
  Package label: label, Label: walked.
-/
set_option linter.unusedVariables false
set_option linter.unusedSimpArgs false
namespace Go.Proofs.Ytikigaeihdmcaaa
open Go.RowKit

theorem list_two {α : Type} {l : List α} (h : l.length = 2) : ∃ x y, l = [x, y] := by
  match l, h with
  | [x, y], _ => exact ⟨x, y, rfl⟩
mutual
def okC : Ltl → Prop
  | .mk k n kids => kidsC k = kids.length ∧ 0 ≤ n ∧ n ≤ 63 ∧ okCL kids
def okCL : List Ltl → Prop
  | [] => True
  | x :: r => okC x ∧ okCL r
end
theorem okCL_mem : ∀ {l : List Ltl} {x : Ltl}, okCL l → x ∈ l → okC x
  | y :: r, x, h, hx => by
    rw [okCL] at h
    rcases List.mem_cons.1 hx with rfl | hx
    · exact h.1
    · exact okCL_mem h.2 hx
mutual
theorem chkC_ok : ∀ (t : Ltl) (deep c : Int), (chkC t deep c).1 = 0 → okC t
  | .mk k n kids, deep, c, h => by
    simp only [chkC] at h
    split at h
    · cases h
    split at h
    · cases h
    split at h
    · cases h
    rename_i h3
    rw [okC]
    exact ⟨by omega, by omega, by omega, chkCL_ok kids _ _ h⟩
theorem chkCL_ok : ∀ (l : List Ltl) (deep c : Int), (chkCL l deep c).1 = 0 → okCL l
  | [], _, _, _ => by rw [okCL]; trivial
  | x :: r, deep, c, h => by
    simp only [chkCL] at h
    split at h
    · rename_i h1; exact absurd h h1
    rename_i h1
    rw [okCL]
    exact ⟨chkC_ok x _ _ (by simpa using h1), chkCL_ok r _ _ h⟩
end
instance iLab1 : IsT Try.prog 34 Raw := IsT.of (by kernel_rfl) Try.underlying34 rfl
instance iLab2 : IsZ Try.prog 34 (⟨.slice none 0 0⟩ : Raw) 24 := IsZ.of (z := .slice none 0 0) (by kernel_rfl) (fun _ _ => ⟨rfl, rfl⟩)
theorem llab1 (w : World) (x : Nat) : Rt Try.prog 36 [.int .i64 (x : Int)].toArray w fun v w' => v = .bool true ∧ Ext w w' := by
  refine Rt.enter1 Try.func36 Try.ntmps36 rfl rfl ?_
  (repeat (first | (apply WL.pure; rfl; rfl; rfl) | (apply WL.nil) | (apply EX.thenN) | (apply CW.seq) | (apply CW.region) | (apply CW.ret)))
  exact EX.ret1 rfl rfl ⟨rfl, Ext.refl _⟩
theorem wgetN {l : List Nat} {j : Nat} (h : j < l.length) : l.getD j 0 = l[j] := by rw [List.getD_eq_getElem?_getD, List.getElem?_eq_getElem h]; rfl
theorem llab2 (w : World) {b b1 b2 x : Nat} {nx fr : Graph} {lb : List Nat} (hL : LabAt w b nx lb fr) {k n : Int} {kv : Value} (hb1 : Blk w b1 56 [labP b]) (hb2 : Blk w b2 29 [.int .i64 k, .int .i64 n, kv]) (hx : x < lb.length) (hn : 0 ≤ n) :
    Rt Try.prog 37 [.int .i64 (x : Int), .pointer (some ⟨b1, 0, none⟩), .pointer (some ⟨b2, 0, none⟩)].toArray w fun v w' => ∃ c : Bool, v = .bool c ∧ (c = true ↔ lb.getD x 0 >>> n.toNat &&& 1 = 1) ∧ Ext w w' := by
  obtain ⟨a1, c1, n1, a2, c2, a3, c3, a4, c4, fo, fc, bo, bc, hb, h2, h3, h4, h5, h6⟩ := hL
  refine Rt.enter3 Try.func37 Try.ntmps37 rfl rfl ?_
  (repeat (first | (apply WL.pure; rfl; rfl; rfl) | (apply QL.pure; rfl; rfl; rfl) | (apply WL.nil) | (apply EX.thenN) | (apply CW.seq) | (apply CW.region) | (apply QL.fa; rfl; rfl; rfl) | (apply QL.nck; rfl; rfl; rfl) | (apply QL.ld; rfl; rfl; rfl; assumption; rfl) | (apply CW.draw; exact mixed; kernel_rfl)))
  refine QL.elemN rfl rfl rfl rfl rfl (fun _ h => h) h3 hx (fun _ => rfl) (fun u q hu => ?_)
  obtain ⟨rfl, hu64⟩ := hu.u64
  rw [wgetN hx]
  generalize lb[x] = a at *
  (repeat (first | (apply QL.fa; rfl; rfl; rfl) | (apply QL.ld; rfl; rfl; rfl; assumption; rfl)))
  refine QL.shrI rfl rfl rfl rfl hu64 hn ?_
  have hs : a >>> n.toNat < 18446744073709551616 := Nat.lt_of_le_of_lt (Nat.shiftRight_le _ _) hu64
  refine QL.and1 rfl rfl rfl rfl hs ?_
  (repeat (apply QL.pure; rfl; rfl; rfl))
  refine QL.nil fun w' e => ?_
  (repeat (first | (apply EX.thenN) | (apply CW.ret)))
  refine EX.ret1 rfl rfl ⟨_, rfl, ?_, e⟩
  generalize a >>> n.toNat &&& 1 = m
  simp
  omega
theorem llab3 (w : World) {bk x N : Nat} {ko : Option Addr} {kc : Nat} {P Q : Nat → Prop} (hb : Blk w bk 75 [.slice ko ([boolsN N P, boolsN N Q] : List (List Bool)).length kc]) (hk : Sl w (Old w) ko kc [boolsN N P, boolsN N Q]) (hx : x < N) :
    Rt Try.prog 40 [.int .i64 (x : Int), .pointer (some ⟨bk, 0, none⟩)].toArray w fun v w' => ∃ c : Bool, v = .bool c ∧ (c = true ↔ P x ∨ Q x) ∧ Ext w w' := by
  refine Rt.enter2 Try.func40 Try.ntmps40 rfl rfl ?_
  (repeat (first | (apply WL.pure; rfl; rfl; rfl) | (apply WL.nil) | (apply EX.thenN) | (apply CW.seq) | (apply CW.region) | (apply WL.ld; rfl; rfl; rfl; assumption; rfl)))
  refine WL.elemN (i := 0) rfl rfl rfl rfl rfl hk (by simp) (fun _ => rfl) (fun u q hu => ?_)
  simp only [List.getElem_cons_zero] at hu
  obtain ⟨uo, uc, rfl, hus⟩ := hu.sl
  have hxP : x < (boolsN N P).length := by rw [boolsN_len]; exact hx
  have bP := boolsN_iff (P := P) hx
  have bQ := boolsN_iff (P := Q) hx
  (repeat (apply WL.pure; rfl; rfl; rfl))
  refine WL.elemB rfl rfl rfl rfl rfl hus hxP (wgetB hxP).symm (fun _ => rfl) (fun q => ?_)
  generalize (boolsN N P).getD x false = c at *
  cases c with
  | true =>
    (repeat (first | (apply WL.pure; rfl; rfl; rfl) | (apply WL.nil) | (apply EX.thenN) | (apply WL.pass; rfl; rfl) | (apply CW.ret)))
    exact EX.ret1 rfl rfl ⟨_, rfl, ⟨fun _ => .inl (bP.1 rfl), fun _ => rfl⟩, Ext.refl _⟩
  | false =>
    (repeat (first | (apply WL.pure; rfl; rfl; rfl) | (apply WL.ld; rfl; rfl; rfl; assumption; rfl)))
    refine WL.elemN (i := 1) rfl rfl rfl rfl rfl hk (by simp) (fun _ => rfl) (fun u q hu => ?_)
    simp only [List.getElem_cons_succ, List.getElem_cons_zero] at hu
    obtain ⟨vo, vc, rfl, hvs⟩ := hu.sl
    have hxQ : x < (boolsN N Q).length := by rw [boolsN_len]; exact hx
    (repeat (apply WL.pure; rfl; rfl; rfl))
    refine WL.elemB rfl rfl rfl rfl rfl hvs hxQ (wgetB hxQ).symm (fun _ => rfl) (fun q => ?_)
    generalize (boolsN N Q).getD x false = c at *
    (repeat (first | (apply WL.pure; rfl; rfl; rfl) | (apply WL.nil) | (apply EX.thenN) | (apply CW.ret)))
    exact EX.ret1 rfl rfl ⟨_, rfl, ⟨fun h => .inr (bQ.1 h), fun h => h.elim (fun h => by have := bP.2 h; cases this) bQ.2⟩, Ext.refl _⟩
set_option maxHeartbeats 4000000 in
set_option maxRecDepth 100000 in
theorem label_ok {nx fr : Graph} {lb : List Nat} (hW : WOk nx fr) (hlb : lb.length = nx.length) : ∀ (m : Nat) (t : Ltl), t.nodes ≤ m → okC t → ∀ (w0 : World) (b : Nat) (ao : Option Addr) (cap : Nat), LabAt w0 b nx lb fr → Sl w0 (Old w0) ao cap t.kids →
    Rt Try.prog 23 [labP b, ltlV t.k t.n ao t.kids.length cap].toArray w0 fun v w' => Own w' w0.heap.size 4 Non v (boolsN nx.length (ctlF nx lb fr t)) ∧ Ext w0 w'
  | 0, t, hm => by have := t.nodes_pos; omega
  | m + 1, .mk k n kids, hm => by
    intro hC w0 b ao cap hL hs
    simp only [Ltl.kids, Ltl.k, Ltl.n] at *
    rw [okC] at hC
    obtain ⟨hkl, hn0, hn1, hCk⟩ := hC
    have hn := hW.n
    have hlen := hs.len63
    have hk2 : kids.length ≤ 2 := by
      unfold kidsC at hkl
      split at hkl <;> first | omega | (split at hkl <;> first | omega | (split at hkl <;> omega))
    refine Rt.enter2 Try.func23 Try.ntmps23 rfl rfl ?_
    (repeat (first | (apply CW.seq) | (apply CW.region)))
    refine WL.boxB rfl rfl rfl fun w1 hb2 e1 => ?_
    skip
    refine WL.boxB rfl rfl rfl fun w2 hb3 e2 => ?_
    have hb2 := hb2.ext e2
    have hE := e1.trans e2
    have hz1 := e1.size
    have hz2 := e2.size
    have hl2 := hb2.lt
    have hl3 := hb3.lt
    (repeat (first | (apply WL.pure; rfl; rfl; rfl) | (apply WL.nil) | (apply EX.thenN) | (apply CW.seq) | (apply CW.region) | (apply WL.ld; rfl; rfl; rfl; assumption; rfl)))
    refine WL.call rfl rfl rfl (each_ok w2 (P := fun _ => True) (hL.up hE) hn (fun w x hE2 hx => FnV.mk (f := 36) (cs := []) (Rt.mono (llab1 w x) (fun v w' hv => ⟨true, hv.1, ⟨fun _ => trivial, fun _ => rfl⟩, hv.2⟩)))) ?_
    rintro av w3 ⟨hav, e3⟩
    have hb2 := hb2.ext e3
    have hb3 := hb3.ext e3
    have hE := hE.trans e3
    have hal : ∀ g, av.ownBlock = some g → g < w3.heap.size := fun g hg => (hav.lt g hg).2.1
    have hav := hav.low (B' := w0.heap.size) (Nat.le_trans hz1 hz2)
    (repeat (first | (apply WL.pure; rfl; rfl; rfl) | (apply WL.nil) | (apply EX.thenN) | (apply CW.seq) | (apply CW.region)))
    refine WL.alloc rfl rfl (fun w4 hb6 e4 => ?_)
    have hb2 := hb2.ext e4
    have hb3 := hb3.ext e4
    have hE := hE.trans e4
    have hav := hav.extN e4
    have hl6 := hb6.lt
    have hz3 := e3.size
    (repeat (first | (apply WL.pure; rfl; rfl; rfl) | (apply WL.nil) | (apply EX.thenN) | (apply CW.seq) | (apply CW.region) | (apply WL.lenS; rfl; rfl; rfl) | (apply WL.fa; rfl; rfl; rfl) | (apply WL.ld; rfl; rfl; rfl; assumption; rfl) | (apply CW.block)))
    refine CW.loop (S := Nat × Value × List Raw) (fun s => [(2, .pointer (some ⟨w0.heap.size, 0, none⟩)), (3, .pointer (some ⟨w1.heap.size, 0, none⟩)), (5, av), (6, .pointer (some ⟨w3.heap.size, 0, none⟩)), (12, .slice ao kids.length cap), (13, .int .i64 kids.length), (14, .int .i64 s.1)])
      (fun s w => s.1 ≤ kids.length ∧ Blk w w3.heap.size 75 [s.2.1] ∧ Own w w4.heap.size 34 Non s.2.1 s.2.2 ∧ InnR w (fun b => s.2.1.ownBlock = some b ∨ b = w3.heap.size) s.2.2 ((kids.take s.1).map fun x => boolsN nx.length (ctlF nx lb fr x)) ∧ Chg (fun b => b = w3.heap.size) w4 w)
      (fun s => kids.length - s.1) (0, .slice none 0 0, []) (by repeat (first | exact trivial | refine ⟨rfl, ?_⟩)) ⟨Nat.zero_le _, hb6, Own.nil, InnR.nil, Chg.refl _ _⟩ ?_
    · clear hb6
      rintro ⟨i, kv, vs⟩ w5 ⟨hi, hb6, hkv, hin, hC5⟩
      dsimp only at hi hb6 hkv hin hC5 ⊢
      have hz5 := hC5.size
      have hvl : vs.length = i := by rw [hin.len, List.length_map, List.length_take]; omega
      have hE5 : Ext w0 w5 := hC5.ext hE (fun b hb => by omega)
      have hb2 : Blk w5 w0.heap.size 56 [labP b] := (hC5.block _ (by omega) (by omega)).trans hb2
      have hb3 : Blk w5 w1.heap.size 29 [.int .i64 k, .int .i64 n, .slice ao kids.length cap] := (hC5.block _ (by omega) (by omega)).trans hb3
      have hav5 : Own w5 w0.heap.size 4 Non av (boolsN nx.length fun _ => True) := hav.chg hC5 (fun g hg e => by have := hal g hg; omega)
      (repeat (first | (apply WL.pure; rfl; rfl; rfl) | (apply WL.nil) | (apply EX.thenN) | (apply CW.seq) | (apply CW.region)))
      refine CW.cond rfl (fun h => ?_) (fun h => ?_)
      · have hi' : i < kids.length := by simp at h; omega
        (repeat (first | (apply EX.thenN) | (apply CW.seq) | (apply CW.region) | (apply CW.block) | (apply CW.skip)))
        refine WL.elemN rfl rfl rfl rfl rfl (hs.up hE5) hi' (fun _ => rfl) (fun u q hu => ?_)
        have htk : (kids.take (i + 1)).map (fun x => boolsN nx.length (ctlF nx lb fr x)) = (kids.take i).map (fun x => boolsN nx.length (ctlF nx lb fr x)) ++ [boolsN nx.length (ctlF nx lb fr kids[i])] := by
          rw [List.take_add_one, List.getElem?_eq_getElem hi', List.map_append]; rfl
        have hnode : (kids[i]).nodes ≤ m := by
          have := Ltl.nodes_kid kids _ (List.getElem_mem hi')
          simp only [Ltl.nodes] at hm; omega
        have hCx := okCL_mem hCk (List.getElem_mem hi')
        generalize kids[i] = x at *
        obtain ⟨xo, xc, rfl, hx⟩ := hu.ltl
        skip
        refine WL.alloc rfl rfl (fun w6 hb8 e6 => ?_)
        skip
        refine WL.st rfl rfl rfl hb8 rfl rfl (ones_of rfl) (fun w7 hb8 hg7 => ?_)
        have e7 : Ext w5 w7 := e6.grown hg7 e6.size (fun g hg => by cases hg; exact Nat.le_refl _)
        have hb2 := hb2.ext e7
        have hb3 := hb3.ext e7
        have hb6 := hb6.ext e7
        have hl8 := hb8.lt
        have hz7 := e7.size
        have hkv7 := hkv.extN e7
        have hlk := fun g hg => hkv.lt g hg
        have hE7 := hE5.trans e7
        clear hu e6 hg7
        -- the region
        have hD : Ext w7 (drew w7) := Ext.drew w7
        have hzd := hD.size
        have hb2d := hb2.ext hD
        have hb6d := hb6.ext hD
        have hb8d := hb8.ext hD
        have hK2 : ∀ u, (fun z : World => z.heap[w0.heap.size]? = (drew w7).heap[w0.heap.size]? ∧ z.heap[w3.heap.size]? = (drew w7).heap[w3.heap.size]? ∧ z.heap[w5.heap.size]? = (drew w7).heap[w5.heap.size]?) u → u.heap[w0.heap.size]? = (drew w7).heap[w0.heap.size]? := fun _ h => h.1
        have hK6 : ∀ u, (fun z : World => z.heap[w0.heap.size]? = (drew w7).heap[w0.heap.size]? ∧ z.heap[w3.heap.size]? = (drew w7).heap[w3.heap.size]? ∧ z.heap[w5.heap.size]? = (drew w7).heap[w5.heap.size]?) u → u.heap[w3.heap.size]? = (drew w7).heap[w3.heap.size]? := fun _ h => h.2.1
        have hK8 : ∀ u, (fun z : World => z.heap[w0.heap.size]? = (drew w7).heap[w0.heap.size]? ∧ z.heap[w3.heap.size]? = (drew w7).heap[w3.heap.size]? ∧ z.heap[w5.heap.size]? = (drew w7).heap[w5.heap.size]?) u → u.heap[w5.heap.size]? = (drew w7).heap[w5.heap.size]? := fun _ h => h.2.2
        (repeat (first | (apply WL.nil) | (apply EX.thenN)))
        refine CW.drawE (fun z : World => z.heap[w0.heap.size]? = (drew w7).heap[w0.heap.size]? ∧ z.heap[w3.heap.size]? = (drew w7).heap[w3.heap.size]? ∧ z.heap[w5.heap.size]? = (drew w7).heap[w5.heap.size]?) [(0, true), (1, true), (2, true), (3, false), (4, false), (5, false)] 6 mixed (by kernel_rfl) ⟨rfl, rfl, rfl⟩ ?_
        (repeat (refine HL.ldK (by assumption) rfl rfl rfl rfl (by assumption) rfl ?_))
        refine HL.ldAQ hK8 rfl rfl rfl rfl hb8d rfl ?_
        refine HL.mut rfl (WL.call rfl rfl rfl (label_ok hW hlb m x hnode hCx (drew w7) b xo xc (hL.up (hE7.trans hD)) (hx.up (e7.trans hD))) ?_)
        rintro lv w8 ⟨hlv, e8⟩
        have hz8 := e8.size
        refine WL.nil (EX.mut ⟨e8.block _ (by omega), e8.block _ (by omega), e8.block _ (by omega)⟩ ?_)
        obtain ⟨lo, lc, hlve⟩ := hlv.val
        subst hlve
        have hkv8 := (hkv7.extN hD).extN e8
        refine HL.app1 (α := Raw) (F := Non) (bytes := 24) (yv := (⟨.slice lo (boolsN nx.length (ctlF nx lb fr x)).length lc⟩ : Raw)) rfl rfl rfl rfl (fun _ => rfl) rfl rfl (fun _ => rfl) hkv8 (Rd.mkRaw _ _ _ rfl) (by omega) (fun _ h => h.elim) (by decide) (by unfold maxLen; omega) (by omega)
          (fun z hz => ⟨(hz.block _ (by omega) (fun e => by have := hlk _ e.symm; omega)).trans (e8.block _ (by omega)), (hz.block _ (by omega) (fun e => by have := hlk _ e.symm; omega)).trans (e8.block _ (by omega)), (hz.block _ (by omega) (fun e => by have := hlk _ e.symm; omega)).trans (e8.block _ (by omega))⟩) (fun kv' w9 q9 ho9 hg9 hnb9 => ?_)
        obtain ⟨ko', kc', rfl⟩ := ho9.val
        have hb69 := ((hb6d.ext e8).kept hg9 (fun e => by have := hlk _ e.symm; omega))
        have hz9 := hg9.size
        refine HL.nil ?_
        refine EX.tail rfl (WL.st rfl rfl rfl hb69 rfl rfl (ones_of rfl) (fun w10 hb10 hg10 => WL.nil (EX.tailE ?_)))
        have hlvs : Rd w8 (Fz w8 (fun b => kv.ownBlock = some b ∨ b = w3.heap.size)) (.slice lo (boolsN nx.length (ctlF nx lb fr x)).length lc) (boolsN nx.length (ctlF nx lb fr x)) :=
          hlv.rd.mono (fun _ _ => rfl) (fun g hg => hg.elim (fun h => h.elim) (fun hg => ⟨(hlv.lt g hg).2.1, fun h => by
            have h1 := (hlv.lt g hg).1
            rcases h with h | h
            · have := hlk g h; omega
            · omega⟩))
        have hin8 := (hin.to (M' := fun b => kv.ownBlock = some b ∨ b = w3.heap.size) (Chg.of_ext _ ((e7.trans hD).trans e8)) (fun _ h => .inl h)).push hlvs
        have hC9 : Chg (fun b => kv.ownBlock = some b ∨ b = w3.heap.size) w8 w10 := ((Chg.of_grown hg9).wk (fun _ h => .inl h)).grown hg10 (fun g hg => by cases hg; exact .inr rfl)
        have hin10 := hin8.to (M' := fun b => Value.ownBlock (.slice ko' (vs ++ [(⟨.slice lo (boolsN nx.length (ctlF nx lb fr x)).length lc⟩ : Raw)]).length kc') = some b ∨ b = w3.heap.size) hC9 (fun g hg => hg.elim (fun hg => (hnb9 g hg).imp .inl id) (fun hg => .inl (.inr hg)))
        rw [← htk] at hin10
        have hC10 : Chg (fun b => b = w3.heap.size) w4 w10 := (hC5.trans (Chg.of_ext _ ((e7.trans hD).trans e8))).then hC9 (fun g hg => hg.elim (fun h => .inr (hlk g h).1) .inl)
        (repeat (first | (apply WL.add; rfl; rfl; rfl; rfl; omega; omega) | (apply WL.pure; rfl; rfl; rfl) | (apply WL.nil) | (apply EX.thenN) | (apply CW.region) | (apply EX.inN)))
        exact EX.back (i + 1, _, vs ++ [_]) (by repeat (first | exact trivial | refine ⟨rfl, ?_⟩)) ⟨hi', hb10, ho9.keptN hg10 (fun g hg e => by
          have := Option.some.inj e
          rcases hnb9 g hg with h | h
          · have := hlk g h; omega
          · omega), hin10, hC10⟩ (by dsimp only; omega)
      · have hie : i = kids.length := by simp at h; omega
        subst hie
        rw [List.take_length] at hin
        obtain ⟨ko, kc, rfl, hks⟩ := hin.old hkv
        clear hin hkv hi h hC5 hvl
        obtain ⟨ao2, ac2, rfl, has⟩ := hav5.asSl
        (repeat (first | (apply WL.pure; rfl; rfl; rfl) | (apply WL.nil) | (apply EX.thenN) | (apply CW.seq) | (apply CW.region) | (apply WL.fa; rfl; rfl; rfl) | (apply WL.ld; rfl; rfl; rfl; assumption; rfl) | (apply CW.block) | (apply CW.exit) | (apply EX.thenX) | (apply EX.inX)))
        refine CW.cond rfl (fun h => ?_) (fun h => ?_)
        · obtain rfl : k = 1 := by simpa using h
          have hkn : kids.length = 0 := by have : kidsC 1 = 0 := rfl; omega
          obtain rfl : kids = [] := List.eq_nil_of_length_eq_zero hkn
          (repeat (first | (apply WL.pure; rfl; rfl; rfl) | (apply WL.nil) | (apply EX.thenN) | (apply CW.seq) | (apply CW.region) | (apply CW.ret) | (apply EX.thenR) | (apply EX.inR)))
          exact EX.ret1 rfl rfl ⟨hav5, hE5⟩
        have n1 : k ≠ 1 := by simpa using h
        clear h
        (repeat (first | (apply WL.pure; rfl; rfl; rfl) | (apply WL.nil) | (apply EX.thenN) | (apply CW.seq) | (apply CW.region)))
        refine CW.cond rfl (fun h => ?_) (fun h => ?_)
        · obtain rfl : k = 3 := by simpa using h
          have hkn : kids.length = 0 := by have : kidsC 3 = 0 := rfl; omega
          obtain rfl : kids = [] := List.eq_nil_of_length_eq_zero hkn
          (repeat (first | (apply CW.seq) | (apply CW.region) | (apply WL.makeFunc; rfl; rfl; rfl; rfl) | (apply WL.ld; rfl; rfl; rfl; assumption; rfl)))
          refine WL.call rfl rfl rfl (each_ok w5 (P := fun i => lb.getD i 0 >>> n.toNat &&& 1 = 1) (hL.up hE5) hn (fun w x hE2 hx => FnV.mk (f := 37) (llab2 w (hL.up (hE5.trans hE2)) (hb2.ext hE2) (hb3.ext hE2) (by rw [hlb]; exact hx) hn0))) ?_
          rintro _ w6 ⟨ho, e6⟩
          (repeat (first | (apply WL.pure; rfl; rfl; rfl) | (apply WL.nil) | (apply EX.thenN) | (apply CW.ret) | (apply EX.thenR) | (apply EX.inR)))
          exact EX.ret1 rfl rfl ⟨ho.low hE5.size, hE5.trans e6⟩
        have n3 : k ≠ 3 := by simpa using h
        clear h
        (repeat (first | (apply WL.pure; rfl; rfl; rfl) | (apply WL.nil) | (apply EX.thenN) | (apply CW.seq) | (apply CW.region)))
        refine CW.cond rfl (fun h => ?_) (fun h => ?_)
        · obtain rfl : k = 4 := by simpa using h
          have hkn : kids.length = 1 := by have : kidsC 4 = 1 := rfl; omega
          obtain ⟨x, rfl⟩ := List.length_eq_one_iff.1 hkn
          have hks : Sl w5 (Old w5) ko kc [boolsN nx.length (ctlF nx lb fr x)] := hks
          have hSE : ∀ z, (fun z : World => Ext w5 z) z → Ext w5 z := fun _ h => h
          (repeat (apply CW.seq))
          refine CW.drawH (fun z : World => Ext w5 z) [(0, true), (1, true), (2, true), (3, true), (4, false), (5, true)] mixed (by kernel_rfl) (Ext.drew w5) ?_
          (repeat (refine HL.ld (by assumption) rfl rfl rfl rfl (by assumption) rfl ?_))
          refine HL.elemN (k := 0) hSE rfl rfl rfl rfl rfl rfl rfl (fun _ h => h) hks (by simp) (fun _ => rfl) (fun u0 q0 hu0 => ?_)
          obtain ⟨uo0, uc0, rfl, hs0⟩ := hu0.sl
          skip
          refine HL.mut rfl (WL.call rfl rfl rfl (lnot_ok (drew w5) (hL.up (hE5.trans (Ext.drew w5))) hn (hs0.up (Ext.drew w5))) ?_)
          rintro v6 w6 ⟨ho6, e6⟩
          have x6 : Ext w5 w6 := Ext.trans (Ext.drew w5) e6
          refine WL.nil (EX.mut x6 ?_)
          (repeat (first | (apply HL.pure; rfl; rfl; rfl; rfl) | (apply HL.nil)))
          (repeat (first | (apply EX.thenN) | (apply CW.ret) | (apply EX.thenR) | (apply EX.inR)))
          exact EX.ret1 rfl rfl ⟨ho6.low (hE5.trans (Ext.drew w5)).size, hE5.trans x6⟩
        have n4 : k ≠ 4 := by simpa using h
        clear h
        (repeat (first | (apply WL.pure; rfl; rfl; rfl) | (apply WL.nil) | (apply EX.thenN) | (apply CW.seq) | (apply CW.region)))
        refine CW.cond rfl (fun h => ?_) (fun h => ?_)
        · obtain rfl : k = 5 := by simpa using h
          have hkn : kids.length = 2 := by have : kidsC 5 = 2 := rfl; omega
          obtain ⟨x, y, rfl⟩ := list_two hkn
          have hks : Sl w5 (Old w5) ko kc [boolsN nx.length (ctlF nx lb fr x), boolsN nx.length (ctlF nx lb fr y)] := hks
          have hSE : ∀ z, (fun z : World => Ext w5 z) z → Ext w5 z := fun _ h => h
          (repeat (apply CW.seq))
          refine CW.drawH (fun z : World => Ext w5 z) [(0, true), (1, true), (2, true), (3, true), (4, true), (5, true), (6, true), (7, false), (8, true)] mixed (by kernel_rfl) (Ext.drew w5) ?_
          (repeat (refine HL.ld (by assumption) rfl rfl rfl rfl (by assumption) rfl ?_))
          refine HL.elemN (k := 0) hSE rfl rfl rfl rfl rfl rfl rfl (fun _ h => h) hks (by simp) (fun _ => rfl) (fun u0 q0 hu0 => ?_)
          obtain ⟨uo0, uc0, rfl, hs0⟩ := hu0.sl
          (repeat (refine HL.ld (by assumption) rfl rfl rfl rfl (by assumption) rfl ?_))
          refine HL.elemN (k := 1) hSE rfl rfl rfl rfl rfl rfl rfl (fun _ h => h) hks (by simp) (fun _ => rfl) (fun u1 q1 hu1 => ?_)
          obtain ⟨uo1, uc1, rfl, hs1⟩ := hu1.sl
          skip
          refine HL.mut rfl (WL.call rfl rfl rfl (lboth_ok (drew w5) (hL.up (hE5.trans (Ext.drew w5))) hn (hs0.up (Ext.drew w5)) (hs1.up (Ext.drew w5))) ?_)
          rintro v6 w6 ⟨ho6, e6⟩
          have x6 : Ext w5 w6 := Ext.trans (Ext.drew w5) e6
          refine WL.nil (EX.mut x6 ?_)
          (repeat (first | (apply HL.pure; rfl; rfl; rfl; rfl) | (apply HL.nil)))
          (repeat (first | (apply EX.thenN) | (apply CW.ret) | (apply EX.thenR) | (apply EX.inR)))
          exact EX.ret1 rfl rfl ⟨ho6.low (hE5.trans (Ext.drew w5)).size, hE5.trans x6⟩
        have n5 : k ≠ 5 := by simpa using h
        clear h
        (repeat (first | (apply WL.pure; rfl; rfl; rfl) | (apply WL.nil) | (apply EX.thenN) | (apply CW.seq) | (apply CW.region)))
        refine CW.cond rfl (fun h => ?_) (fun h => ?_)
        · obtain rfl : k = 6 := by simpa using h
          have hkn : kids.length = 2 := by have : kidsC 6 = 2 := rfl; omega
          obtain ⟨x, y, rfl⟩ := list_two hkn
          have hks : Sl w5 (Old w5) ko kc [boolsN nx.length (ctlF nx lb fr x), boolsN nx.length (ctlF nx lb fr y)] := hks
          (repeat (first | (apply CW.seq) | (apply CW.region) | (apply WL.makeFunc; rfl; rfl; rfl; rfl) | (apply WL.ld; rfl; rfl; rfl; assumption; rfl)))
          refine WL.call rfl rfl rfl (each_ok w5 (P := fun i => ctlF nx lb fr x i ∨ ctlF nx lb fr y i) (hL.up hE5) hn (fun w z hE2 hz => FnV.mk (f := 40) (llab3 w (hb6.ext hE2) (hks.up hE2) hz))) ?_
          rintro _ w6 ⟨ho, e6⟩
          (repeat (first | (apply WL.pure; rfl; rfl; rfl) | (apply WL.nil) | (apply EX.thenN) | (apply CW.ret) | (apply EX.thenR) | (apply EX.inR)))
          exact EX.ret1 rfl rfl ⟨ho.low hE5.size, hE5.trans e6⟩
        have n6 : k ≠ 6 := by simpa using h
        clear h
        (repeat (first | (apply WL.pure; rfl; rfl; rfl) | (apply WL.nil) | (apply EX.thenN) | (apply CW.seq) | (apply CW.region)))
        refine CW.cond rfl (fun h => ?_) (fun h => ?_)
        · obtain rfl : k = 7 := by simpa using h
          have hkn : kids.length = 1 := by have : kidsC 7 = 1 := rfl; omega
          obtain ⟨x, rfl⟩ := List.length_eq_one_iff.1 hkn
          have hks : Sl w5 (Old w5) ko kc [boolsN nx.length (ctlF nx lb fr x)] := hks
          have hSE : ∀ z, (fun z : World => Ext w5 z) z → Ext w5 z := fun _ h => h
          (repeat (apply CW.seq))
          refine CW.drawH (fun z : World => Ext w5 z) [(0, true), (1, true), (2, true), (3, true), (4, false), (5, true)] mixed (by kernel_rfl) (Ext.drew w5) ?_
          (repeat (refine HL.ld (by assumption) rfl rfl rfl rfl (by assumption) rfl ?_))
          refine HL.elemN (k := 0) hSE rfl rfl rfl rfl rfl rfl rfl (fun _ h => h) hks (by simp) (fun _ => rfl) (fun u0 q0 hu0 => ?_)
          obtain ⟨uo0, uc0, rfl, hs0⟩ := hu0.sl
          skip
          refine HL.mut rfl (WL.call rfl rfl rfl (lex_ok (drew w5) (hL.up (hE5.trans (Ext.drew w5))) hW.g hn (hs0.up (Ext.drew w5))) ?_)
          rintro v6 w6 ⟨ho6, e6⟩
          have x6 : Ext w5 w6 := Ext.trans (Ext.drew w5) e6
          refine WL.nil (EX.mut x6 ?_)
          (repeat (first | (apply HL.pure; rfl; rfl; rfl; rfl) | (apply HL.nil)))
          (repeat (first | (apply EX.thenN) | (apply CW.ret) | (apply EX.thenR) | (apply EX.inR)))
          exact EX.ret1 rfl rfl ⟨ho6.low (hE5.trans (Ext.drew w5)).size, hE5.trans x6⟩
        have n7 : k ≠ 7 := by simpa using h
        clear h
        (repeat (first | (apply WL.pure; rfl; rfl; rfl) | (apply WL.nil) | (apply EX.thenN) | (apply CW.seq) | (apply CW.region)))
        refine CW.cond rfl (fun h => ?_) (fun h => ?_)
        · obtain rfl : k = 8 := by simpa using h
          have hkn : kids.length = 1 := by have : kidsC 8 = 1 := rfl; omega
          obtain ⟨x, rfl⟩ := List.length_eq_one_iff.1 hkn
          have hks : Sl w5 (Old w5) ko kc [boolsN nx.length (ctlF nx lb fr x)] := hks
          have hSE : ∀ z, (fun z : World => Ext w5 z) z → Ext w5 z := fun _ h => h
          (repeat (apply CW.seq))
          refine CW.drawH (fun z : World => Ext w5 z) [(0, true), (1, true), (2, true), (3, true), (4, true), (5, false), (6, true)] mixed (by kernel_rfl) (Ext.drew w5) ?_
          (repeat (first | (apply HL.pure; rfl; rfl; rfl; rfl) | (refine HL.ld (by assumption) rfl rfl rfl rfl (by assumption) rfl ?_)))
          refine HL.elemN (k := 0) hSE rfl rfl rfl rfl rfl rfl rfl (fun _ h => h) hks (by simp) (fun _ => rfl) (fun u0 q0 hu0 => ?_)
          obtain ⟨uo0, uc0, rfl, hs0⟩ := hu0.sl
          skip
          refine HL.mut rfl (WL.call rfl rfl rfl (leu_ok (drew w5) (hL.up (hE5.trans (Ext.drew w5))) hW.g hn (has.up (Ext.drew w5)) (hs0.up (Ext.drew w5))) ?_)
          rintro v6 w6 ⟨ho6, e6⟩
          have x6 : Ext w5 w6 := Ext.trans (Ext.drew w5) e6
          refine WL.nil (EX.mut x6 ?_)
          (repeat (first | (apply HL.pure; rfl; rfl; rfl; rfl) | (apply HL.nil)))
          (repeat (first | (apply EX.thenN) | (apply CW.ret) | (apply EX.thenR) | (apply EX.inR)))
          exact EX.ret1 rfl rfl ⟨ho6.low (hE5.trans (Ext.drew w5)).size, hE5.trans x6⟩
        have n8 : k ≠ 8 := by simpa using h
        clear h
        (repeat (first | (apply WL.pure; rfl; rfl; rfl) | (apply WL.nil) | (apply EX.thenN) | (apply CW.seq) | (apply CW.region)))
        refine CW.cond rfl (fun h => ?_) (fun h => ?_)
        · obtain rfl : k = 9 := by simpa using h
          have hkn : kids.length = 1 := by have : kidsC 9 = 1 := rfl; omega
          obtain ⟨x, rfl⟩ := List.length_eq_one_iff.1 hkn
          have hks : Sl w5 (Old w5) ko kc [boolsN nx.length (ctlF nx lb fr x)] := hks
          have hSE : ∀ z, (fun z : World => Ext w5 z) z → Ext w5 z := fun _ h => h
          (repeat (apply CW.seq))
          refine CW.drawH (fun z : World => Ext w5 z) [(0, true), (1, true), (2, true), (3, true), (4, false), (5, true)] mixed (by kernel_rfl) (Ext.drew w5) ?_
          (repeat (refine HL.ld (by assumption) rfl rfl rfl rfl (by assumption) rfl ?_))
          refine HL.elemN (k := 0) hSE rfl rfl rfl rfl rfl rfl rfl (fun _ h => h) hks (by simp) (fun _ => rfl) (fun u0 q0 hu0 => ?_)
          obtain ⟨uo0, uc0, rfl, hs0⟩ := hu0.sl
          skip
          refine HL.mut rfl (WL.call rfl rfl rfl (leg_ok (drew w5) (hL.up (hE5.trans (Ext.drew w5))) hW (hs0.up (Ext.drew w5))) ?_)
          rintro v6 w6 ⟨ho6, e6⟩
          have x6 : Ext w5 w6 := Ext.trans (Ext.drew w5) e6
          refine WL.nil (EX.mut x6 ?_)
          (repeat (first | (apply HL.pure; rfl; rfl; rfl; rfl) | (apply HL.nil)))
          (repeat (first | (apply EX.thenN) | (apply CW.ret) | (apply EX.thenR) | (apply EX.inR)))
          exact EX.ret1 rfl rfl ⟨ho6.low (hE5.trans (Ext.drew w5)).size, hE5.trans x6⟩
        have n9 : k ≠ 9 := by simpa using h
        clear h
        (repeat (first | (apply WL.pure; rfl; rfl; rfl) | (apply WL.nil) | (apply EX.thenN) | (apply CW.seq) | (apply CW.region)))
        refine CW.cond rfl (fun h => ?_) (fun h => ?_)
        · obtain rfl : k = 10 := by simpa using h
          have hkn : kids.length = 2 := by have : kidsC 10 = 2 := rfl; omega
          obtain ⟨x, y, rfl⟩ := list_two hkn
          have hks : Sl w5 (Old w5) ko kc [boolsN nx.length (ctlF nx lb fr x), boolsN nx.length (ctlF nx lb fr y)] := hks
          have hSE : ∀ z, (fun z : World => Ext w5 z) z → Ext w5 z := fun _ h => h
          (repeat (apply CW.seq))
          refine CW.drawH (fun z : World => Ext w5 z) [(0, true), (1, true), (2, true), (3, true), (4, true), (5, true), (6, true), (7, false), (8, true)] mixed (by kernel_rfl) (Ext.drew w5) ?_
          (repeat (refine HL.ld (by assumption) rfl rfl rfl rfl (by assumption) rfl ?_))
          refine HL.elemN (k := 0) hSE rfl rfl rfl rfl rfl rfl rfl (fun _ h => h) hks (by simp) (fun _ => rfl) (fun u0 q0 hu0 => ?_)
          obtain ⟨uo0, uc0, rfl, hs0⟩ := hu0.sl
          (repeat (refine HL.ld (by assumption) rfl rfl rfl rfl (by assumption) rfl ?_))
          refine HL.elemN (k := 1) hSE rfl rfl rfl rfl rfl rfl rfl (fun _ h => h) hks (by simp) (fun _ => rfl) (fun u1 q1 hu1 => ?_)
          obtain ⟨uo1, uc1, rfl, hs1⟩ := hu1.sl
          skip
          refine HL.mut rfl (WL.call rfl rfl rfl (leu_ok (drew w5) (hL.up (hE5.trans (Ext.drew w5))) hW.g hn (hs0.up (Ext.drew w5)) (hs1.up (Ext.drew w5))) ?_)
          rintro v6 w6 ⟨ho6, e6⟩
          have x6 : Ext w5 w6 := Ext.trans (Ext.drew w5) e6
          refine WL.nil (EX.mut x6 ?_)
          (repeat (first | (apply HL.pure; rfl; rfl; rfl; rfl) | (apply HL.nil)))
          (repeat (first | (apply EX.thenN) | (apply CW.ret) | (apply EX.thenR) | (apply EX.inR)))
          exact EX.ret1 rfl rfl ⟨ho6.low (hE5.trans (Ext.drew w5)).size, hE5.trans x6⟩
        have n10 : k ≠ 10 := by simpa using h
        clear h
        (repeat (first | (apply WL.pure; rfl; rfl; rfl) | (apply WL.nil) | (apply EX.thenN) | (apply CW.seq) | (apply CW.region)))
        refine CW.cond rfl (fun h => ?_) (fun h => ?_)
        · obtain rfl : k = 11 := by simpa using h
          have hkn : kids.length = 1 := by have : kidsC 11 = 1 := rfl; omega
          obtain ⟨x, rfl⟩ := List.length_eq_one_iff.1 hkn
          have hks : Sl w5 (Old w5) ko kc [boolsN nx.length (ctlF nx lb fr x)] := hks
          have hSE : ∀ z, (fun z : World => Ext w5 z) z → Ext w5 z := fun _ h => h
          (repeat (apply CW.seq))
          refine CW.drawH (fun z : World => Ext w5 z) [(0, true), (1, true), (2, true), (3, true), (4, true), (5, true), (6, false), (7, false), (8, false), (9, true)] mixed (by kernel_rfl) (Ext.drew w5) ?_
          (repeat (refine HL.ld (by assumption) rfl rfl rfl rfl (by assumption) rfl ?_))
          refine HL.elemN (k := 0) hSE rfl rfl rfl rfl rfl rfl rfl (fun _ h => h) hks (by simp) (fun _ => rfl) (fun u0 q0 hu0 => ?_)
          obtain ⟨uo0, uc0, rfl, hs0⟩ := hu0.sl
          skip
          refine HL.mut rfl (WL.call rfl rfl rfl (lnot_ok (drew w5) (hL.up (hE5.trans (Ext.drew w5))) hn (hs0.up (Ext.drew w5))) ?_)
          rintro v6 w6 ⟨ho6, e6⟩
          have x6 : Ext w5 w6 := Ext.trans (Ext.drew w5) e6
          refine WL.nil (EX.mut x6 ?_)
          obtain ⟨do6, dc6, rfl, hd6⟩ := ho6.asSl
          skip
          refine HL.mut rfl (WL.call rfl rfl rfl (lex_ok w6 (hL.up (hE5.trans x6)) hW.g hn hd6) ?_)
          rintro v7 w7 ⟨ho7, e7⟩
          have x7 : Ext w5 w7 := Ext.trans x6 e7
          refine WL.nil (EX.mut x7 ?_)
          obtain ⟨do7, dc7, rfl, hd7⟩ := ho7.asSl
          skip
          refine HL.mut rfl (WL.call rfl rfl rfl (lnot_ok w7 (hL.up (hE5.trans x7)) hn hd7) ?_)
          rintro v8 w8 ⟨ho8, e8⟩
          have x8 : Ext w5 w8 := Ext.trans x7 e8
          refine WL.nil (EX.mut x8 ?_)
          (repeat (first | (apply HL.pure; rfl; rfl; rfl; rfl) | (apply HL.nil)))
          (repeat (first | (apply EX.thenN) | (apply CW.ret) | (apply EX.thenR) | (apply EX.inR)))
          exact EX.ret1 rfl rfl ⟨ho8.low (hE5.trans x7).size, hE5.trans x8⟩
        have n11 : k ≠ 11 := by simpa using h
        clear h
        (repeat (first | (apply WL.pure; rfl; rfl; rfl) | (apply WL.nil) | (apply EX.thenN) | (apply CW.seq) | (apply CW.region)))
        refine CW.cond rfl (fun h => ?_) (fun h => ?_)
        · obtain rfl : k = 12 := by simpa using h
          have hkn : kids.length = 1 := by have : kidsC 12 = 1 := rfl; omega
          obtain ⟨x, rfl⟩ := List.length_eq_one_iff.1 hkn
          have hks : Sl w5 (Old w5) ko kc [boolsN nx.length (ctlF nx lb fr x)] := hks
          have hSE : ∀ z, (fun z : World => Ext w5 z) z → Ext w5 z := fun _ h => h
          (repeat (apply CW.seq))
          refine CW.drawH (fun z : World => Ext w5 z) [(0, true), (1, true), (2, true), (3, true), (4, true), (5, true), (6, false), (7, false), (8, false), (9, true)] mixed (by kernel_rfl) (Ext.drew w5) ?_
          (repeat (refine HL.ld (by assumption) rfl rfl rfl rfl (by assumption) rfl ?_))
          refine HL.elemN (k := 0) hSE rfl rfl rfl rfl rfl rfl rfl (fun _ h => h) hks (by simp) (fun _ => rfl) (fun u0 q0 hu0 => ?_)
          obtain ⟨uo0, uc0, rfl, hs0⟩ := hu0.sl
          skip
          refine HL.mut rfl (WL.call rfl rfl rfl (lnot_ok (drew w5) (hL.up (hE5.trans (Ext.drew w5))) hn (hs0.up (Ext.drew w5))) ?_)
          rintro v6 w6 ⟨ho6, e6⟩
          have x6 : Ext w5 w6 := Ext.trans (Ext.drew w5) e6
          refine WL.nil (EX.mut x6 ?_)
          obtain ⟨do6, dc6, rfl, hd6⟩ := ho6.asSl
          skip
          refine HL.mut rfl (WL.call rfl rfl rfl (leg_ok w6 (hL.up (hE5.trans x6)) hW hd6) ?_)
          rintro v7 w7 ⟨ho7, e7⟩
          have x7 : Ext w5 w7 := Ext.trans x6 e7
          refine WL.nil (EX.mut x7 ?_)
          obtain ⟨do7, dc7, rfl, hd7⟩ := ho7.asSl
          skip
          refine HL.mut rfl (WL.call rfl rfl rfl (lnot_ok w7 (hL.up (hE5.trans x7)) hn hd7) ?_)
          rintro v8 w8 ⟨ho8, e8⟩
          have x8 : Ext w5 w8 := Ext.trans x7 e8
          refine WL.nil (EX.mut x8 ?_)
          (repeat (first | (apply HL.pure; rfl; rfl; rfl; rfl) | (apply HL.nil)))
          (repeat (first | (apply EX.thenN) | (apply CW.ret) | (apply EX.thenR) | (apply EX.inR)))
          exact EX.ret1 rfl rfl ⟨ho8.low (hE5.trans x7).size, hE5.trans x8⟩
        have n12 : k ≠ 12 := by simpa using h
        clear h
        (repeat (first | (apply WL.pure; rfl; rfl; rfl) | (apply WL.nil) | (apply EX.thenN) | (apply CW.seq) | (apply CW.region)))
        refine CW.cond rfl (fun h => ?_) (fun h => ?_)
        · obtain rfl : k = 13 := by simpa using h
          have hkn : kids.length = 1 := by have : kidsC 13 = 1 := rfl; omega
          obtain ⟨x, rfl⟩ := List.length_eq_one_iff.1 hkn
          have hks : Sl w5 (Old w5) ko kc [boolsN nx.length (ctlF nx lb fr x)] := hks
          have hSE : ∀ z, (fun z : World => Ext w5 z) z → Ext w5 z := fun _ h => h
          (repeat (apply CW.seq))
          refine CW.drawH (fun z : World => Ext w5 z) [(0, true), (1, true), (2, true), (3, true), (4, true), (5, true), (6, true), (7, false), (8, false), (9, false), (10, true)] mixed (by kernel_rfl) (Ext.drew w5) ?_
          (repeat (first | (apply HL.pure; rfl; rfl; rfl; rfl) | (refine HL.ld (by assumption) rfl rfl rfl rfl (by assumption) rfl ?_)))
          refine HL.elemN (k := 0) hSE rfl rfl rfl rfl rfl rfl rfl (fun _ h => h) hks (by simp) (fun _ => rfl) (fun u0 q0 hu0 => ?_)
          obtain ⟨uo0, uc0, rfl, hs0⟩ := hu0.sl
          skip
          refine HL.mut rfl (WL.call rfl rfl rfl (lnot_ok (drew w5) (hL.up (hE5.trans (Ext.drew w5))) hn (hs0.up (Ext.drew w5))) ?_)
          rintro v6 w6 ⟨ho6, e6⟩
          have x6 : Ext w5 w6 := Ext.trans (Ext.drew w5) e6
          refine WL.nil (EX.mut x6 ?_)
          obtain ⟨do6, dc6, rfl, hd6⟩ := ho6.asSl
          skip
          refine HL.mut rfl (WL.call rfl rfl rfl (leu_ok w6 (hL.up (hE5.trans x6)) hW.g hn (has.up x6) hd6) ?_)
          rintro v7 w7 ⟨ho7, e7⟩
          have x7 : Ext w5 w7 := Ext.trans x6 e7
          refine WL.nil (EX.mut x7 ?_)
          obtain ⟨do7, dc7, rfl, hd7⟩ := ho7.asSl
          skip
          refine HL.mut rfl (WL.call rfl rfl rfl (lnot_ok w7 (hL.up (hE5.trans x7)) hn hd7) ?_)
          rintro v8 w8 ⟨ho8, e8⟩
          have x8 : Ext w5 w8 := Ext.trans x7 e8
          refine WL.nil (EX.mut x8 ?_)
          (repeat (first | (apply HL.pure; rfl; rfl; rfl; rfl) | (apply HL.nil)))
          (repeat (first | (apply EX.thenN) | (apply CW.ret) | (apply EX.thenR) | (apply EX.inR)))
          exact EX.ret1 rfl rfl ⟨ho8.low (hE5.trans x7).size, hE5.trans x8⟩
        have n13 : k ≠ 13 := by simpa using h
        clear h
        (repeat (first | (apply WL.pure; rfl; rfl; rfl) | (apply WL.nil) | (apply EX.thenN) | (apply CW.seq) | (apply CW.region)))
        refine CW.cond rfl (fun h => ?_) (fun h => ?_)
        · obtain rfl : k = 14 := by simpa using h
          have hkn : kids.length = 2 := by have : kidsC 14 = 2 := rfl; omega
          obtain ⟨x, y, rfl⟩ := list_two hkn
          have hks : Sl w5 (Old w5) ko kc [boolsN nx.length (ctlF nx lb fr x), boolsN nx.length (ctlF nx lb fr y)] := hks
          have hSE : ∀ z, (fun z : World => Ext w5 z) z → Ext w5 z := fun _ h => h
          (repeat (apply CW.seq))
          refine CW.drawH (fun z : World => Ext w5 z) [(0, true), (1, true), (2, true), (3, true), (4, true), (5, true), (6, true), (7, false), (8, true)] mixed (by kernel_rfl) (Ext.drew w5) ?_
          (repeat (refine HL.ld (by assumption) rfl rfl rfl rfl (by assumption) rfl ?_))
          refine HL.elemN (k := 0) hSE rfl rfl rfl rfl rfl rfl rfl (fun _ h => h) hks (by simp) (fun _ => rfl) (fun u0 q0 hu0 => ?_)
          obtain ⟨uo0, uc0, rfl, hs0⟩ := hu0.sl
          (repeat (refine HL.ld (by assumption) rfl rfl rfl rfl (by assumption) rfl ?_))
          refine HL.elemN (k := 1) hSE rfl rfl rfl rfl rfl rfl rfl (fun _ h => h) hks (by simp) (fun _ => rfl) (fun u1 q1 hu1 => ?_)
          obtain ⟨uo1, uc1, rfl, hs1⟩ := hu1.sl
          skip
          refine HL.mut rfl (WL.call rfl rfl rfl (lau_ok (drew w5) (hL.up (hE5.trans (Ext.drew w5))) hW (hs0.up (Ext.drew w5)) (hs1.up (Ext.drew w5))) ?_)
          rintro v6 w6 ⟨ho6, e6⟩
          have x6 : Ext w5 w6 := Ext.trans (Ext.drew w5) e6
          refine WL.nil (EX.mut x6 ?_)
          (repeat (first | (apply HL.pure; rfl; rfl; rfl; rfl) | (apply HL.nil)))
          (repeat (first | (apply EX.thenN) | (apply CW.ret) | (apply EX.thenR) | (apply EX.inR)))
          exact EX.ret1 rfl rfl ⟨ho6.low (hE5.trans (Ext.drew w5)).size, hE5.trans x6⟩
        have n14 : k ≠ 14 := by simpa using h
        clear h
        obtain rfl : k = 2 := by
          unfold kidsC at hkl
          have h0 : 0 ≤ (kids.length : Int) := by omega
          split at hkl
          · omega
          split at hkl
          · omega
          split at hkl
          · omega
          omega
        (repeat (first | (apply WL.pure; rfl; rfl; rfl) | (apply EX.thenN) | (apply CW.seq) | (apply CW.region) | (apply WL.ld; rfl; rfl; rfl; assumption; rfl) | (apply EX.inN) | (apply CW.skip)))
        refine WL.call rfl rfl rfl (lnot_ok w5 (hL.up hE5) hn has) ?_
        rintro _ w6 ⟨ho, e6⟩
        have hfe : (boolsN nx.length fun i => ¬ True) = boolsN nx.length (ctlF nx lb fr (.mk 2 n kids)) := boolsN_congr (fun i _ => ⟨fun h => absurd trivial h, fun h => absurd h (fun h => by cases h)⟩)
        rw [hfe] at ho
        (repeat (first | (apply WL.pure; rfl; rfl; rfl) | (apply WL.nil) | (apply EX.thenN) | (apply CW.ret)))
        exact EX.ret1 rfl rfl ⟨ho.low hE5.size, hE5.trans e6⟩
end Go.Proofs.Ytikigaeihdmcaaa

/-
  Package label: begun, Label: walked.
-/
set_option linter.unusedVariables false
set_option linter.unusedSimpArgs false
namespace Go.Proofs.Ytikigaeihdmcaaa
open Go.RowKit

theorem begun_ok (w0 : World) {a1 a2 a3 a4 : Option Addr} {c1 c2 c3 c4 : Nat} {st : List Int} {nx fr : Graph} {lb : List Nat} (h1 : Sl w0 (Old w0) a1 c1 st) (h2 : Sl w0 (Old w0) a2 c2 nx) (h3 : Sl w0 (Old w0) a3 c3 lb) (h4 : Sl w0 (Old w0) a4 c4 fr)
    (hc : chkWd st nx lb.length fr = 0) (hT : edges nx ≤ 8589934592) :
    Rt Try.prog 22 [worldV a1 c1 a2 c2 a3 c3 a4 c4 st.length nx.length lb.length fr.length].toArray w0 fun v w' => ∃ b, v = labP b ∧ LabAt w' b nx lb fr ∧ Ext w0 w' := by
  obtain ⟨hn600, hf80, hkn, hokst, hoknx, hokfr⟩ := chkWd_ok hc
  have hok : okG nx := fun r hr => (hoknx r hr).2
  refine Rt.enter1 Try.func22 Try.ntmps22 rfl rfl ?_
  (repeat (first | (apply CW.seq) | (apply CW.region)))
  refine WL.boxB rfl rfl rfl fun w1 hb1 e1 => ?_
  have hl1 := hb1.lt
  have hz1 := e1.size
  (repeat (first | (apply WL.pure; rfl; rfl; rfl) | (apply WL.nil) | (apply EX.thenN) | (apply CW.seq) | (apply CW.region) | (apply WL.ldA; rfl; rfl; rfl; assumption; rfl)))
  refine WL.build rfl rfl rfl rfl ?_
  refine WL.boxB rfl rfl rfl fun w2 hb2 e2 => ?_
  have hb1 := hb1.ext e2
  have hE := e1.trans e2
  have hl2 := hb2.lt
  have hz2 := e2.size
  (repeat (first | (apply WL.pure; rfl; rfl; rfl) | (apply WL.nil) | (apply EX.thenN) | (apply CW.seq) | (apply CW.region) | (apply WL.ldA; rfl; rfl; rfl; assumption; rfl)))
  refine WL.call rfl rfl rfl (Fair_ok w2 (h1.up hE) (h2.up hE) h3.len63 (h4.up hE) hT) ?_
  rintro _ w3 ⟨fv, rfl, hfo, e3⟩
  rw [if_pos hc, all_fairP hok] at hfo
  obtain ⟨fo, fc, rfl⟩ := hfo.val
  have hb1 := hb1.ext e3
  have hb2 := hb2.ext e3
  have hE := hE.trans e3
  have hz3 := e3.size
  (repeat (first | (apply WL.pure; rfl; rfl; rfl) | (apply WL.fa; rfl; rfl; rfl) | (apply WL.nck; rfl; rfl; rfl)))
  refine WL.st rfl rfl rfl hb2 rfl rfl (ones_of rfl) (fun w4 hb2 hg4 => ?_)
  have hfo := hfo.keptN hg4 (fun g hg e => by have := (hfo.lt g hg).1; have := Option.some.inj e; omega)
  have hb1 := hb1.kept hg4 (fun e => by have := Option.some.inj e; omega)
  have hE : Ext w0 w4 := hE.grown hg4 hE.size (fun g hg => by cases hg; exact hz1)
  have hz4 := hg4.size
  (repeat (first | (apply WL.pure; rfl; rfl; rfl) | (apply WL.nil) | (apply EX.thenN) | (apply CW.seq) | (apply CW.region) | (apply WL.fa; rfl; rfl; rfl) | (apply WL.ld; rfl; rfl; rfl; assumption; rfl)))
  refine WL.call rfl rfl rfl (Turn_ok w4 (h2.up hE)) ?_
  rintro _ w5 ⟨tv, vs, rfl, hto, e5⟩
  have hck : chkG nx = 0 := chkG_of hok (by omega)
  have htf : turnF nx = turnL nx := by unfold turnF; rw [if_pos hck]
  rw [htf] at hto
  obtain ⟨to, tc, htv⟩ := hto.out.val
  have htl := hto.len
  subst htv
  have hb2 := hb2.ext e5
  have hfo := hfo.extN e5
  have hE := hE.trans e5
  (repeat (first | (apply WL.pure; rfl; rfl; rfl) | (apply WL.fa; rfl; rfl; rfl) | (apply WL.nck; rfl; rfl; rfl)))
  refine WL.st rfl rfl rfl hb2 rfl rfl (ones_of rfl) (fun w6 hb2 hg6 => ?_)
  have hfo := hfo.keptN hg6 (fun g hg e => by have := (hfo.lt g hg).1; have := Option.some.inj e; omega)
  have hto := hto.kept hg6 (fun g hg e => by have := (hto.lt g hg).1; have := Option.some.inj e; omega)
  have hE : Ext w0 w6 := hE.grown hg6 hE.size (fun g hg => by cases hg; exact hz1)
  obtain ⟨ao, ac, ea, has⟩ := hfo.asSl
  obtain ⟨rfl, _, rfl⟩ := Value.slice.inj ea
  obtain ⟨bo, bc, eb, hbs⟩ := hto.old.sl
  obtain ⟨rfl, _, rfl⟩ := Value.slice.inj eb
  rw [htl] at hb2
  (repeat (first | (apply WL.pure; rfl; rfl; rfl) | (apply WL.nil) | (apply EX.thenN) | (apply CW.seq) | (apply CW.region) | (apply CW.ret)))
  exact EX.ret1 rfl rfl ⟨_, rfl, ⟨_, _, _, _, _, _, _, _, _, _, _, _, _, hb2, h2.up hE, h3.up hE, h4.up hE, has, hbs⟩, hE⟩
def labE (st : List Int) (nx : Graph) (k : Nat) (fr : Graph) (t : Ltl) : Int := if chkWd st nx k fr ≠ 0 then chkWd st nx k fr else (chkC t 1 0).1
theorem labE_ok {st : List Int} {nx : Graph} {k : Nat} {fr : Graph} {t : Ltl} (h : labE st nx k fr t = 0) : chkWd st nx k fr = 0 ∧ (chkC t 1 0).1 = 0 := by
  unfold labE at h
  split at h
  · rename_i h1; exact absurd h h1
  · rename_i h1; exact ⟨by simpa using h1, h⟩
theorem lcheck_ok (w0 : World) {a1 a2 a3 a4 to : Option Addr} {c1 c2 c3 c4 tc : Nat} {st : List Int} {nx fr : Graph} {lb : List Nat} {t : Ltl} (h1 : Sl w0 (Old w0) a1 c1 st) (h2 : Sl w0 (Old w0) a2 c2 nx) (h3 : Sl w0 (Old w0) a3 c3 lb) (h4 : Sl w0 (Old w0) a4 c4 fr) (ht : Sl w0 (Old w0) to tc t.kids) :
    Rt Try.prog 21 [worldV a1 c1 a2 c2 a3 c3 a4 c4 st.length nx.length lb.length fr.length, ltlV t.k t.n to t.kids.length tc].toArray w0 fun v w' => v = .int .i64 (labE st nx lb.length fr t) ∧ Ext w0 w' := by
  refine Rt.enter2 Try.func21 Try.ntmps21 rfl rfl ?_
  (repeat (first | (apply CW.seq) | (apply CW.region)))
  refine WL.boxB rfl rfl rfl fun w1 hb1 e1 => ?_
  skip
  refine WL.boxB rfl rfl rfl fun w2 hb2 e2 => ?_
  have hb1 := hb1.ext e2
  have hE := e1.trans e2
  (repeat (first | (apply WL.pure; rfl; rfl; rfl) | (apply WL.nil) | (apply EX.thenN) | (apply CW.seq) | (apply CW.region) | (apply WL.ldA; rfl; rfl; rfl; assumption; rfl)))
  refine WL.call rfl rfl rfl (wCheck_ok w2 (h1.up hE) (h2.up hE) h3.len63 (h4.up hE)) ?_
  rintro _ w3 ⟨rfl, e3⟩
  have hb2 := hb2.ext e3
  have hE := hE.trans e3
  unfold labE
  (repeat (first | (apply WL.pure; rfl; rfl; rfl) | (apply WL.nil) | (apply EX.thenN) | (apply CW.seq) | (apply CW.region)))
  refine CW.cond rfl (fun h => ?_) (fun h => ?_)
  · have h : chkWd st nx lb.length fr ≠ 0 := by simpa using h
    rw [if_pos h]
    (repeat (first | (apply WL.pure; rfl; rfl; rfl) | (apply WL.nil) | (apply EX.thenN) | (apply CW.seq) | (apply CW.region) | (apply CW.ret) | (apply EX.thenR)))
    exact EX.ret1 rfl rfl ⟨rfl, hE⟩
  have h : chkWd st nx lb.length fr = 0 := by simpa using h
  rw [if_neg (by simp [h])]
  (repeat (first | (apply EX.thenN) | (apply CW.seq) | (apply CW.region) | (apply WL.ldA; rfl; rfl; rfl; assumption; rfl) | (apply CW.skip)))
  refine WL.call rfl rfl rfl (ctlCheck w3 (ht.up hE) (fun _ h => h)) ?_
  rintro _ w4 ⟨rfl, e4⟩
  (repeat (first | (apply WL.pure; rfl; rfl; rfl) | (apply WL.nil) | (apply EX.thenN) | (apply CW.ret)))
  exact EX.ret1 rfl rfl ⟨rfl, hE.trans e4⟩
theorem Label_ok (w0 : World) {a1 a2 a3 a4 to : Option Addr} {c1 c2 c3 c4 tc : Nat} {st : List Int} {nx fr : Graph} {lb : List Nat} {t : Ltl} (h1 : Sl w0 (Old w0) a1 c1 st) (h2 : Sl w0 (Old w0) a2 c2 nx) (h3 : Sl w0 (Old w0) a3 c3 lb) (h4 : Sl w0 (Old w0) a4 c4 fr) (ht : Sl w0 (Old w0) to tc t.kids)
    (hT : edges nx ≤ 8589934592) :
    Rt Try.prog 7 [worldV a1 c1 a2 c2 a3 c3 a4 c4 st.length nx.length lb.length fr.length, ltlV t.k t.n to t.kids.length tc].toArray w0 fun v w' => ∃ x, v = .tuple ⟨[x, .int .i64 (labE st nx lb.length fr t)]⟩ ∧
      Own w' w0.heap.size 4 Non x (if labE st nx lb.length fr t = 0 then boolsN nx.length (ctlF nx lb fr t) else []) ∧ Ext w0 w' := by
  refine Rt.enter2 Try.func7 Try.ntmps7 rfl rfl ?_
  (repeat (first | (apply CW.seq) | (apply CW.region)))
  refine WL.boxB rfl rfl rfl fun w1 hb1 e1 => ?_
  skip
  refine WL.boxB rfl rfl rfl fun w2 hb2 e2 => ?_
  have hb1 := hb1.ext e2
  have hE := e1.trans e2
  (repeat (first | (apply WL.pure; rfl; rfl; rfl) | (apply WL.nil) | (apply EX.thenN) | (apply CW.seq) | (apply CW.region) | (apply WL.ldA; rfl; rfl; rfl; assumption; rfl)))
  refine WL.call rfl rfl rfl (lcheck_ok w2 (h1.up hE) (h2.up hE) (h3.up hE) (h4.up hE) (ht.up hE)) ?_
  rintro _ w3 ⟨rfl, e3⟩
  have hb1 := hb1.ext e3
  have hb2 := hb2.ext e3
  have hE := hE.trans e3
  (repeat (first | (apply WL.pure; rfl; rfl; rfl) | (apply WL.nil) | (apply EX.thenN) | (apply CW.seq) | (apply CW.region)))
  refine CW.cond rfl (fun h => ?_) (fun h => ?_)
  · have h : labE st nx lb.length fr t ≠ 0 := by simpa using h
    rw [if_neg h]
    (repeat (first | (apply WL.pure; rfl; rfl; rfl) | (apply WL.nil) | (apply EX.thenN) | (apply CW.seq) | (apply CW.region) | (apply CW.ret) | (apply EX.thenR)))
    exact EX.ret2 rfl rfl rfl ⟨_, rfl, Own.nil, hE⟩
  have h : labE st nx lb.length fr t = 0 := by simpa using h
  rw [if_pos h, h]
  obtain ⟨hc, hf⟩ := labE_ok h
  obtain ⟨hn600, hf80, hkn, hokst, hoknx, hokfr⟩ := chkWd_ok hc
  have hok : okG nx := fun r hr => (hoknx r hr).2
  have hSE : ∀ z, (fun z : World => Ext w3 z) z → Ext w3 z := fun _ h => h
  (repeat (first | (apply EX.thenN) | (apply CW.seq) | (apply CW.skip)))
  refine CW.drawH (fun z : World => Ext w3 z) [(0, true), (2, true), (1, false), (3, false), (4, true), (5, true)] mixed (by kernel_rfl) (Ext.drew w3) ?_
  (repeat (refine HL.ldA (by assumption) rfl rfl rfl rfl (by assumption) rfl ?_))
  have hE4 := hE.trans (Ext.drew w3)
  refine HL.mut rfl (WL.call rfl rfl rfl (begun_ok (drew w3) (h1.up hE4) (h2.up hE4) (h3.up hE4) (h4.up hE4) hc hT) ?_)
  rintro _ w4 ⟨b, rfl, hL, e4⟩
  have x4 : Ext w3 w4 := Ext.trans (Ext.drew w3) e4
  refine WL.nil (EX.mut x4 ?_)
  skip
  have hE4 := hE.trans x4
  refine HL.mut rfl (WL.call rfl rfl rfl (label_ok ⟨hn600, hok, hokfr, hT⟩ hkn t.nodes t (Nat.le_refl _) (chkC_ok t _ _ hf) w4 b to tc hL (ht.up hE4)) ?_)
  rintro _ w5 ⟨ho, e5⟩
  have x5 : Ext w3 w5 := Ext.trans x4 e5
  refine WL.nil (EX.mut x5 ?_)
  (repeat (first | (apply HL.pure; rfl; rfl; rfl; rfl) | (apply HL.nil)))
  (repeat (first | (apply EX.thenN) | (apply CW.ret)))
  exact EX.ret2 rfl rfl rfl ⟨_, rfl, ho.low hE4.size, hE.trans x5⟩
end Go.Proofs.Ytikigaeihdmcaaa

