/-
  What an automaton accepts: runs, the product with a word's places, parts of a graph: plain lists, no program in sight.
-/
import Derived.Test.YthefpigolikmeaaFair
import Derived.Test.YthefpigolikmeaaSplit
import Derived.Test.YthefpigolikmeaaLasso2
set_option linter.unusedVariables false
set_option linter.unusedSimpArgs false
namespace Go.Proofs.Ythefpigolikmeaa

/- PARTS -/
theorem Rc.lt {E : Nat → Nat → Prop} {N a b : Nat} (hN : ∀ u v, E u v → v < N) (ha : a < N) : Rc E a b → b < N
  | ⟨p, n, h⟩ => by
    cases n with
    | zero => rw [← h.last, h.first]; exact ha
    | succ n => rw [← h.last]; exact hN _ _ (h.step n (by omega))
/-- a round has a first step -/
theorem Rc.first {E : Nat → Nat → Prop} {a b c : Nat} (h1 : Rc E a b) (h2 : E b c) (h3 : Rc E c a) : ∃ u, E a u ∧ Rc E u a := by
  obtain ⟨p, n, h⟩ := h1
  cases n with
  | zero => obtain rfl : a = b := h.first.symm.trans h.last
            exact ⟨c, h2, h3⟩
  | succ n =>
    refine ⟨p 1, by have := h.step 0 (by omega); rwa [h.first] at this, Rc.trans ⟨fun i => p (i + 1), n, rfl, h.last, fun i hi => h.step (i + 1) (by omega)⟩ ((Rc.one h2).trans h3)⟩
theorem core_part {g : Graph} {part : List Int} {Ps : List (Nat → Prop)} (hg : okG g) (hp : PartsOK g part) {i : Nat} (hi : i < g.length) :
    Core (Eg g) Ps i ↔ (∃ u, u < g.length ∧ part.getD u 0 = part.getD i 0 ∧ ∃ to ∈ g.getD u [], part.getD to.toNat 0 = part.getD i 0) ∧ ∀ P ∈ Ps, ∃ x, x < g.length ∧ P x ∧ part.getD x 0 = part.getD i 0 := by
  have hN : ∀ u v, Eg g u v → v < g.length := fun u v h => h.lt hg
  have hs : ∀ a b, a < g.length → b < g.length → (part.getD a 0 = part.getD b 0 ↔ Rc (Eg g) a b ∧ Rc (Eg g) b a) := fun a b ha hb => by
    rw [hp.same a b ha hb, rch1 hg, rch1 hg]
  constructor
  · rintro ⟨⟨u, h1, h2⟩, h3⟩
    refine ⟨⟨i, hi, rfl, (u : Int), h1, ?_⟩, fun P hP => ?_⟩
    · exact ((hs u i (hN _ _ h1) hi).2 ⟨h2, Rc.one h1⟩)
    · obtain ⟨x, hx, k1, k2⟩ := h3 P hP
      exact ⟨x, Rc.lt hN hi k1, hx, (hs x i (Rc.lt hN hi k1) hi).2 ⟨k2, k1⟩⟩
  · rintro ⟨⟨u, hu, h1, to, h2, h3⟩, h4⟩
    have ht := okG_row hg u to h2
    have h2' : Eg g u to.toNat := by show ((to.toNat : Nat) : Int) ∈ _; rw [show ((to.toNat : Nat) : Int) = to by omega]; exact h2
    refine ⟨Rc.first ((hs u i hu hi).1 h1).2 h2' ((hs _ i (hN _ _ h2') hi).1 h3).1, fun P hP => ?_⟩
    obtain ⟨x, hx, h5, h6⟩ := h4 P hP
    exact ⟨x, h5, ((hs x i hx hi).1 h6).2, ((hs x i hx hi).1 h6).1⟩

/- THE NODES THAT ARE COME TO -/
structure RchdOK (g : Graph) (f : List Int) (li : List Int) (sm : Graph) : Prop where
  mem : ∀ x : Nat, (x : Int) ∈ li ↔ Rch g f x
  pos : ∀ x ∈ li, 0 ≤ x
  nodup : li.Nodup
  len : sm.length = li.length
  row : ∀ i, i < li.length → sm.getD i [] = (g.getD (li.getD i 0).toNat []).map fun to => (li.idxOf to : Int)
section
variable {g : Graph} {f li : List Int} {sm : Graph}
abbrev ndAt (li : List Int) (i : Nat) : Nat := (li.getD i 0).toNat
theorem RchdOK.at (h : RchdOK g f li sm) {i : Nat} (hi : i < li.length) : ((ndAt li i : Nat) : Int) = li.getD i 0 ∧ li.getD i 0 ∈ li := by
  have e : li.getD i 0 = li[i] := by rw [List.getD_eq_getElem?_getD, List.getElem?_eq_getElem hi]; rfl
  have hm : li.getD i 0 ∈ li := by rw [e]; exact List.getElem_mem hi
  have := h.pos _ hm
  exact ⟨by unfold ndAt; omega, hm⟩
theorem RchdOK.idx (h : RchdOK g f li sm) {x : Nat} (hx : (x : Int) ∈ li) : li.idxOf (x : Int) < li.length ∧ ndAt li (li.idxOf (x : Int)) = x := by
  have hl := List.idxOf_lt_length_iff.2 hx
  refine ⟨hl, ?_⟩
  unfold ndAt
  rw [List.getD_eq_getElem?_getD, List.getElem?_eq_getElem hl, Option.getD_some, List.getElem_idxOf hl]
  omega
theorem RchdOK.idxAt (h : RchdOK g f li sm) {i : Nat} (hi : i < li.length) : li.idxOf (li.getD i 0) = i := by
  have e : li.getD i 0 = li[i] := by rw [List.getD_eq_getElem?_getD, List.getElem?_eq_getElem hi]; rfl
  rw [e]
  exact h.nodup.idxOf_getElem i hi
theorem RchdOK.edge (h : RchdOK g f li sm) (hg : okG g) {i j : Nat} (hi : i < li.length) (hj : j < li.length) : Eg sm i j ↔ Eg g (ndAt li i) (ndAt li j) := by
  unfold Eg
  rw [h.row i hi, List.mem_map, (h.at hj).1]
  constructor
  · rintro ⟨to, h1, h2⟩
    have hr : Rch g f to.toNat := Rch.step ((h.mem _).1 (by rw [(h.at hi).1]; exact (h.at hi).2)) h1
    have h0 := (okG_row hg _ _ h1).1
    have hm : to ∈ li := by rw [show to = ((to.toNat : Nat) : Int) by omega]; exact (h.mem _).2 hr
    have hl := List.idxOf_lt_length_iff.2 hm
    have : to = li.getD j 0 := by
      have e2 : li.idxOf to = j := by omega
      rw [← e2, List.getD_eq_getElem?_getD, List.getElem?_eq_getElem hl, Option.getD_some, List.getElem_idxOf hl]
    rw [← this]; exact h1
  · intro h1
    exact ⟨_, h1, by rw [h.idxAt hj]⟩
theorem RchdOK.okG (h : RchdOK g f li sm) (hg : okG g) : okG sm := by
  intro l hl x hx
  obtain ⟨i, hi, rfl⟩ := List.mem_iff_getElem.1 hl
  have hi' : i < li.length := by rw [← h.len]; exact hi
  have e : sm[i] = sm.getD i [] := by rw [List.getD_eq_getElem?_getD, List.getElem?_eq_getElem hi]; rfl
  rw [e, h.row i hi', List.mem_map] at hx
  obtain ⟨to, h1, rfl⟩ := hx
  have hr : Rch g f to.toNat := Rch.step ((h.mem _).1 (by rw [(h.at hi').1]; exact (h.at hi').2)) h1
  have h0 := (okG_row hg _ _ h1).1
  have hm : to ∈ li := by rw [show to = ((to.toNat : Nat) : Int) by omega]; exact (h.mem _).2 hr
  have hl := List.idxOf_lt_length_iff.2 hm
  rw [h.len]; omega
theorem Eg.lt1 {g : Graph} {u v : Nat} (h : Eg g u v) : u < g.length := by
  unfold Eg at h
  apply Classical.byContradiction
  intro hn
  rw [List.getD_eq_getElem?_getD, List.getElem?_eq_none (by omega)] at h
  simp at h
theorem RchdOK.rc (h : RchdOK g f li sm) (hg : _root_.Go.Proofs.Ythefpigolikmeaa.okG g) {i j : Nat} (hi : i < li.length) (hj : j < li.length) : Rc (Eg sm) i j ↔ Rc (Eg g) (ndAt li i) (ndAt li j) := by
  have hs := h.okG hg
  constructor
  · rintro ⟨p, n, hw⟩
    refine ⟨fun k => ndAt li (p k), n, by rw [hw.first], by rw [hw.last], fun k hk => ?_⟩
    have := hw.step k hk
    have a := this.lt1; have b := this.lt hs
    rw [h.len] at a b
    exact (h.edge hg a b).1 this
  · rintro ⟨p, n, hw⟩
    have hm : ∀ k, k ≤ n → ((p k : Nat) : Int) ∈ li := by
      intro k
      induction k with
      | zero => intro _; rw [hw.first, (h.at hi).1]; exact (h.at hi).2
      | succ k ih =>
        intro hk
        have h1 := (h.mem _).1 (ih (by omega))
        exact (h.mem _).2 (Rch.step h1 (hw.step k (by omega)))
    refine ⟨fun k => li.idxOf ((p k : Nat) : Int), n, ?_, ?_, fun k hk => ?_⟩
    · show li.idxOf _ = i
      rw [hw.first, (h.at hi).1, h.idxAt hi]
    · show li.idxOf _ = j
      rw [hw.last, (h.at hj).1, h.idxAt hj]
    · have a := h.idx (hm k (by omega)); have b := h.idx (hm (k + 1) (by omega))
      refine (h.edge hg a.1 b.1).2 ?_
      rw [a.2, b.2]; exact hw.step k hk
theorem RchdOK.core (h : RchdOK g f li sm) (hg : _root_.Go.Proofs.Ythefpigolikmeaa.okG g) {Ps : List (Nat → Prop)} {i : Nat} (hi : i < li.length) : Core (Eg sm) (Ps.map fun P x => P (ndAt li x)) i ↔ Core (Eg g) Ps (ndAt li i) := by
  have hs := h.okG hg
  have hin : ∀ x, Rc (Eg g) (ndAt li i) x → (x : Int) ∈ li := by
    rintro x ⟨p, n, hw⟩
    have hm : ∀ k, k ≤ n → ((p k : Nat) : Int) ∈ li := by
      intro k
      induction k with
      | zero => intro _; rw [hw.first, (h.at hi).1]; exact (h.at hi).2
      | succ k ih => intro hk; exact (h.mem _).2 (Rch.step ((h.mem _).1 (ih (by omega))) (hw.step k (by omega)))
    rw [← hw.last]; exact hm n (Nat.le_refl _)
  constructor
  · rintro ⟨⟨u, h1, h2⟩, h3⟩
    have hu := h1.lt hs
    rw [h.len] at hu
    refine ⟨⟨ndAt li u, (h.edge hg hi hu).1 h1, (h.rc hg hu hi).1 h2⟩, fun P hP => ?_⟩
    obtain ⟨x, hx, k1, k2⟩ := h3 _ (List.mem_map.2 ⟨P, hP, rfl⟩)
    have hxl : x < li.length := by rw [← h.len]; exact Rc.lt (fun u v h => h.lt hs) (by rw [h.len]; exact hi) k1
    exact ⟨_, hx, (h.rc hg hi hxl).1 k1, (h.rc hg hxl hi).1 k2⟩
  · rintro ⟨⟨u, h1, h2⟩, h3⟩
    have hu := h.idx (hin u (Rc.one h1))
    refine ⟨⟨li.idxOf (u : Int), (h.edge hg hi hu.1).2 (by rw [hu.2]; exact h1), (h.rc hg hu.1 hi).2 (by rw [hu.2]; exact h2)⟩, fun P hP => ?_⟩
    obtain ⟨P, hP', rfl⟩ := List.mem_map.1 hP
    obtain ⟨x, hx, k1, k2⟩ := h3 P hP'
    have hxl := h.idx (hin x k1)
    exact ⟨li.idxOf (x : Int), by show P _; rw [hxl.2]; exact hx, (h.rc hg hi hxl.1).2 (by rw [hxl.2]; exact k1), (h.rc hg hxl.1 hi).2 (by rw [hxl.2]; exact k2)⟩
/-- some part is good just if a node that is come to is -/
theorem good_core {part : List Int} {Ps : List (Nat → Prop)} {good : List Bool} (h : RchdOK g f li sm) (hg : _root_.Go.Proofs.Ythefpigolikmeaa.okG g) (hf : ∀ x ∈ f, 0 ≤ x) (hp : PartsOK sm part) (hl : good.length = sm.length)
    (hgood : ∀ c, c < sm.length → (good.getD c false = true ↔ (∃ u, u < sm.length ∧ part.getD u 0 = c ∧ ∃ to ∈ sm.getD u [], part.getD to.toNat 0 = c) ∧ ∀ P ∈ Ps, ∃ x, x < sm.length ∧ P (ndAt li x) ∧ part.getD x 0 = c)) :
    true ∈ good ↔ ∃ a : Nat, (a : Int) ∈ f ∧ ∃ v, Rc (Eg g) a v ∧ Core (Eg g) Ps v := by
  have hs := h.okG hg
  have key : ∀ i, i < li.length → (Core (Eg g) Ps (ndAt li i) ↔ good.getD (part.getD i 0).toNat false = true) := by
    intro i hi
    have hi' : i < sm.length := by rw [h.len]; exact hi
    have hip : i < part.length := by rw [hp.len]; exact hi'
    have h0 := hp.ge i hip
    have h1 := hp.lt i hip
    rw [← h.core hg hi, core_part hs hp hi', hgood _ (by omega), show (((part.getD i 0).toNat : Nat) : Int) = part.getD i 0 by omega]
    refine and_congr Iff.rfl ⟨fun k P hP => k _ (List.mem_map.2 ⟨P, hP, rfl⟩), fun k P hP => ?_⟩
    obtain ⟨P, hP', rfl⟩ := List.mem_map.1 hP
    exact k P hP'
  constructor
  · intro ht
    obtain ⟨c, hc, he⟩ := List.mem_iff_getElem.1 ht
    have hc' : c < sm.length := by omega
    have hgc : good.getD c false = true := by rw [List.getD_eq_getElem?_getD, List.getElem?_eq_getElem hc]; exact he
    obtain ⟨⟨u, hu, h1, _⟩, _⟩ := (hgood c hc').1 hgc
    have hu' : u < li.length := by rw [← h.len]; exact hu
    have hm := (h.mem _).1 (by rw [(h.at hu').1]; exact (h.at hu').2)
    obtain ⟨a, ha, hr⟩ := (rch_rc hg hf).1 hm
    refine ⟨a, ha, _, hr, (key u hu').2 ?_⟩
    rw [h1]; exact hgc
  · rintro ⟨a, ha, v, hr, hc⟩
    have hv := h.idx ((h.mem v).2 ((rch_rc hg hf).2 ⟨a, ha, hr⟩))
    have := (key _ hv.1).1 (by rw [hv.2]; exact hc)
    rw [List.getD_eq_getElem?_getD] at this
    cases e : good[(part.getD (li.idxOf (v : Int)) 0).toNat]? with
    | none => rw [e] at this; simp at this
    | some b => rw [e] at this; simp at this; subst this; exact List.mem_of_getElem? e
end

/- RUNS -/
def fitB (mu no : List Nat) (k x : Nat) : Bool := decide (x &&& mu.getD k 0 = mu.getD k 0) && decide (x &&& no.getD k 0 = 0)
/-- a run of an automaton over a word -/
structure AccRun (st : List Int) (nx : List (List Int)) (mu no : List Nat) (fr : List (List Int)) (L r : Nat → Nat) : Prop where
  first : (r 0 : Int) ∈ st
  fits : ∀ i, fitB mu no (r i) (L i) = true
  step : ∀ i, (r (i + 1) : Int) ∈ nx.getD (r i) []
  fair : ∀ F ∈ fr, ∀ i, ∃ j, i ≤ j ∧ (r j : Int) ∈ F
def Acc (st : List Int) (nx : List (List Int)) (mu no : List Nat) (fr : List (List Int)) (L : Nat → Nat) : Prop := ∃ r, AccRun st nx mu no fr L r
section
variable {st : List Int} {nx : List (List Int)} {mu no : List Nat} {fr : List (List Int)} {s l : List Nat}
def prodRow (nx : List (List Int)) (mu no s l : List Nat) (i k : Nat) : List Int :=
  if fitB mu no k (lat s l i) = true then ((nx.getD k []).filter fun to => fitB mu no to.toNat (lat s l (nextL s l i))).map fun to => (nextL s l i : Int) * nx.length + to else []
def prodG (nx : List (List Int)) (mu no s l : List Nat) : Graph := (List.range (nx.length * (s.length + l.length))).map fun x => prodRow nx mu no s l (x / nx.length) (x % nx.length)
def fromP (st : List Int) (mu no s l : List Nat) : List Int := st.filter fun k => fitB mu no k.toNat (lat s l 0)
def idxW (s l : List Nat) (t : Nat) : Nat := if t < s.length then t else s.length + (t - s.length) % l.length
theorem idxW_lt (h0 : 0 < l.length) (t : Nat) : idxW s l t < s.length + l.length := by
  unfold idxW
  split
  · omega
  · have := Nat.mod_lt (t - s.length) h0; omega
theorem idxW_next (h0 : 0 < l.length) (t : Nat) : idxW s l (t + 1) = nextL s l (idxW s l t) := by
  unfold idxW nextL
  by_cases h : t < s.length
  · rw [if_pos h]
    by_cases h1 : t + 1 < s.length
    · rw [if_pos h1, if_neg (by omega)]
    · rw [if_neg h1, show t + 1 - s.length = 0 by omega, Nat.zero_mod]
      split <;> omega
  · rw [if_neg h, if_neg (by omega), show t + 1 - s.length = (t - s.length) + 1 by omega]
    generalize t - s.length = k
    have hlt := Nat.mod_lt k h0
    by_cases h1 : k % l.length + 1 = l.length
    · rw [if_pos (by omega)]
      have : (k + 1) % l.length = 0 := by
        rw [Nat.add_mod]
        by_cases hn1 : l.length = 1
        · rw [hn1]; omega
        · rw [Nat.mod_eq_of_lt (show 1 < l.length by omega), h1, Nat.mod_self]
      omega
    · rw [if_neg (by omega)]
      have : (k + 1) % l.length = k % l.length + 1 := by
        rw [Nat.add_mod, Nat.mod_eq_of_lt (show 1 < l.length by omega), Nat.mod_eq_of_lt (by omega)]
      omega
theorem idxW_lat (h0 : 0 < l.length) (t : Nat) : lat s l (idxW s l t) = lat s l t := by
  unfold lat idxW
  by_cases h : t < s.length
  · rw [if_pos h]
  · rw [if_neg h, if_neg (by omega), if_neg h, show s.length + (t - s.length) % l.length - s.length = (t - s.length) % l.length by omega, Nat.mod_mod]
theorem prodG_row {i k : Nat} (hi : i < s.length + l.length) (hk : k < nx.length) : (prodG nx mu no s l).getD (i * nx.length + k) [] = prodRow nx mu no s l i k := by
  have hlt : i * nx.length + k < nx.length * (s.length + l.length) := by
    have h1 : (i + 1) * nx.length ≤ (s.length + l.length) * nx.length := Nat.mul_le_mul_right _ hi
    have h2 := Nat.mul_comm nx.length (s.length + l.length)
    rw [Nat.add_mul] at h1
    omega
  unfold prodG
  rw [List.getD_eq_getElem?_getD, List.getElem?_eq_getElem (by simpa using hlt)]
  simp only [List.getElem_map, List.getElem_range, Option.getD_some]
  rw [show (i * nx.length + k) / nx.length = i by rw [Nat.add_comm, Nat.add_mul_div_right _ _ (by omega), Nat.div_eq_of_lt hk, Nat.zero_add], show (i * nx.length + k) % nx.length = k by rw [Nat.add_comm, Nat.add_mul_mod_self_right, Nat.mod_eq_of_lt hk]]
theorem prodG_edge {i k v : Nat} (hok : ∀ r ∈ nx, okL nx.length r) (hi : i < s.length + l.length) (hk : k < nx.length) : Eg (prodG nx mu no s l) (i * nx.length + k) v ↔
    fitB mu no k (lat s l i) = true ∧ ∃ to : Nat, to < nx.length ∧ (to : Int) ∈ nx.getD k [] ∧ fitB mu no to (lat s l (nextL s l i)) = true ∧ v = nextL s l i * nx.length + to := by
  unfold Eg
  rw [prodG_row hi hk]
  unfold prodRow
  split
  · rename_i hf
    rw [List.mem_map]
    constructor
    · rintro ⟨to, h1, h2⟩
      rw [List.mem_filter] at h1
      have hin : nx.getD k [] ∈ nx := by rw [List.getD_eq_getElem?_getD, List.getElem?_eq_getElem hk]; exact List.getElem_mem hk
      have hto := hok _ hin to h1.1
      refine ⟨hf, to.toNat, by omega, by rw [show ((to.toNat : Nat) : Int) = to by omega]; exact h1.1, h1.2, ?_⟩
      have hto0 := hto.1
      have : ((nextL s l i * nx.length + to.toNat : Nat) : Int) = (v : Int) := by
        rw [← h2]; push_cast; omega
      omega
    · rintro ⟨_, to, h1, h2, h3, rfl⟩
      exact ⟨(to : Int), List.mem_filter.2 ⟨h2, by simpa using h3⟩, by push_cast; rfl⟩
  · rename_i hf
    simp [hf]
theorem prodG_ok (hok : ∀ r ∈ nx, okL nx.length r) (h0 : 0 < l.length) : okG (prodG nx mu no s l) := by
  intro r hr x hx
  have hlen : (prodG nx mu no s l).length = nx.length * (s.length + l.length) := by simp [prodG]
  rw [hlen]
  unfold prodG at hr
  rw [List.mem_map] at hr
  obtain ⟨y, hy, rfl⟩ := hr
  rw [List.mem_range] at hy
  have hn0 : 0 < nx.length := Nat.pos_of_ne_zero fun e => by rw [e, Nat.zero_mul] at hy; omega
  have hi : y / nx.length < s.length + l.length := by rw [Nat.div_lt_iff_lt_mul hn0, Nat.mul_comm]; exact hy
  have hk := Nat.mod_lt y hn0
  unfold prodRow at hx
  split at hx
  · rw [List.mem_map] at hx
    obtain ⟨to, h1, rfl⟩ := hx
    rw [List.mem_filter] at h1
    have hin : nx.getD (y % nx.length) [] ∈ nx := by rw [List.getD_eq_getElem?_getD, List.getElem?_eq_getElem hk]; exact List.getElem_mem hk
    have hto := hok _ hin to h1.1
    have hnx : nextL s l (y / nx.length) < s.length + l.length := by unfold nextL; split <;> omega
    generalize nextL s l (y / nx.length) = j at *
    have h2 : (j + 1) * nx.length ≤ (s.length + l.length) * nx.length := Nat.mul_le_mul_right _ hnx
    rw [Nat.add_mul, Nat.mul_comm (s.length + l.length)] at h2
    have h3 : ((j * nx.length : Nat) : Int) = (j : Int) * nx.length := by push_cast; rfl
    omega
  · simp at hx
theorem acc_prod (hok : ∀ r ∈ nx, okL nx.length r) (hst : okL nx.length st) (h0 : 0 < l.length) : Acc st nx mu no fr (lat s l) ↔
    ∃ a : Nat, (a : Int) ∈ fromP st mu no s l ∧ ∃ R, R 0 = a ∧ Way8 (Eg (prodG nx mu no s l)) (fr.map fun F x => ((x % nx.length : Nat) : Int) ∈ F) R := by
  have hi0 : idxW s l 0 = 0 := by
    unfold idxW
    by_cases h : 0 < s.length
    · rw [if_pos h]
    · rw [if_neg h, Nat.zero_sub, Nat.zero_mod]; omega
  constructor
  · rintro ⟨r, h1, h2, h3, h4⟩
    have hlt : ∀ t, r t < nx.length := by
      intro t
      cases t with
      | zero => have := hst _ h1; omega
      | succ t =>
        have h5 := h3 t
        have hk : r t < nx.length := by
          apply Classical.byContradiction
          intro hn
          rw [List.getD_eq_getElem?_getD, List.getElem?_eq_none (by omega)] at h5
          simp at h5
        have hin : nx.getD (r t) [] ∈ nx := by rw [List.getD_eq_getElem?_getD, List.getElem?_eq_getElem hk]; exact List.getElem_mem hk
        have := hok _ hin _ h5; omega
    refine ⟨r 0, List.mem_filter.2 ⟨h1, by simpa using h2 0⟩, fun t => idxW s l t * nx.length + r t, by show idxW s l 0 * _ + _ = _; rw [hi0]; omega, fun t => ?_, fun P hP i => ?_⟩
    · rw [prodG_edge hok (idxW_lt h0 t) (hlt t)]
      refine ⟨by rw [idxW_lat h0]; exact h2 t, r (t + 1), hlt _, h3 t, by rw [← idxW_next h0, idxW_lat h0]; exact h2 (t + 1), by show idxW s l (t + 1) * _ + _ = _; rw [idxW_next h0]⟩
    · obtain ⟨F, hF, rfl⟩ := List.mem_map.1 hP
      obtain ⟨j, hj, hm⟩ := h4 F hF i
      refine ⟨j, hj, ?_⟩
      show (((idxW s l j * nx.length + r j) % nx.length : Nat) : Int) ∈ F
      rw [Nat.add_comm, Nat.add_mul_mod_self_right, Nat.mod_eq_of_lt (hlt j)]; exact hm
  · rintro ⟨a, ha, R, hR0, hE, hF⟩
    obtain ⟨ha1, ha2⟩ := List.mem_filter.1 ha
    have ha3 := hst _ ha1
    have key : ∀ t, R t / nx.length = idxW s l t ∧ R t % nx.length < nx.length := by
      intro t
      have hn : 0 < nx.length := by omega
      refine ⟨?_, Nat.mod_lt _ hn⟩
      induction t with
      | zero => rw [hR0, hi0, Nat.div_eq_of_lt (by omega)]
      | succ t ih =>
        have h1 := hE t
        have e : R t = idxW s l t * nx.length + R t % nx.length := by rw [← ih, Nat.mul_comm]; exact (Nat.div_add_mod _ _).symm
        rw [e, prodG_edge hok (idxW_lt h0 t) (Nat.mod_lt _ hn)] at h1
        obtain ⟨_, to, h2, _, _, h5⟩ := h1
        rw [h5, ← idxW_next h0, Nat.add_comm, Nat.add_mul_div_right _ _ hn, Nat.div_eq_of_lt h2, Nat.zero_add]
    have hn : 0 < nx.length := by omega
    have step : ∀ t, fitB mu no (R t % nx.length) (lat s l t) = true ∧ ((R (t + 1) % nx.length : Nat) : Int) ∈ nx.getD (R t % nx.length) [] := by
      intro t
      have h1 := hE t
      have e : R t = idxW s l t * nx.length + R t % nx.length := by rw [← (key t).1, Nat.mul_comm]; exact (Nat.div_add_mod _ _).symm
      rw [e, prodG_edge hok (idxW_lt h0 t) (Nat.mod_lt _ hn)] at h1
      obtain ⟨k1, to, h2, h3, _, h5⟩ := h1
      rw [idxW_lat h0] at k1
      refine ⟨k1, ?_⟩
      rw [h5, Nat.add_comm, Nat.add_mul_mod_self_right, Nat.mod_eq_of_lt h2]; exact h3
    refine ⟨fun t => R t % nx.length, ?_, fun i => (step i).1, fun i => (step i).2, fun F hFm i => ?_⟩
    · show ((R 0 % nx.length : Nat) : Int) ∈ st
      rw [hR0, Nat.mod_eq_of_lt (by omega)]; exact ha1
    · exact hF _ (List.mem_map.2 ⟨F, hFm, rfl⟩) i
theorem fromP_ok (hst : okL nx.length st) : ∀ x ∈ fromP st mu no s l, 0 ≤ x ∧ x < nx.length := fun x hx => hst x (List.mem_filter.1 hx).1
theorem fromP_okL (hst : okL nx.length st) (h0 : 0 < l.length) : okL (prodG nx mu no s l).length (fromP st mu no s l) := fun x hx => by
  have := fromP_ok hst x hx
  have hlen : (prodG nx mu no s l).length = nx.length * (s.length + l.length) := by simp [prodG]
  have := Nat.le_mul_of_pos_right nx.length (show 0 < s.length + l.length by omega)
  rw [hlen]; omega
/-- accepts, by the parts of the nodes that are come to -/
theorem acc_good {li part : List Int} {sm : Graph} {good : List Bool} (hok : ∀ r ∈ nx, okL nx.length r) (hst : okL nx.length st) (h0 : 0 < l.length)
    (h : RchdOK (prodG nx mu no s l) (fromP st mu no s l) li sm) (hp : PartsOK sm part) (hl : good.length = sm.length)
    (hgood : ∀ c, c < sm.length → (good.getD c false = true ↔ (∃ u, u < sm.length ∧ part.getD u 0 = c ∧ ∃ to ∈ sm.getD u [], part.getD to.toNat 0 = c) ∧ ∀ F ∈ fr, ∃ x, x < sm.length ∧ ((ndAt li x % nx.length : Nat) : Int) ∈ F ∧ part.getD x 0 = c)) :
    true ∈ good ↔ Acc st nx mu no fr (lat s l) := by
  have hg := prodG_ok (mu := mu) (no := no) (s := s) hok h0
  rw [acc_prod hok hst h0, good_core (Ps := fr.map fun F x => ((x % nx.length : Nat) : Int) ∈ F) h hg (fun x hx => (fromP_ok hst x hx).1) hp hl (fun c hc => by
    rw [hgood c hc]
    refine and_congr Iff.rfl ⟨fun k P hP => ?_, fun k F hF => k _ (List.mem_map.2 ⟨F, hF, rfl⟩)⟩
    obtain ⟨F, hF, rfl⟩ := List.mem_map.1 hP
    exact k F hF)]
  refine exists_congr fun a => and_congr_right fun ha => ?_
  have haN : a < (prodG nx mu no s l).length := by have := fromP_okL hst h0 _ ha; omega
  rw [fair_iff (N := (prodG nx mu no s l).length) (fun u v h => h.lt hg) haN]
end

/- LAWS OF RUNS -/
theorem Acc.congr {st : List Int} {nx : List (List Int)} {mu no : List Nat} {fr : List (List Int)} {L L' : Nat → Nat} (h : ∀ i, L i = L' i) : Acc st nx mu no fr L ↔ Acc st nx mu no fr L' := by
  rw [show L = L' from funext h]
theorem Acc.more {st : List Int} {nx : List (List Int)} {mu no : List Nat} {fr fr' : List (List Int)} {L : Nat → Nat} (h : ∀ F ∈ fr, F ∈ fr') : Acc st nx mu no fr' L → Acc st nx mu no fr L
  | ⟨r, a, b, c, d⟩ => ⟨r, a, b, c, fun F hF => d F (h F hF)⟩
theorem Acc.fewer {st st' : List Int} {nx : List (List Int)} {mu no : List Nat} {fr : List (List Int)} {L : Nat → Nat} (h : ∀ x ∈ st', x ∈ st) : Acc st' nx mu no fr L → Acc st nx mu no fr L
  | ⟨r, a, b, c, d⟩ => ⟨r, h _ a, b, c, d⟩
end Go.Proofs.Ythefpigolikmeaa
