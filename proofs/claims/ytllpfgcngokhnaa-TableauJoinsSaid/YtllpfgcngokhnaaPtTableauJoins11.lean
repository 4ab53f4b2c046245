import Derived.Test.YtllpfgcngokhnaaPtTableauJoins10
/-
  What an automaton accepts: runs, the product with a word's places, parts of a graph: plain lists, no program in sight.
-/
set_option linter.unusedVariables false
set_option linter.unusedSimpArgs false
namespace Go.Proofs.Ytllpfgcngokhnaa

/- PARTS -/
theorem Rc.lt {E : Nat → Nat → Prop} {N a b : Nat} (hN : ∀ u v, E u v → v < N) (ha : a < N) : Rc E a b → b < N
  | ⟨p, n, h⟩ => by
    cases n with
    | zero => rw [← h.last, h.first]; exact ha
    | succ n => rw [← h.last]; exact hN _ _ (h.step n (by omega))
/-- a round has a first step -/
theorem Rc.first {E : Nat → Nat → Prop} {a b c : Nat} (h1 : Rc E a b) (h2 : E b c) (h3 : Rc E c a) : ∃ u, E a u ∧ Rc E u a := by
  obtain ⟨p, n, h⟩ := h1
  cases n with
  | zero => obtain rfl : a = b := h.first.symm.trans h.last
            exact ⟨c, h2, h3⟩
  | succ n =>
    refine ⟨p 1, by have := h.step 0 (by omega); rwa [h.first] at this, Rc.trans ⟨fun i => p (i + 1), n, rfl, h.last, fun i hi => h.step (i + 1) (by omega)⟩ ((Rc.one h2).trans h3)⟩
theorem core_part {g : Graph} {part : List Int} {Ps : List (Nat → Prop)} (hg : okG g) (hp : PartsOK g part) {i : Nat} (hi : i < g.length) :
    Core (Eg g) Ps i ↔ (∃ u, u < g.length ∧ part.getD u 0 = part.getD i 0 ∧ ∃ to ∈ g.getD u [], part.getD to.toNat 0 = part.getD i 0) ∧ ∀ P ∈ Ps, ∃ x, x < g.length ∧ P x ∧ part.getD x 0 = part.getD i 0 := by
  have hN : ∀ u v, Eg g u v → v < g.length := fun u v h => h.lt hg
  have hs : ∀ a b, a < g.length → b < g.length → (part.getD a 0 = part.getD b 0 ↔ Rc (Eg g) a b ∧ Rc (Eg g) b a) := fun a b ha hb => by
    rw [hp.same a b ha hb, rch1 hg, rch1 hg]
  constructor
  · rintro ⟨⟨u, h1, h2⟩, h3⟩
    refine ⟨⟨i, hi, rfl, (u : Int), h1, ?_⟩, fun P hP => ?_⟩
    · exact ((hs u i (hN _ _ h1) hi).2 ⟨h2, Rc.one h1⟩)
    · obtain ⟨x, hx, k1, k2⟩ := h3 P hP
      exact ⟨x, Rc.lt hN hi k1, hx, (hs x i (Rc.lt hN hi k1) hi).2 ⟨k2, k1⟩⟩
  · rintro ⟨⟨u, hu, h1, to, h2, h3⟩, h4⟩
    have ht := okG_row hg u to h2
    have h2' : Eg g u to.toNat := by show ((to.toNat : Nat) : Int) ∈ _; rw [show ((to.toNat : Nat) : Int) = to by omega]; exact h2
    refine ⟨Rc.first ((hs u i hu hi).1 h1).2 h2' ((hs _ i (hN _ _ h2') hi).1 h3).1, fun P hP => ?_⟩
    obtain ⟨x, hx, h5, h6⟩ := h4 P hP
    exact ⟨x, h5, ((hs x i hx hi).1 h6).2, ((hs x i hx hi).1 h6).1⟩

/- THE NODES THAT ARE COME TO -/
structure RchdOK (g : Graph) (f : List Int) (li : List Int) (sm : Graph) : Prop where
  mem : ∀ x : Nat, (x : Int) ∈ li ↔ Rch g f x
  pos : ∀ x ∈ li, 0 ≤ x
  nodup : li.Nodup
  len : sm.length = li.length
  row : ∀ i, i < li.length → sm.getD i [] = (g.getD (li.getD i 0).toNat []).map fun to => (li.idxOf to : Int)
section
variable {g : Graph} {f li : List Int} {sm : Graph}
abbrev ndAt (li : List Int) (i : Nat) : Nat := (li.getD i 0).toNat
theorem RchdOK.at (h : RchdOK g f li sm) {i : Nat} (hi : i < li.length) : ((ndAt li i : Nat) : Int) = li.getD i 0 ∧ li.getD i 0 ∈ li := by
  have e : li.getD i 0 = li[i] := by rw [List.getD_eq_getElem?_getD, List.getElem?_eq_getElem hi]; rfl
  have hm : li.getD i 0 ∈ li := by rw [e]; exact List.getElem_mem hi
  have := h.pos _ hm
  exact ⟨by unfold ndAt; omega, hm⟩
theorem RchdOK.idx (h : RchdOK g f li sm) {x : Nat} (hx : (x : Int) ∈ li) : li.idxOf (x : Int) < li.length ∧ ndAt li (li.idxOf (x : Int)) = x := by
  have hl := List.idxOf_lt_length_iff.2 hx
  refine ⟨hl, ?_⟩
  unfold ndAt
  rw [List.getD_eq_getElem?_getD, List.getElem?_eq_getElem hl, Option.getD_some, List.getElem_idxOf hl]
  omega
theorem RchdOK.idxAt (h : RchdOK g f li sm) {i : Nat} (hi : i < li.length) : li.idxOf (li.getD i 0) = i := by
  have e : li.getD i 0 = li[i] := by rw [List.getD_eq_getElem?_getD, List.getElem?_eq_getElem hi]; rfl
  rw [e]
  exact h.nodup.idxOf_getElem i hi
theorem RchdOK.edge (h : RchdOK g f li sm) (hg : okG g) {i j : Nat} (hi : i < li.length) (hj : j < li.length) : Eg sm i j ↔ Eg g (ndAt li i) (ndAt li j) := by
  unfold Eg
  rw [h.row i hi, List.mem_map, (h.at hj).1]
  constructor
  · rintro ⟨to, h1, h2⟩
    have hr : Rch g f to.toNat := Rch.step ((h.mem _).1 (by rw [(h.at hi).1]; exact (h.at hi).2)) h1
    have h0 := (okG_row hg _ _ h1).1
    have hm : to ∈ li := by rw [show to = ((to.toNat : Nat) : Int) by omega]; exact (h.mem _).2 hr
    have hl := List.idxOf_lt_length_iff.2 hm
    have : to = li.getD j 0 := by
      have e2 : li.idxOf to = j := by omega
      rw [← e2, List.getD_eq_getElem?_getD, List.getElem?_eq_getElem hl, Option.getD_some, List.getElem_idxOf hl]
    rw [← this]; exact h1
  · intro h1
    exact ⟨_, h1, by rw [h.idxAt hj]⟩
theorem RchdOK.okG (h : RchdOK g f li sm) (hg : okG g) : okG sm := by
  intro l hl x hx
  obtain ⟨i, hi, rfl⟩ := List.mem_iff_getElem.1 hl
  have hi' : i < li.length := by rw [← h.len]; exact hi
  have e : sm[i] = sm.getD i [] := by rw [List.getD_eq_getElem?_getD, List.getElem?_eq_getElem hi]; rfl
  rw [e, h.row i hi', List.mem_map] at hx
  obtain ⟨to, h1, rfl⟩ := hx
  have hr : Rch g f to.toNat := Rch.step ((h.mem _).1 (by rw [(h.at hi').1]; exact (h.at hi').2)) h1
  have h0 := (okG_row hg _ _ h1).1
  have hm : to ∈ li := by rw [show to = ((to.toNat : Nat) : Int) by omega]; exact (h.mem _).2 hr
  have hl := List.idxOf_lt_length_iff.2 hm
  rw [h.len]; omega
theorem Eg.lt1 {g : Graph} {u v : Nat} (h : Eg g u v) : u < g.length := by
  unfold Eg at h
  apply Classical.byContradiction
  intro hn
  rw [List.getD_eq_getElem?_getD, List.getElem?_eq_none (by omega)] at h
  simp at h
theorem RchdOK.rc (h : RchdOK g f li sm) (hg : _root_.Go.Proofs.Ytllpfgcngokhnaa.okG g) {i j : Nat} (hi : i < li.length) (hj : j < li.length) : Rc (Eg sm) i j ↔ Rc (Eg g) (ndAt li i) (ndAt li j) := by
  have hs := h.okG hg
  constructor
  · rintro ⟨p, n, hw⟩
    refine ⟨fun k => ndAt li (p k), n, by rw [hw.first], by rw [hw.last], fun k hk => ?_⟩
    have := hw.step k hk
    have a := this.lt1; have b := this.lt hs
    rw [h.len] at a b
    exact (h.edge hg a b).1 this
  · rintro ⟨p, n, hw⟩
    have hm : ∀ k, k ≤ n → ((p k : Nat) : Int) ∈ li := by
      intro k
      induction k with
      | zero => intro _; rw [hw.first, (h.at hi).1]; exact (h.at hi).2
      | succ k ih =>
        intro hk
        have h1 := (h.mem _).1 (ih (by omega))
        exact (h.mem _).2 (Rch.step h1 (hw.step k (by omega)))
    refine ⟨fun k => li.idxOf ((p k : Nat) : Int), n, ?_, ?_, fun k hk => ?_⟩
    · show li.idxOf _ = i
      rw [hw.first, (h.at hi).1, h.idxAt hi]
    · show li.idxOf _ = j
      rw [hw.last, (h.at hj).1, h.idxAt hj]
    · have a := h.idx (hm k (by omega)); have b := h.idx (hm (k + 1) (by omega))
      refine (h.edge hg a.1 b.1).2 ?_
      rw [a.2, b.2]; exact hw.step k hk
theorem RchdOK.core (h : RchdOK g f li sm) (hg : _root_.Go.Proofs.Ytllpfgcngokhnaa.okG g) {Ps : List (Nat → Prop)} {i : Nat} (hi : i < li.length) : Core (Eg sm) (Ps.map fun P x => P (ndAt li x)) i ↔ Core (Eg g) Ps (ndAt li i) := by
  have hs := h.okG hg
  have hin : ∀ x, Rc (Eg g) (ndAt li i) x → (x : Int) ∈ li := by
    rintro x ⟨p, n, hw⟩
    have hm : ∀ k, k ≤ n → ((p k : Nat) : Int) ∈ li := by
      intro k
      induction k with
      | zero => intro _; rw [hw.first, (h.at hi).1]; exact (h.at hi).2
      | succ k ih => intro hk; exact (h.mem _).2 (Rch.step ((h.mem _).1 (ih (by omega))) (hw.step k (by omega)))
    rw [← hw.last]; exact hm n (Nat.le_refl _)
  constructor
  · rintro ⟨⟨u, h1, h2⟩, h3⟩
    have hu := h1.lt hs
    rw [h.len] at hu
    refine ⟨⟨ndAt li u, (h.edge hg hi hu).1 h1, (h.rc hg hu hi).1 h2⟩, fun P hP => ?_⟩
    obtain ⟨x, hx, k1, k2⟩ := h3 _ (List.mem_map.2 ⟨P, hP, rfl⟩)
    have hxl : x < li.length := by rw [← h.len]; exact Rc.lt (fun u v h => h.lt hs) (by rw [h.len]; exact hi) k1
    exact ⟨_, hx, (h.rc hg hi hxl).1 k1, (h.rc hg hxl hi).1 k2⟩
  · rintro ⟨⟨u, h1, h2⟩, h3⟩
    have hu := h.idx (hin u (Rc.one h1))
    refine ⟨⟨li.idxOf (u : Int), (h.edge hg hi hu.1).2 (by rw [hu.2]; exact h1), (h.rc hg hu.1 hi).2 (by rw [hu.2]; exact h2)⟩, fun P hP => ?_⟩
    obtain ⟨P, hP', rfl⟩ := List.mem_map.1 hP
    obtain ⟨x, hx, k1, k2⟩ := h3 P hP'
    have hxl := h.idx (hin x k1)
    exact ⟨li.idxOf (x : Int), by show P _; rw [hxl.2]; exact hx, (h.rc hg hi hxl.1).2 (by rw [hxl.2]; exact k1), (h.rc hg hxl.1 hi).2 (by rw [hxl.2]; exact k2)⟩
/-- some part is good just if a node that is come to is -/
theorem good_core {part : List Int} {Ps : List (Nat → Prop)} {good : List Bool} (h : RchdOK g f li sm) (hg : _root_.Go.Proofs.Ytllpfgcngokhnaa.okG g) (hf : ∀ x ∈ f, 0 ≤ x) (hp : PartsOK sm part) (hl : good.length = sm.length)
    (hgood : ∀ c, c < sm.length → (good.getD c false = true ↔ (∃ u, u < sm.length ∧ part.getD u 0 = c ∧ ∃ to ∈ sm.getD u [], part.getD to.toNat 0 = c) ∧ ∀ P ∈ Ps, ∃ x, x < sm.length ∧ P (ndAt li x) ∧ part.getD x 0 = c)) :
    true ∈ good ↔ ∃ a : Nat, (a : Int) ∈ f ∧ ∃ v, Rc (Eg g) a v ∧ Core (Eg g) Ps v := by
  have hs := h.okG hg
  have key : ∀ i, i < li.length → (Core (Eg g) Ps (ndAt li i) ↔ good.getD (part.getD i 0).toNat false = true) := by
    intro i hi
    have hi' : i < sm.length := by rw [h.len]; exact hi
    have hip : i < part.length := by rw [hp.len]; exact hi'
    have h0 := hp.ge i hip
    have h1 := hp.lt i hip
    rw [← h.core hg hi, core_part hs hp hi', hgood _ (by omega), show (((part.getD i 0).toNat : Nat) : Int) = part.getD i 0 by omega]
    refine and_congr Iff.rfl ⟨fun k P hP => k _ (List.mem_map.2 ⟨P, hP, rfl⟩), fun k P hP => ?_⟩
    obtain ⟨P, hP', rfl⟩ := List.mem_map.1 hP
    exact k P hP'
  constructor
  · intro ht
    obtain ⟨c, hc, he⟩ := List.mem_iff_getElem.1 ht
    have hc' : c < sm.length := by omega
    have hgc : good.getD c false = true := by rw [List.getD_eq_getElem?_getD, List.getElem?_eq_getElem hc]; exact he
    obtain ⟨⟨u, hu, h1, _⟩, _⟩ := (hgood c hc').1 hgc
    have hu' : u < li.length := by rw [← h.len]; exact hu
    have hm := (h.mem _).1 (by rw [(h.at hu').1]; exact (h.at hu').2)
    obtain ⟨a, ha, hr⟩ := (rch_rc hg hf).1 hm
    refine ⟨a, ha, _, hr, (key u hu').2 ?_⟩
    rw [h1]; exact hgc
  · rintro ⟨a, ha, v, hr, hc⟩
    have hv := h.idx ((h.mem v).2 ((rch_rc hg hf).2 ⟨a, ha, hr⟩))
    have := (key _ hv.1).1 (by rw [hv.2]; exact hc)
    rw [List.getD_eq_getElem?_getD] at this
    cases e : good[(part.getD (li.idxOf (v : Int)) 0).toNat]? with
    | none => rw [e] at this; simp at this
    | some b => rw [e] at this; simp at this; subst this; exact List.mem_of_getElem? e
end

/- RUNS -/
def fitB (mu no : List Nat) (k x : Nat) : Bool := decide (x &&& mu.getD k 0 = mu.getD k 0) && decide (x &&& no.getD k 0 = 0)
/-- a run of an automaton over a word -/
structure AccRun (st : List Int) (nx : List (List Int)) (mu no : List Nat) (fr : List (List Int)) (L r : Nat → Nat) : Prop where
  first : (r 0 : Int) ∈ st
  fits : ∀ i, fitB mu no (r i) (L i) = true
  step : ∀ i, (r (i + 1) : Int) ∈ nx.getD (r i) []
  fair : ∀ F ∈ fr, ∀ i, ∃ j, i ≤ j ∧ (r j : Int) ∈ F
def Acc (st : List Int) (nx : List (List Int)) (mu no : List Nat) (fr : List (List Int)) (L : Nat → Nat) : Prop := ∃ r, AccRun st nx mu no fr L r
section
variable {st : List Int} {nx : List (List Int)} {mu no : List Nat} {fr : List (List Int)} {s l : List Nat}
def prodRow (nx : List (List Int)) (mu no s l : List Nat) (i k : Nat) : List Int :=
  if fitB mu no k (lat s l i) = true then ((nx.getD k []).filter fun to => fitB mu no to.toNat (lat s l (nextL s l i))).map fun to => (nextL s l i : Int) * nx.length + to else []
def prodG (nx : List (List Int)) (mu no s l : List Nat) : Graph := (List.range (nx.length * (s.length + l.length))).map fun x => prodRow nx mu no s l (x / nx.length) (x % nx.length)
def fromP (st : List Int) (mu no s l : List Nat) : List Int := st.filter fun k => fitB mu no k.toNat (lat s l 0)
def idxW (s l : List Nat) (t : Nat) : Nat := if t < s.length then t else s.length + (t - s.length) % l.length
theorem idxW_lt (h0 : 0 < l.length) (t : Nat) : idxW s l t < s.length + l.length := by
  unfold idxW
  split
  · omega
  · have := Nat.mod_lt (t - s.length) h0; omega
theorem idxW_next (h0 : 0 < l.length) (t : Nat) : idxW s l (t + 1) = nextL s l (idxW s l t) := by
  unfold idxW nextL
  by_cases h : t < s.length
  · rw [if_pos h]
    by_cases h1 : t + 1 < s.length
    · rw [if_pos h1, if_neg (by omega)]
    · rw [if_neg h1, show t + 1 - s.length = 0 by omega, Nat.zero_mod]
      split <;> omega
  · rw [if_neg h, if_neg (by omega), show t + 1 - s.length = (t - s.length) + 1 by omega]
    generalize t - s.length = k
    have hlt := Nat.mod_lt k h0
    by_cases h1 : k % l.length + 1 = l.length
    · rw [if_pos (by omega)]
      have : (k + 1) % l.length = 0 := by
        rw [Nat.add_mod]
        by_cases hn1 : l.length = 1
        · rw [hn1]; omega
        · rw [Nat.mod_eq_of_lt (show 1 < l.length by omega), h1, Nat.mod_self]
      omega
    · rw [if_neg (by omega)]
      have : (k + 1) % l.length = k % l.length + 1 := by
        rw [Nat.add_mod, Nat.mod_eq_of_lt (show 1 < l.length by omega), Nat.mod_eq_of_lt (by omega)]
      omega
theorem idxW_lat (h0 : 0 < l.length) (t : Nat) : lat s l (idxW s l t) = lat s l t := by
  unfold lat idxW
  by_cases h : t < s.length
  · rw [if_pos h]
  · rw [if_neg h, if_neg (by omega), if_neg h, show s.length + (t - s.length) % l.length - s.length = (t - s.length) % l.length by omega, Nat.mod_mod]
theorem prodG_row {i k : Nat} (hi : i < s.length + l.length) (hk : k < nx.length) : (prodG nx mu no s l).getD (i * nx.length + k) [] = prodRow nx mu no s l i k := by
  have hlt : i * nx.length + k < nx.length * (s.length + l.length) := by
    have h1 : (i + 1) * nx.length ≤ (s.length + l.length) * nx.length := Nat.mul_le_mul_right _ hi
    have h2 := Nat.mul_comm nx.length (s.length + l.length)
    rw [Nat.add_mul] at h1
    omega
  unfold prodG
  rw [List.getD_eq_getElem?_getD, List.getElem?_eq_getElem (by simpa using hlt)]
  simp only [List.getElem_map, List.getElem_range, Option.getD_some]
  rw [show (i * nx.length + k) / nx.length = i by rw [Nat.add_comm, Nat.add_mul_div_right _ _ (by omega), Nat.div_eq_of_lt hk, Nat.zero_add], show (i * nx.length + k) % nx.length = k by rw [Nat.add_comm, Nat.add_mul_mod_self_right, Nat.mod_eq_of_lt hk]]
theorem prodG_edge {i k v : Nat} (hok : ∀ r ∈ nx, okL nx.length r) (hi : i < s.length + l.length) (hk : k < nx.length) : Eg (prodG nx mu no s l) (i * nx.length + k) v ↔
    fitB mu no k (lat s l i) = true ∧ ∃ to : Nat, to < nx.length ∧ (to : Int) ∈ nx.getD k [] ∧ fitB mu no to (lat s l (nextL s l i)) = true ∧ v = nextL s l i * nx.length + to := by
  unfold Eg
  rw [prodG_row hi hk]
  unfold prodRow
  split
  · rename_i hf
    rw [List.mem_map]
    constructor
    · rintro ⟨to, h1, h2⟩
      rw [List.mem_filter] at h1
      have hin : nx.getD k [] ∈ nx := by rw [List.getD_eq_getElem?_getD, List.getElem?_eq_getElem hk]; exact List.getElem_mem hk
      have hto := hok _ hin to h1.1
      refine ⟨hf, to.toNat, by omega, by rw [show ((to.toNat : Nat) : Int) = to by omega]; exact h1.1, h1.2, ?_⟩
      have hto0 := hto.1
      have : ((nextL s l i * nx.length + to.toNat : Nat) : Int) = (v : Int) := by
        rw [← h2]; push_cast; omega
      omega
    · rintro ⟨_, to, h1, h2, h3, rfl⟩
      exact ⟨(to : Int), List.mem_filter.2 ⟨h2, by simpa using h3⟩, by push_cast; rfl⟩
  · rename_i hf
    simp [hf]
theorem prodG_ok (hok : ∀ r ∈ nx, okL nx.length r) (h0 : 0 < l.length) : okG (prodG nx mu no s l) := by
  intro r hr x hx
  have hlen : (prodG nx mu no s l).length = nx.length * (s.length + l.length) := by simp [prodG]
  rw [hlen]
  unfold prodG at hr
  rw [List.mem_map] at hr
  obtain ⟨y, hy, rfl⟩ := hr
  rw [List.mem_range] at hy
  have hn0 : 0 < nx.length := Nat.pos_of_ne_zero fun e => by rw [e, Nat.zero_mul] at hy; omega
  have hi : y / nx.length < s.length + l.length := by rw [Nat.div_lt_iff_lt_mul hn0, Nat.mul_comm]; exact hy
  have hk := Nat.mod_lt y hn0
  unfold prodRow at hx
  split at hx
  · rw [List.mem_map] at hx
    obtain ⟨to, h1, rfl⟩ := hx
    rw [List.mem_filter] at h1
    have hin : nx.getD (y % nx.length) [] ∈ nx := by rw [List.getD_eq_getElem?_getD, List.getElem?_eq_getElem hk]; exact List.getElem_mem hk
    have hto := hok _ hin to h1.1
    have hnx : nextL s l (y / nx.length) < s.length + l.length := by unfold nextL; split <;> omega
    generalize nextL s l (y / nx.length) = j at *
    have h2 : (j + 1) * nx.length ≤ (s.length + l.length) * nx.length := Nat.mul_le_mul_right _ hnx
    rw [Nat.add_mul, Nat.mul_comm (s.length + l.length)] at h2
    have h3 : ((j * nx.length : Nat) : Int) = (j : Int) * nx.length := by push_cast; rfl
    omega
  · simp at hx
theorem acc_prod (hok : ∀ r ∈ nx, okL nx.length r) (hst : okL nx.length st) (h0 : 0 < l.length) : Acc st nx mu no fr (lat s l) ↔
    ∃ a : Nat, (a : Int) ∈ fromP st mu no s l ∧ ∃ R, R 0 = a ∧ Way8 (Eg (prodG nx mu no s l)) (fr.map fun F x => ((x % nx.length : Nat) : Int) ∈ F) R := by
  have hi0 : idxW s l 0 = 0 := by
    unfold idxW
    by_cases h : 0 < s.length
    · rw [if_pos h]
    · rw [if_neg h, Nat.zero_sub, Nat.zero_mod]; omega
  constructor
  · rintro ⟨r, h1, h2, h3, h4⟩
    have hlt : ∀ t, r t < nx.length := by
      intro t
      cases t with
      | zero => have := hst _ h1; omega
      | succ t =>
        have h5 := h3 t
        have hk : r t < nx.length := by
          apply Classical.byContradiction
          intro hn
          rw [List.getD_eq_getElem?_getD, List.getElem?_eq_none (by omega)] at h5
          simp at h5
        have hin : nx.getD (r t) [] ∈ nx := by rw [List.getD_eq_getElem?_getD, List.getElem?_eq_getElem hk]; exact List.getElem_mem hk
        have := hok _ hin _ h5; omega
    refine ⟨r 0, List.mem_filter.2 ⟨h1, by simpa using h2 0⟩, fun t => idxW s l t * nx.length + r t, by show idxW s l 0 * _ + _ = _; rw [hi0]; omega, fun t => ?_, fun P hP i => ?_⟩
    · rw [prodG_edge hok (idxW_lt h0 t) (hlt t)]
      refine ⟨by rw [idxW_lat h0]; exact h2 t, r (t + 1), hlt _, h3 t, by rw [← idxW_next h0, idxW_lat h0]; exact h2 (t + 1), by show idxW s l (t + 1) * _ + _ = _; rw [idxW_next h0]⟩
    · obtain ⟨F, hF, rfl⟩ := List.mem_map.1 hP
      obtain ⟨j, hj, hm⟩ := h4 F hF i
      refine ⟨j, hj, ?_⟩
      show (((idxW s l j * nx.length + r j) % nx.length : Nat) : Int) ∈ F
      rw [Nat.add_comm, Nat.add_mul_mod_self_right, Nat.mod_eq_of_lt (hlt j)]; exact hm
  · rintro ⟨a, ha, R, hR0, hE, hF⟩
    obtain ⟨ha1, ha2⟩ := List.mem_filter.1 ha
    have ha3 := hst _ ha1
    have key : ∀ t, R t / nx.length = idxW s l t ∧ R t % nx.length < nx.length := by
      intro t
      have hn : 0 < nx.length := by omega
      refine ⟨?_, Nat.mod_lt _ hn⟩
      induction t with
      | zero => rw [hR0, hi0, Nat.div_eq_of_lt (by omega)]
      | succ t ih =>
        have h1 := hE t
        have e : R t = idxW s l t * nx.length + R t % nx.length := by rw [← ih, Nat.mul_comm]; exact (Nat.div_add_mod _ _).symm
        rw [e, prodG_edge hok (idxW_lt h0 t) (Nat.mod_lt _ hn)] at h1
        obtain ⟨_, to, h2, _, _, h5⟩ := h1
        rw [h5, ← idxW_next h0, Nat.add_comm, Nat.add_mul_div_right _ _ hn, Nat.div_eq_of_lt h2, Nat.zero_add]
    have hn : 0 < nx.length := by omega
    have step : ∀ t, fitB mu no (R t % nx.length) (lat s l t) = true ∧ ((R (t + 1) % nx.length : Nat) : Int) ∈ nx.getD (R t % nx.length) [] := by
      intro t
      have h1 := hE t
      have e : R t = idxW s l t * nx.length + R t % nx.length := by rw [← (key t).1, Nat.mul_comm]; exact (Nat.div_add_mod _ _).symm
      rw [e, prodG_edge hok (idxW_lt h0 t) (Nat.mod_lt _ hn)] at h1
      obtain ⟨k1, to, h2, h3, _, h5⟩ := h1
      rw [idxW_lat h0] at k1
      refine ⟨k1, ?_⟩
      rw [h5, Nat.add_comm, Nat.add_mul_mod_self_right, Nat.mod_eq_of_lt h2]; exact h3
    refine ⟨fun t => R t % nx.length, ?_, fun i => (step i).1, fun i => (step i).2, fun F hFm i => ?_⟩
    · show ((R 0 % nx.length : Nat) : Int) ∈ st
      rw [hR0, Nat.mod_eq_of_lt (by omega)]; exact ha1
    · exact hF _ (List.mem_map.2 ⟨F, hFm, rfl⟩) i
theorem fromP_ok (hst : okL nx.length st) : ∀ x ∈ fromP st mu no s l, 0 ≤ x ∧ x < nx.length := fun x hx => hst x (List.mem_filter.1 hx).1
theorem fromP_okL (hst : okL nx.length st) (h0 : 0 < l.length) : okL (prodG nx mu no s l).length (fromP st mu no s l) := fun x hx => by
  have := fromP_ok hst x hx
  have hlen : (prodG nx mu no s l).length = nx.length * (s.length + l.length) := by simp [prodG]
  have := Nat.le_mul_of_pos_right nx.length (show 0 < s.length + l.length by omega)
  rw [hlen]; omega
/-- accepts, by the parts of the nodes that are come to -/
theorem acc_good {li part : List Int} {sm : Graph} {good : List Bool} (hok : ∀ r ∈ nx, okL nx.length r) (hst : okL nx.length st) (h0 : 0 < l.length)
    (h : RchdOK (prodG nx mu no s l) (fromP st mu no s l) li sm) (hp : PartsOK sm part) (hl : good.length = sm.length)
    (hgood : ∀ c, c < sm.length → (good.getD c false = true ↔ (∃ u, u < sm.length ∧ part.getD u 0 = c ∧ ∃ to ∈ sm.getD u [], part.getD to.toNat 0 = c) ∧ ∀ F ∈ fr, ∃ x, x < sm.length ∧ ((ndAt li x % nx.length : Nat) : Int) ∈ F ∧ part.getD x 0 = c)) :
    true ∈ good ↔ Acc st nx mu no fr (lat s l) := by
  have hg := prodG_ok (mu := mu) (no := no) (s := s) hok h0
  rw [acc_prod hok hst h0, good_core (Ps := fr.map fun F x => ((x % nx.length : Nat) : Int) ∈ F) h hg (fun x hx => (fromP_ok hst x hx).1) hp hl (fun c hc => by
    rw [hgood c hc]
    refine and_congr Iff.rfl ⟨fun k P hP => ?_, fun k F hF => k _ (List.mem_map.2 ⟨F, hF, rfl⟩)⟩
    obtain ⟨F, hF, rfl⟩ := List.mem_map.1 hP
    exact k F hF)]
  refine exists_congr fun a => and_congr_right fun ha => ?_
  have haN : a < (prodG nx mu no s l).length := by have := fromP_okL hst h0 _ ha; omega
  rw [fair_iff (N := (prodG nx mu no s l).length) (fun u v h => h.lt hg) haN]
end

/- LAWS OF RUNS -/
theorem Acc.congr {st : List Int} {nx : List (List Int)} {mu no : List Nat} {fr : List (List Int)} {L L' : Nat → Nat} (h : ∀ i, L i = L' i) : Acc st nx mu no fr L ↔ Acc st nx mu no fr L' := by
  rw [show L = L' from funext h]
theorem Acc.more {st : List Int} {nx : List (List Int)} {mu no : List Nat} {fr fr' : List (List Int)} {L : Nat → Nat} (h : ∀ F ∈ fr, F ∈ fr') : Acc st nx mu no fr' L → Acc st nx mu no fr L
  | ⟨r, a, b, c, d⟩ => ⟨r, a, b, c, fun F hF => d F (h F hF)⟩
theorem Acc.fewer {st st' : List Int} {nx : List (List Int)} {mu no : List Nat} {fr : List (List Int)} {L : Nat → Nat} (h : ∀ x ∈ st', x ∈ st) : Acc st' nx mu no fr L → Acc st nx mu no fr L
  | ⟨r, a, b, c, d⟩ => ⟨r, h _ a, b, c, d⟩
end Go.Proofs.Ytllpfgcngokhnaa
/-
  Automata of pairs: plain lists, no program in sight.
-/
set_option linter.unusedVariables false
set_option linter.unusedSimpArgs false
namespace Go.Proofs.Ytllpfgcngokhnaa

abbrev Pr2 := Int × Int
def addP (ps : List Pr2) (l : List Int) (p : Pr2) : List Pr2 × List Int :=
  (if p ∈ ps then ps else ps ++ [p], if (ps.idxOf p : Int) ∈ l then l else l ++ [(ps.idxOf p : Int)])
def putP : List Pr2 → List Pr2 → Bool → List Int → List Pr2 × Bool × List Int
  | [], ps, ok, l => (ps, ok, l)
  | p :: r, ps, ok, l => if ok = true then putP r (addP ps l p).1 (decide ((addP ps l p).1.length ≤ 2048)) (addP ps l p).2 else putP r ps ok l
def madeGo (next : Pr2 → List Pr2) : Nat → Nat → List Pr2 → Bool → List (List Int) → List Pr2 × Bool × List (List Int)
  | 0, _, ps, ok, nx => (ps, ok, nx)
  | f + 1, n, ps, ok, nx =>
    if ok = true ∧ n < ps.length then madeGo next f (n + 1) (putP (next (ps.getD n (0, 0))) ps ok []).1 (putP (next (ps.getD n (0, 0))) ps ok []).2.1 (nx ++ [(putP (next (ps.getD n (0, 0))) ps ok []).2.2]) else (ps, ok, nx)
def madeE (next : Pr2 → List Pr2) (start : List Pr2) : List Pr2 × Bool × List (List Int) := madeGo next 2049 0 (putP start [] true []).1 (putP start [] true []).2.1 []
def madeS (start : List Pr2) : List Int := (putP start [] true []).2.2

theorem idxOf_left {ps t : List Pr2} {p : Pr2} (h : p ∈ ps) : (ps ++ t).idxOf p = ps.idxOf p := by rw [List.idxOf_append, if_pos h]
theorem idxOf_new {ps : List Pr2} {p : Pr2} (h : p ∉ ps) : ps.idxOf p = ps.length := by
  have h1 := List.idxOf_le_length (a := p) (l := ps)
  have h2 := mt List.idxOf_lt_length_iff.1 h
  omega
theorem addP_law {ps : List Pr2} {l : List Int} {p : Pr2} (hn : ps.Nodup) : (addP ps l p).1.Nodup ∧ (∃ t, (addP ps l p).1 = ps ++ t ∧ ∀ x ∈ t, x = p) ∧ p ∈ (addP ps l p).1 ∧ ∀ i, i ∈ (addP ps l p).2 ↔ i ∈ l ∨ i = ((addP ps l p).1.idxOf p : Int) := by
  unfold addP
  by_cases h : p ∈ ps
  · rw [if_pos h]
    refine ⟨hn, ⟨[], by simp, fun x h => by cases h⟩, h, fun i => ?_⟩
    dsimp only
    split
    · rename_i h1; exact ⟨.inl, fun h => h.elim id (fun e => by rw [e]; exact h1)⟩
    · simp
  · rw [if_neg h]
    have e : (ps ++ [p]).idxOf p = ps.idxOf p := by rw [List.idxOf_append, if_neg h, idxOf_new h]; simp
    refine ⟨?_, ⟨[p], rfl, fun x h => List.mem_singleton.1 h⟩, by simp, fun i => ?_⟩
    · rw [List.nodup_append]
      refine ⟨hn, List.pairwise_singleton _ _, fun a ha b hb e' => ?_⟩
      rw [List.mem_singleton] at hb
      exact h (by rw [← hb, ← e']; exact ha)
    · dsimp only
      rw [e]
      split
      · rename_i h1; exact ⟨.inl, fun h => h.elim id (fun e => by rw [e]; exact h1)⟩
      · simp
theorem putP_false : ∀ (r ps : List Pr2) (l : List Int), putP r ps false l = (ps, false, l)
  | [], ps, l => rfl
  | p :: r, ps, l => by rw [putP, if_neg (by decide), putP_false r]
structure PutOk (r ps : List Pr2) (l : List Int) (q : List Pr2 × Bool × List Int) : Prop where
  nd : q.1.Nodup
  ext : ∃ t, q.1 = ps ++ t ∧ ∀ x ∈ t, x ∈ r
  mem : ∀ p ∈ r, p ∈ q.1
  num : ∀ i, i ∈ q.2.2 ↔ i ∈ l ∨ ∃ p ∈ r, i = (q.1.idxOf p : Int)
  le : ps.length ≤ 2048 → q.1.length ≤ 2048
theorem putP_law : ∀ (r ps : List Pr2) (l : List Int), ps.Nodup → (putP r ps true l).2.1 = true → PutOk r ps l (putP r ps true l)
  | [], ps, l, hn, _ => ⟨hn, ⟨[], by simp [putP], (fun x h => by cases h)⟩, (fun p h => by cases h), (fun i => by simp [putP]), id⟩
  | p :: r, ps, l, hn, h => by
    rw [putP, if_pos rfl] at h ⊢
    obtain ⟨a1, ⟨t, a2, a2'⟩, a3, a4⟩ := addP_law (l := l) (p := p) hn
    by_cases hle : (addP ps l p).1.length ≤ 2048
    case neg => rw [decide_eq_false hle, putP_false] at h; cases h
    rw [decide_eq_true hle] at h ⊢
    obtain ⟨b1, ⟨t', b2, b2'⟩, b3, b4, b5⟩ := putP_law r (addP ps l p).1 (addP ps l p).2 a1 h
    generalize putP r (addP ps l p).1 true (addP ps l p).2 = q at *
    have hin : p ∈ q.1 := by rw [b2]; exact List.mem_append_left _ a3
    refine ⟨b1, ⟨t ++ t', by rw [b2, a2]; simp, fun x hx => ?_⟩, fun x hx => ?_, fun i => ?_, fun _ => b5 hle⟩
    · rcases List.mem_append.1 hx with hx | hx
      · rw [a2' x hx]; simp
      · exact List.mem_cons_of_mem _ (b2' x hx)
    · rcases List.mem_cons.1 hx with rfl | hx
      · exact hin
      · exact b3 x hx
    · have e : q.1.idxOf p = (addP ps l p).1.idxOf p := by rw [b2, idxOf_left a3]
      rw [b4, a4, ← e]
      constructor
      · rintro ((h | h) | ⟨x, h1, h2⟩)
        · exact .inl h
        · exact .inr ⟨p, by simp, h⟩
        · exact .inr ⟨x, by simp [h1], h2⟩
      · rintro (h | ⟨x, h1, h2⟩)
        · exact .inl (.inl h)
        · rcases List.mem_cons.1 h1 with rfl | h1
          · exact .inl (.inr h2)
          · exact .inr ⟨x, h1, h2⟩
/-- numbers of pairs -/
structure MadeOk (next : Pr2 → List Pr2) (start ps : List Pr2) (st : List Int) (nx : List (List Int)) : Prop where
  nd : ps.Nodup
  st0 : ∀ p ∈ start, p ∈ ps
  st1 : ∀ i, i ∈ st ↔ ∃ p ∈ start, i = (ps.idxOf p : Int)
  le : ps.length ≤ 2048
  nxl : nx.length ≤ ps.length
  nx0 : ∀ n, n < nx.length → ∀ p ∈ next (ps.getD n (0, 0)), p ∈ ps
  nx1 : ∀ n, n < nx.length → ∀ i, i ∈ nx.getD n [] ↔ ∃ p ∈ next (ps.getD n (0, 0)), i = (ps.idxOf p : Int)
theorem getDP_left {α : Type} {l t : List α} {j : Nat} {d : α} (h : j < l.length) : (l ++ t).getD j d = l.getD j d := by rw [List.getD_eq_getElem?_getD, List.getD_eq_getElem?_getD, List.getElem?_append_left h]
theorem getDP_last {α : Type} {l : List α} {x d : α} : (l ++ [x]).getD l.length d = x := by rw [List.getD_eq_getElem?_getD, List.getElem?_append_right (Nat.le_refl _)]; simp
theorem madeGo_law {next : Pr2 → List Pr2} {start : List Pr2} {st : List Int} : ∀ (f n : Nat) (ps : List Pr2) (ok : Bool) (nx : List (List Int)), f + n = 2049 → nx.length = n → (ok = true → MadeOk next start ps st nx) → (madeGo next f n ps ok nx).2.1 = true →
    MadeOk next start (madeGo next f n ps ok nx).1 st (madeGo next f n ps ok nx).2.2 ∧ (madeGo next f n ps ok nx).2.2.length = (madeGo next f n ps ok nx).1.length
  | 0, n, ps, ok, nx, hf, hn, hM, h => by have h1 := hM h; have := h1.le; have := h1.nxl; omega
  | f + 1, n, ps, ok, nx, hf, hn, hM, h => by
    rw [madeGo] at h ⊢
    by_cases hc : ok = true ∧ n < ps.length
    case neg =>
      rw [if_neg hc] at h ⊢
      have h1 := hM h
      have := h1.nxl
      have : ¬ n < ps.length := fun k => hc ⟨h, k⟩
      exact ⟨h1, by dsimp only; omega⟩
    rw [if_pos hc] at h ⊢
    obtain ⟨rfl, hlt⟩ := hc
    have h1 := hM rfl
    refine madeGo_law f (n + 1) _ _ _ (by omega) (by simp [hn]) (fun hok => ?_) h
    obtain ⟨b1, ⟨t, b2, b2'⟩, b3, b4, b5⟩ := putP_law _ ps [] h1.nd hok
    generalize putP (next (ps.getD n (0, 0))) ps true [] = q at *
    have hg : ∀ j, j < ps.length → q.1.getD j (0, 0) = ps.getD j (0, 0) := fun j hj => by rw [b2, getDP_left hj]
    refine ⟨b1, fun p hp => ?_, fun i => ?_, b5 h1.le, ?_, fun m hm p hp => ?_, fun m hm i => ?_⟩
    · rw [b2]; exact List.mem_append_left _ (h1.st0 p hp)
    · rw [h1.st1]
      constructor <;> rintro ⟨p, q1, q2⟩ <;> refine ⟨p, q1, ?_⟩
      · rw [b2, idxOf_left (h1.st0 p q1)]; exact q2
      · rw [b2, idxOf_left (h1.st0 p q1)] at q2; exact q2
    · have := h1.nxl; rw [b2]; simp; omega
    · simp at hm
      rw [hg m (by omega)] at hp
      by_cases e : m < nx.length
      · rw [b2]; exact List.mem_append_left _ (h1.nx0 m e p hp)
      · obtain rfl : m = n := by omega
        exact b3 p hp
    · simp at hm
      rw [hg m (by omega)]
      by_cases e : m < nx.length
      · rw [getDP_left e, h1.nx1 m e]
        constructor <;> rintro ⟨p, q1, q2⟩ <;> refine ⟨p, q1, ?_⟩
        · rw [b2, idxOf_left (h1.nx0 m e p q1)]; exact q2
        · rw [b2, idxOf_left (h1.nx0 m e p q1)] at q2; exact q2
      · obtain rfl : m = nx.length := by omega
        obtain rfl : nx.length = n := hn
        rw [getDP_last, b4]; simp
theorem made_law {next : Pr2 → List Pr2} {start : List Pr2} (h : (madeE next start).2.1 = true) :
    MadeOk next start (madeE next start).1 (madeS start) (madeE next start).2.2 ∧ (madeE next start).2.2.length = (madeE next start).1.length := by
  refine madeGo_law 2049 0 _ _ [] rfl rfl (fun hok => ?_) h
  obtain ⟨b1, ⟨t, b2, b2'⟩, b3, b4, b5⟩ := putP_law start [] [] List.nodup_nil hok
  exact ⟨b1, b3, fun i => by rw [show madeS start = (putP start [] true []).2.2 from rfl, b4]; simp, b5 (by simp), Nat.zero_le _, fun n h => absurd h (by simp), fun n h => absurd h (by simp)⟩
/-- a pair of the list satisfies what the first ones do and the next ones keep -/
theorem putP_all {Q : Pr2 → Prop} : ∀ (r ps : List Pr2) (ok : Bool) (l : List Int), (∀ p ∈ r, Q p) → (∀ p ∈ ps, Q p) → ∀ p ∈ (putP r ps ok l).1, Q p
  | [], ps, ok, l, _, hp => hp
  | p :: r, ps, ok, l, hr, hp => by
    rw [putP]
    split
    · refine putP_all r _ _ _ (fun x h => hr x (by simp [h])) (fun x hx => ?_)
      unfold addP at hx
      dsimp only at hx
      split at hx
      · exact hp x hx
      · rcases List.mem_append.1 hx with hx | hx
        · exact hp x hx
        · rw [List.mem_singleton] at hx; subst hx; exact hr _ (by simp)
    · exact putP_all r _ _ _ (fun x h => hr x (by simp [h])) hp
theorem getDP_mem {ps : List Pr2} {n : Nat} (h : n < ps.length) : ps.getD n (0, 0) ∈ ps := by rw [List.getD_eq_getElem?_getD, List.getElem?_eq_getElem h]; exact List.getElem_mem _
theorem madeGo_all {Q : Pr2 → Prop} {next : Pr2 → List Pr2} (hq : ∀ p, Q p → ∀ x ∈ next p, Q x) : ∀ (f n : Nat) (ps : List Pr2) (ok : Bool) (nx : List (List Int)), (∀ p ∈ ps, Q p) → ∀ p ∈ (madeGo next f n ps ok nx).1, Q p
  | 0, n, ps, ok, nx, hp => hp
  | f + 1, n, ps, ok, nx, hp => by
    rw [madeGo]
    split
    · rename_i hc
      exact madeGo_all hq f _ _ _ _ (putP_all _ _ _ _ (hq _ (hp _ (getDP_mem hc.2))) hp)
    · exact hp
theorem made_all {Q : Pr2 → Prop} {next : Pr2 → List Pr2} {start : List Pr2} (hq : ∀ p, Q p → ∀ x ∈ next p, Q x) (hs : ∀ p ∈ start, Q p) : ∀ p ∈ (madeE next start).1, Q p :=
  madeGo_all hq _ _ _ _ _ (putP_all _ _ _ _ hs (fun p h => by cases h))
theorem idxOf_at {ps : List Pr2} {p : Pr2} (h : p ∈ ps) : ps.idxOf p < ps.length ∧ ps.getD (ps.idxOf p) (0, 0) = p := by
  have hl := List.idxOf_lt_length_iff.2 h
  exact ⟨hl, by rw [List.getD_eq_getElem?_getD, List.getElem?_eq_getElem hl, Option.getD_some, List.getElem_idxOf hl]⟩
theorem idxOf_get {ps : List Pr2} (hn : ps.Nodup) {n : Nat} (h : n < ps.length) : ps.idxOf (ps.getD n (0, 0)) = n := by
  rw [List.getD_eq_getElem?_getD, List.getElem?_eq_getElem h, Option.getD_some]
  exact hn.idxOf_getElem n h

/- BITS -/
theorem and_or_self {x a b : Nat} : x &&& (a ||| b) = a ||| b ↔ x &&& a = a ∧ x &&& b = b := by
  constructor
  · intro h
    constructor
    · apply Nat.eq_of_testBit_eq
      intro i
      have := congrArg (fun n => n.testBit i) h
      simp only [Nat.testBit_and, Nat.testBit_or] at this ⊢
      cases ha : a.testBit i <;> cases hb : b.testBit i <;> cases hx : x.testBit i <;> simp_all
    · apply Nat.eq_of_testBit_eq
      intro i
      have := congrArg (fun n => n.testBit i) h
      simp only [Nat.testBit_and, Nat.testBit_or] at this ⊢
      cases ha : a.testBit i <;> cases hb : b.testBit i <;> cases hx : x.testBit i <;> simp_all
  · rintro ⟨h1, h2⟩
    rw [Nat.and_or_distrib_left, h1, h2]
theorem and_or_zero {x a b : Nat} : x &&& (a ||| b) = 0 ↔ x &&& a = 0 ∧ x &&& b = 0 := by
  rw [Nat.and_or_distrib_left]
  constructor
  · intro h
    have h1 : ∀ i, (x &&& a).testBit i = false ∧ (x &&& b).testBit i = false := fun i => by
      have := congrArg (fun n => n.testBit i) h
      simp only [Nat.testBit_or, Nat.zero_testBit, Bool.or_eq_false_iff] at this
      exact this
    exact ⟨Nat.eq_of_testBit_eq fun i => by rw [(h1 i).1, Nat.zero_testBit], Nat.eq_of_testBit_eq fun i => by rw [(h1 i).2, Nat.zero_testBit]⟩
  · rintro ⟨h1, h2⟩
    rw [h1, h2]; rfl
theorem and_apart {x a b : Nat} (h1 : x &&& a = a) (h2 : x &&& b = 0) : a &&& b = 0 := by
  rw [← h1, Nat.and_assoc, Nat.and_comm a b, ← Nat.and_assoc, h2, Nat.zero_and]
/- BOTH -/
abbrev LAuto2 := List Int × List (List Int) × List Nat × List Nat × List (List Int)
def crossP (mu no mu' no' : List Nat) (l k : List Int) : List Pr2 :=
  l.flatMap fun x => (k.filter fun y => decide (mu.getD x.toNat 0 &&& no'.getD y.toNat 0 = 0) && decide (no.getD x.toNat 0 &&& mu'.getD y.toNat 0 = 0)).map fun y => (x, y)
theorem cross_mem {mu no mu' no' : List Nat} {l k : List Int} {p : Pr2} : p ∈ crossP mu no mu' no' l k ↔ p.1 ∈ l ∧ p.2 ∈ k ∧ mu.getD p.1.toNat 0 &&& no'.getD p.2.toNat 0 = 0 ∧ no.getD p.1.toNat 0 &&& mu'.getD p.2.toNat 0 = 0 := by
  unfold crossP
  rw [List.mem_flatMap]
  constructor
  · rintro ⟨x, hx, h⟩
    rw [List.mem_map] at h
    obtain ⟨y, hy, rfl⟩ := h
    obtain ⟨h1, h2⟩ := List.mem_filter.1 hy
    simp only [Bool.and_eq_true, decide_eq_true_eq] at h2
    exact ⟨hx, h1, h2⟩
  · rintro ⟨h1, h2, h3⟩
    refine ⟨p.1, h1, List.mem_map.2 ⟨p.2, List.mem_filter.2 ⟨h2, by simpa using h3⟩, rfl⟩⟩
/-- the pairs whose state is in a set -/
def setP (ps : List Pr2) (of : Pr2 → Int) (F : List Int) : List Int := ((List.range ps.length).filter fun i => decide (of (ps.getD i (0, 0)) ∈ F)).map fun i : Nat => (i : Int)
theorem setP_mem {ps : List Pr2} {of : Pr2 → Int} {F : List Int} {i : Nat} : (i : Int) ∈ setP ps of F ↔ i < ps.length ∧ of (ps.getD i (0, 0)) ∈ F := by
  unfold setP
  rw [List.mem_map]
  constructor
  · rintro ⟨j, hj, e⟩
    obtain rfl : j = i := by omega
    obtain ⟨h1, h2⟩ := List.mem_filter.1 hj
    exact ⟨List.mem_range.1 h1, by simpa using h2⟩
  · rintro ⟨h1, h2⟩
    exact ⟨i, List.mem_filter.2 ⟨List.mem_range.2 h1, by simpa using h2⟩, rfl⟩
def bothNext (A B : LAuto2) (p : Pr2) : List Pr2 := crossP A.2.2.1 A.2.2.2.1 B.2.2.1 B.2.2.2.1 (A.2.1.getD p.1.toNat []) (B.2.1.getD p.2.toNat [])
def bothStart (A B : LAuto2) : List Pr2 := crossP A.2.2.1 A.2.2.2.1 B.2.2.1 B.2.2.2.1 A.1 B.1
def bothPs (A B : LAuto2) : List Pr2 := (madeE (bothNext A B) (bothStart A B)).1
def bothL (A B : LAuto2) : LAuto2 :=
  (madeS (bothStart A B), (madeE (bothNext A B) (bothStart A B)).2.2, (bothPs A B).map (fun p => A.2.2.1.getD p.1.toNat 0 ||| B.2.2.1.getD p.2.toNat 0), (bothPs A B).map (fun p => A.2.2.2.1.getD p.1.toNat 0 ||| B.2.2.2.1.getD p.2.toNat 0),
    A.2.2.2.2.map (setP (bothPs A B) Prod.fst) ++ B.2.2.2.2.map (setP (bothPs A B) Prod.snd))
theorem getD_map {ps : List Pr2} {f : Pr2 → Nat} {n : Nat} (h : n < ps.length) : (ps.map f).getD n 0 = f (ps.getD n (0, 0)) := by
  rw [List.getD_eq_getElem?_getD, List.getElem?_map, List.getD_eq_getElem?_getD, List.getElem?_eq_getElem h]; rfl
theorem fit_both {A B : LAuto2} {r x : Nat} (h : r < (bothPs A B).length) : fitB (bothL A B).2.2.1 (bothL A B).2.2.2.1 r x = true ↔
    fitB A.2.2.1 A.2.2.2.1 ((bothPs A B).getD r (0, 0)).1.toNat x = true ∧ fitB B.2.2.1 B.2.2.2.1 ((bothPs A B).getD r (0, 0)).2.toNat x = true := by
  unfold bothL fitB
  dsimp only
  rw [getD_map h, getD_map h]
  simp only [Bool.and_eq_true, decide_eq_true_eq]
  rw [and_or_self, and_or_zero]
  constructor
  · rintro ⟨⟨a, b⟩, c, d⟩; exact ⟨⟨a, c⟩, b, d⟩
  · rintro ⟨⟨a, c⟩, b, d⟩; exact ⟨⟨a, b⟩, c, d⟩
theorem cross_fit {mu no mu' no' : List Nat} {l k : List Int} {p : Pr2} {x : Nat} (h1 : p.1 ∈ l) (h2 : p.2 ∈ k) (f1 : fitB mu no p.1.toNat x = true) (f2 : fitB mu' no' p.2.toNat x = true) : p ∈ crossP mu no mu' no' l k := by
  unfold fitB at f1 f2
  simp only [Bool.and_eq_true, decide_eq_true_eq] at f1 f2
  rw [cross_mem]
  refine ⟨h1, h2, and_apart f1.1 f2.2, ?_⟩
  rw [Nat.and_comm]
  exact and_apart f2.1 f1.2
def AccA (A : LAuto2) (L : Nat → Nat) : Prop := Acc A.1 A.2.1 A.2.2.1 A.2.2.2.1 A.2.2.2.2 L
/-- states are numbers -/
def PosA (A : LAuto2) : Prop := (∀ x ∈ A.1, 0 ≤ x) ∧ ∀ k, ∀ x ∈ A.2.1.getD k [], 0 ≤ x
theorem both_law {A B : LAuto2} {L : Nat → Nat} (hA : PosA A) (hB : PosA B) (h : (madeE (bothNext A B) (bothStart A B)).2.1 = true) : AccA (bothL A B) L ↔ AccA A L ∧ AccA B L := by
  obtain ⟨hM, hl⟩ := made_law h
  change MadeOk _ _ (bothPs A B) _ _ at hM
  change _ = (bothPs A B).length at hl
  have hst : ∀ i, i ∈ (bothL A B).1 ↔ ∃ p ∈ bothStart A B, i = ((bothPs A B).idxOf p : Int) := hM.st1
  have hnx : ∀ n, n < (bothPs A B).length → ∀ i, i ∈ (bothL A B).2.1.getD n [] ↔ ∃ p ∈ bothNext A B ((bothPs A B).getD n (0, 0)), i = ((bothPs A B).idxOf p : Int) := fun n hn => hM.nx1 n (by rw [hl]; exact hn)
  constructor
  · rintro ⟨r, hr⟩
    have hin : ∀ i, r i < (bothPs A B).length := by
      intro i
      cases i with
      | zero =>
        obtain ⟨p, hp, e⟩ := (hst _).1 hr.first
        have := (idxOf_at (hM.st0 p hp)).1
        omega
      | succ i =>
        have hs := hr.step i
        by_cases hlt : r i < (bothPs A B).length
        · obtain ⟨p, hp, e⟩ := (hnx _ hlt _).1 hs
          have := (idxOf_at (hM.nx0 _ (by rw [hl]; exact hlt) p hp)).1
          omega
        · exfalso
          have e : (bothL A B).2.1.getD (r i) [] = [] := by
            rw [List.getD_eq_getElem?_getD, List.getElem?_eq_none (by show (madeE (bothNext A B) (bothStart A B)).2.2.length ≤ _; rw [hl]; omega)]; rfl
          rw [e] at hs; cases hs
    have hnx' : ∀ i, (bothPs A B).getD (r (i + 1)) (0, 0) ∈ bothNext A B ((bothPs A B).getD (r i) (0, 0)) := fun i => by
      obtain ⟨p, hp, e⟩ := (hnx _ (hin i) _).1 (hr.step i)
      have e : r (i + 1) = (bothPs A B).idxOf p := by omega
      rw [e, (idxOf_at (hM.nx0 _ (by rw [hl]; exact hin i) p hp)).2]; exact hp
    have hst' : (bothPs A B).getD (r 0) (0, 0) ∈ bothStart A B := by
      obtain ⟨p, hp, e⟩ := (hst _).1 hr.first
      have e : r 0 = (bothPs A B).idxOf p := by omega
      rw [e, (idxOf_at (hM.st0 p hp)).2]; exact hp
    have hq : ∀ i, 0 ≤ ((bothPs A B).getD (r i) (0, 0)).1 ∧ 0 ≤ ((bothPs A B).getD (r i) (0, 0)).2 := by
      intro i
      cases i with
      | zero =>
        obtain ⟨h1, h2, _⟩ := cross_mem.1 hst'
        exact ⟨hA.1 _ h1, hB.1 _ h2⟩
      | succ i =>
        obtain ⟨h1, h2, _⟩ := cross_mem.1 (hnx' i)
        exact ⟨hA.2 _ _ h1, hB.2 _ _ h2⟩
    have q1 : ∀ i, ((((bothPs A B).getD (r i) (0, 0)).1.toNat : Nat) : Int) = ((bothPs A B).getD (r i) (0, 0)).1 := fun i => by have := (hq i).1; omega
    have q2 : ∀ i, ((((bothPs A B).getD (r i) (0, 0)).2.toNat : Nat) : Int) = ((bothPs A B).getD (r i) (0, 0)).2 := fun i => by have := (hq i).2; omega
    refine ⟨⟨fun i => ((bothPs A B).getD (r i) (0, 0)).1.toNat, ?_, fun i => ((fit_both (hin i)).1 (hr.fits i)).1, fun i => ?_, fun F hF i => ?_⟩, ⟨fun i => ((bothPs A B).getD (r i) (0, 0)).2.toNat, ?_, fun i => ((fit_both (hin i)).1 (hr.fits i)).2, fun i => ?_, fun F hF i => ?_⟩⟩
    · rw [q1]; exact (cross_mem.1 hst').1
    · rw [q1]; exact (cross_mem.1 (hnx' i)).1
    · obtain ⟨j, hj, hm⟩ := hr.fair (setP (bothPs A B) Prod.fst F) (List.mem_append_left _ (List.mem_map.2 ⟨F, hF, rfl⟩)) i
      exact ⟨j, hj, by rw [q1]; exact (setP_mem.1 hm).2⟩
    · rw [q2]; exact (cross_mem.1 hst').2.1
    · rw [q2]; exact (cross_mem.1 (hnx' i)).2.1
    · obtain ⟨j, hj, hm⟩ := hr.fair (setP (bothPs A B) Prod.snd F) (List.mem_append_right _ (List.mem_map.2 ⟨F, hF, rfl⟩)) i
      exact ⟨j, hj, by rw [q2]; exact (setP_mem.1 hm).2⟩
  · rintro ⟨⟨ra, ha⟩, ⟨rb, hb⟩⟩
    have hps : ∀ i, (((ra i : Nat) : Int), ((rb i : Nat) : Int)) ∈ bothPs A B ∧ (((ra (i + 1) : Nat) : Int), ((rb (i + 1) : Nat) : Int)) ∈ bothNext A B (((ra i : Nat) : Int), ((rb i : Nat) : Int)) := by
      have hnext : ∀ i, (((ra (i + 1) : Nat) : Int), ((rb (i + 1) : Nat) : Int)) ∈ bothNext A B (((ra i : Nat) : Int), ((rb i : Nat) : Int)) := fun i => by
        unfold bothNext
        refine cross_fit (x := L (i + 1)) ?_ ?_ ?_ ?_
        · simpa using ha.step i
        · simpa using hb.step i
        · simpa using ha.fits (i + 1)
        · simpa using hb.fits (i + 1)
      intro i
      refine ⟨?_, hnext i⟩
      induction i with
      | zero =>
        refine hM.st0 _ ?_
        unfold bothStart
        refine cross_fit (x := L 0) ?_ ?_ ?_ ?_
        · exact ha.first
        · exact hb.first
        · simpa using ha.fits 0
        · simpa using hb.fits 0
      | succ i ih =>
        obtain ⟨h1, h2⟩ := idxOf_at ih
        exact hM.nx0 _ (by rw [hl]; exact h1) _ (by rw [h2]; exact hnext i)
    have hix := fun i => idxOf_at (hps i).1
    refine ⟨fun i => (bothPs A B).idxOf (((ra i : Nat) : Int), ((rb i : Nat) : Int)), ?_, fun i => ?_, fun i => ?_, fun F hF i => ?_⟩
    · refine (hst _).2 ⟨_, ?_, rfl⟩
      unfold bothStart
      refine cross_fit (x := L 0) ha.first hb.first ?_ ?_
      · simpa using ha.fits 0
      · simpa using hb.fits 0
    · refine (fit_both (hix i).1).2 ?_
      rw [(hix i).2]
      exact ⟨by simpa using ha.fits i, by simpa using hb.fits i⟩
    · refine (hnx _ (hix i).1 _).2 ⟨_, ?_, rfl⟩
      rw [(hix i).2]
      exact (hps i).2
    · rcases List.mem_append.1 hF with hF | hF
      · obtain ⟨F, hF', rfl⟩ := List.mem_map.1 hF
        obtain ⟨j, hj, hm⟩ := ha.fair F hF' i
        exact ⟨j, hj, setP_mem.2 ⟨(hix j).1, by rw [(hix j).2]; exact hm⟩⟩
      · obtain ⟨F, hF', rfl⟩ := List.mem_map.1 hF
        obtain ⟨j, hj, hm⟩ := hb.fair F hF' i
        exact ⟨j, hj, setP_mem.2 ⟨(hix j).1, by rw [(hix j).2]; exact hm⟩⟩
end Go.Proofs.Ytllpfgcngokhnaa
/-
  The automaton of a formula accepts just the words that satisfy it (Vardi, Wolper): plain lists.
-/
set_option linter.unusedVariables false
set_option linter.unusedSimpArgs false
namespace Go.Proofs.Ytllpfgcngokhnaa

theorem shr_bit {x a : Nat} : x >>> a &&& 1 = 1 ↔ x.testBit a = true := by
  rw [Nat.testBit_eq_decide_div_mod_eq, decide_eq_true_eq, Nat.and_one_is_mod, Nat.shiftRight_eq_div_pow]
structure OkF (m : Mk2) (t : Ltl) : Prop where
  wf : wfT t
  h10 : hasB t 10 = false
  h11 : hasB t 11 = false
  cov : Cov m t
theorem OkF.un {m : Mk2} {k n : Int} {a : Ltl} (h : OkF m (.mk k n [a])) : OkF m a := by
  obtain ⟨h1, h2, h3, h4⟩ := h
  simp only [wfT, wfTs] at h1
  simp only [hasB, hasBs, Bool.or_eq_false_iff] at h2 h3
  simp only [Cov, Covs] at h4
  exact ⟨h1.2.2.2.2.1, h2.2.1, h3.2.1, h4.2.2.1⟩
theorem OkF.b1 {m : Mk2} {k n : Int} {a b : Ltl} (h : OkF m (.mk k n [a, b])) : OkF m a := by
  obtain ⟨h1, h2, h3, h4⟩ := h
  simp only [wfT, wfTs] at h1
  simp only [hasB, hasBs, Bool.or_eq_false_iff] at h2 h3
  simp only [Cov, Covs] at h4
  exact ⟨h1.2.2.2.2.1, h2.2.1, h3.2.1, h4.2.2.1⟩
theorem OkF.b2 {m : Mk2} {k n : Int} {a b : Ltl} (h : OkF m (.mk k n [a, b])) : OkF m b := by
  obtain ⟨h1, h2, h3, h4⟩ := h
  simp only [wfT, wfTs] at h1
  simp only [hasB, hasBs, Bool.or_eq_false_iff] at h2 h3
  simp only [Cov, Covs] at h4
  exact ⟨h1.2.2.2.2.2.1, h2.2.2.1, h3.2.2.1, h4.2.2.2.1⟩
/-- elements that are closed -/
structure OkT (m : Mk2) : Prop where
  ok : OkM m
  clo : Clo m m
theorem part_shape {g : Ltl} (hw : wfT g) (hk : g.k = 7 ∨ g.k = 8 ∨ g.k = 9) : (∃ a, g = .mk 7 0 [a]) ∨ ∃ k a b, (k = 8 ∨ k = 9) ∧ g = .mk k 0 [a, b] := by
  obtain ⟨k, n, kids⟩ := g
  simp only [Ltl.k] at hk
  simp only [wfT] at hw
  obtain ⟨h1, _, _, h4, _⟩ := hw
  have hn : n = 0 := h4 (by omega)
  subst hn
  rcases hk with rfl | rfl | rfl
  · have : kids.length = 1 := by simp [kidsK] at h1; omega
    obtain ⟨a, rfl⟩ := List.length_eq_one_iff.1 this
    exact .inl ⟨a, rfl⟩
  · have : kids.length = 2 := by simp [kidsK] at h1; omega
    match kids, this with
    | [a, b], _ => exact .inr ⟨8, a, b, .inl rfl, rfl⟩
  · have : kids.length = 2 := by simp [kidsK] at h1; omega
    match kids, this with
    | [a, b], _ => exact .inr ⟨9, a, b, .inr rfl, rfl⟩
theorem OkT.part {m : Mk2} (h : OkT m) {g : Ltl} (hg : g ∈ m.2) : OkF m g := ⟨(h.ok.wp g hg).1, (h.ok.wp g hg).2.2.1, (h.ok.wp g hg).2.2.2, h.clo g hg⟩
theorem OkT.arg {m : Mk2} (h : OkT m) {g : Ltl} (hg : g ∈ m.2) : OkF m (argE g) := by
  have h1 := h.part hg
  rcases part_shape h1.wf (h.ok.wp g hg).2.1 with ⟨a, rfl⟩ | ⟨k, a, b, hk, rfl⟩
  · exact h1.un
  · unfold argE
    rw [if_neg (by simp only [Ltl.k]; omega)]
    exact h1
abbrev numN (m : Mk2) : Nat := m.1.length + m.2.length
def tabL (m : Mk2) (f : Ltl) : LAuto2 :=
  (((List.range (2 ^ numN m)).filter fun s => hoB m s f).map fun s : Nat => (s : Int),
   (List.range (2 ^ numN m)).map fun s => ((List.range (2 ^ numN m)).filter fun t => decide (keepN m t = s >>> m.1.length)).map fun t : Nat => (t : Int),
   (List.range (2 ^ numN m)).map fun s => bitsN m s true, (List.range (2 ^ numN m)).map fun s => bitsN m s false,
   (m.2.filter fun g => decide (g.k ≠ 7)).map fun g => ((List.range (2 ^ numN m)).filter fun s => fairB m g s).map fun s : Nat => (s : Int))
section
variable {m : Mk2} {L : Nat → Nat}
theorem getNil {l : List Ltl} {j : Nat} (h : j < l.length) : l.getD j nilT = l[j] := by rw [List.getD_eq_getElem?_getD, List.getElem?_eq_getElem h]; rfl
theorem keepN_bit {s j : Nat} : (keepN m s).testBit j = (decide (j < m.2.length) && hoB m s (argE (m.2.getD j nilT))) := packB_bit
/-- the bit of a part, of a state ahead -/
theorem part_bit {s t : Nat} (h : keepN m t = s >>> m.1.length) {g : Ltl} (hg : g ∈ m.2) : s.testBit (m.1.length + (partI m g).toNat) = hoB m t (argE g) := by
  obtain ⟨j, hj, e, hgj⟩ := partI_in hg
  rw [e, Int.toNat_natCast, ← Nat.testBit_shiftRight, ← h, keepN_bit, decide_eq_true hj, Bool.true_and, getNil hj, hgj]
theorem til_of {H A B : Nat → Prop} (hs : ∀ i, H i ↔ B i ∨ (A i ∧ H (i + 1))) (hf : ∀ i, ∃ j, i ≤ j ∧ (¬ H j ∨ B j)) (i : Nat) : H i ↔ Til A B i := by
  constructor
  · intro h
    refine Classical.byContradiction fun hn => ?_
    have : ∀ d, H (i + d) ∧ ¬ Til A B (i + d) := fun d => by
      induction d with
      | zero => exact ⟨h, hn⟩
      | succ d ih =>
        obtain ⟨h1, h2⟩ := ih
        have h3 : ¬ B (i + d) := fun hb => h2 (Til.step.2 (.inl hb))
        have h4 := ((hs _).1 h1).resolve_left h3
        exact ⟨h4.2, fun h5 => h2 (Til.step.2 (.inr ⟨h4.1, h5⟩))⟩
    obtain ⟨j, hj, hx⟩ := hf i
    have h1 := this (j - i)
    rw [show i + (j - i) = j by omega] at h1
    rcases hx with hx | hx
    · exact hx h1.1
    · exact h1.2 (Til.step.2 (.inl hx))
  · rintro ⟨j, hij, hb, ha⟩
    have : ∀ d, d ≤ j - i → H (j - d) := fun d => by
      induction d with
      | zero => intro _; exact (hs _).2 (.inl hb)
      | succ d ih =>
        intro hd
        refine (hs _).2 (.inr ⟨ha _ (by omega) (by omega), ?_⟩)
        rw [show j - (d + 1) + 1 = j - d by omega]
        exact ih (by omega)
    have h1 := this (j - i) (Nat.le_refl _)
    rwa [show j - (j - i) = i by omega] at h1
/-- what a run says is so -/
theorem run_sem (hm : OkT m) {r : Nat → Nat} (hstep : ∀ i, keepN m (r (i + 1)) = r i >>> m.1.length) (hfit : ∀ i, ∀ n ∈ m.1, (r i).testBit (atomI m n).toNat = (L i).testBit n.toNat)
    (hfair : ∀ g ∈ m.2, g.k ≠ 7 → ∀ i, ∃ j, i ≤ j ∧ fairB m g (r j) = true) : ∀ t, OkF m t → ∀ i, hoB m (r i) t = true ↔ sem L t i := by
  intro t ht
  refine wf_ind (M := fun t => OkF m t → ∀ i, hoB m (r i) t = true ↔ sem L t i) ?_ ?_ ?_ ?_ ?_ t ht.wf ht
  · intro _ i; rw [ho1, sem1]; simp
  · intro _ i; rw [ho2, sem2]; simp
  · intro n _ _ hf i
    have hc := hf.cov
    simp only [Cov] at hc
    rw [ho3, sem3, shr_bit, hfit i n (hc.1 trivial)]
  · intro k a hk _ ih hf i
    have ha := ih hf.un
    have hc := hf.cov
    simp only [Cov] at hc
    rcases hk with rfl | rfl | rfl | rfl
    · rw [ho4, sem4, ← ha i]; simp
    · have hg := hc.2.1 (.inl rfl)
      rw [ho7, sem7, ← ha (i + 1), part_bit (hstep i) hg]
      exact Iff.rfl
    · have := hf.h10; simp [hasB] at this
    · have := hf.h11; simp [hasB] at this
  · intro k a b hk _ _ iha ihb hf i
    have ha := iha hf.b1
    have hb := ihb hf.b2
    have hc := hf.cov
    simp only [Cov] at hc
    rcases hk with rfl | rfl | rfl | rfl
    · rw [ho5, sem5, ← ha i, ← hb i]; simp
    · rw [ho6, sem6, ← ha i, ← hb i]; simp
    · have hg := hc.2.1 (.inr (.inl rfl))
      rw [sem8]
      refine til_of (H := fun i => hoB m (r i) (.mk 8 0 [a, b]) = true) (fun i => ?_) (fun i => ?_) i
      · rw [ho8, part_bit (hstep i) hg, Bool.or_eq_true, Bool.and_eq_true, ha i, hb i]
        exact Iff.rfl
      · obtain ⟨j, h1, h2⟩ := hfair _ hg (by simp [Ltl.k]) i
        refine ⟨j, h1, ?_⟩
        unfold fairB at h2
        rw [if_pos (by rfl), Bool.or_eq_true] at h2
        rcases h2 with h2 | h2
        · exact .inl (by simpa using h2)
        · exact .inr ((hb j).1 h2)
    · have hg := hc.2.1 (.inr (.inr rfl))
      rw [sem9]
      have h9 := til_of (H := fun i => ¬ hoB m (r i) (.mk 9 0 [a, b]) = true) (A := fun j => ¬ sem L a j) (B := fun j => ¬ sem L b j) (fun i => ?_) (fun i => ?_) i
      · rw [← h9]; exact Classical.not_not.symm
      · rw [ho9, part_bit (hstep i) hg, Bool.and_eq_true, Bool.or_eq_true, ha i, hb i, Classical.not_and_iff_not_or_not, not_or]
        exact Iff.rfl
      · obtain ⟨j, h1, h2⟩ := hfair _ hg (by simp [Ltl.k]) i
        refine ⟨j, h1, ?_⟩
        unfold fairB at h2
        rw [if_neg (by simp [Ltl.k]), Bool.or_eq_true] at h2
        rcases h2 with h2 | h2
        · exact .inl (fun h => h h2)
        · refine .inr fun h => ?_
          have h2 : (!hoB m (r j) b) = true := h2
          have h3 : hoB m (r j) b = false := by simpa using h2
          rw [(hb j).2 h] at h3
          cases h3
/-- what a state says of the atoms is what a letter has -/
theorem fits_iff (hm : OkM m) {s x : Nat} : (x &&& bitsN m s true = bitsN m s true ∧ x &&& bitsN m s false = 0) ↔ ∀ j, j < m.1.length → x.testBit (m.1.getD j 0).toNat = s.testBit j := by
  have e1 : ∀ y, x &&& y = y ↔ ∀ a, y.testBit a = true → x.testBit a = true := fun y => by
    constructor
    · intro h a ha
      have := congrArg (fun z => z.testBit a) h
      simp only [Nat.testBit_and, ha, Bool.and_true] at this
      exact this
    · intro h
      refine Nat.eq_of_testBit_eq fun a => ?_
      rw [Nat.testBit_and]
      cases hy : y.testBit a
      · simp
      · rw [h a hy]; rfl
  have e2 : ∀ y, x &&& y = 0 ↔ ∀ a, y.testBit a = true → x.testBit a = false := fun y => by
    constructor
    · intro h a ha
      have := congrArg (fun z => z.testBit a) h
      simp only [Nat.testBit_and, ha, Bool.and_true, Nat.zero_testBit] at this
      exact this
    · intro h
      refine Nat.eq_of_testBit_eq fun a => ?_
      rw [Nat.testBit_and, Nat.zero_testBit]
      cases hy : y.testBit a
      · simp
      · rw [h a hy]; rfl
  rw [e1, e2]
  unfold bitsN
  constructor
  · rintro ⟨h1, h2⟩ j hj
    cases hs : s.testBit j
    · exact h2 _ (bitP_bit.2 ⟨j, hj, hs, rfl⟩)
    · exact h1 _ (bitP_bit.2 ⟨j, hj, hs, rfl⟩)
  · intro h
    refine ⟨fun a ha => ?_, fun a ha => ?_⟩
    · obtain ⟨j, hj, hs, rfl⟩ := bitP_bit.1 ha
      rw [h j hj, hs]
    · obtain ⟨j, hj, hs, rfl⟩ := bitP_bit.1 ha
      rw [h j hj, hs]
theorem atom_at {n : Int} (h : n ∈ m.1) : (atomI m n).toNat < m.1.length ∧ m.1.getD (atomI m n).toNat 0 = n := by
  obtain ⟨j, hj, e, hn⟩ := atomI_in h
  rw [e, Int.toNat_natCast]
  exact ⟨hj, by rw [List.getD_eq_getElem?_getD, List.getElem?_eq_getElem hj]; exact hn⟩
open Classical in
/-- the state that tells the truth -/
noncomputable def sigN (L : Nat → Nat) (m : Mk2) (i : Nat) : Nat :=
  packB (fun j => if j < m.1.length then (L i).testBit (m.1.getD j 0).toNat else decide (sem L (argE (m.2.getD (j - m.1.length) nilT)) (i + 1))) (numN m)
theorem sigN_atom {i j : Nat} (h : j < m.1.length) : (sigN L m i).testBit j = (L i).testBit (m.1.getD j 0).toNat := by
  unfold sigN
  rw [packB_bit, decide_eq_true (show j < numN m by unfold numN; omega), if_pos h, Bool.true_and]
theorem sigN_part {i j : Nat} (h : j < m.2.length) : (sigN L m i).testBit (m.1.length + j) = true ↔ sem L (argE (m.2.getD j nilT)) (i + 1) := by
  unfold sigN
  rw [packB_bit, decide_eq_true (show m.1.length + j < numN m by unfold numN; omega), if_neg (by omega), Bool.true_and, Nat.add_sub_cancel_left]
  exact @decide_eq_true_iff _ (Classical.propDecidable _)
theorem sigN_partI {i : Nat} {g : Ltl} (hg : g ∈ m.2) : (sigN L m i).testBit (m.1.length + (partI m g).toNat) = true ↔ sem L (argE g) (i + 1) := by
  obtain ⟨j, hj, e, hgj⟩ := partI_in hg
  rw [e, Int.toNat_natCast, sigN_part hj, getNil hj, hgj]
theorem sig_sem (hm : OkT m) : ∀ t, OkF m t → ∀ i, hoB m (sigN L m i) t = true ↔ sem L t i := by
  intro t ht
  refine wf_ind (M := fun t => OkF m t → ∀ i, hoB m (sigN L m i) t = true ↔ sem L t i) ?_ ?_ ?_ ?_ ?_ t ht.wf ht
  · intro _ i; rw [ho1, sem1]; simp
  · intro _ i; rw [ho2, sem2]; simp
  · intro n _ _ hf i
    have hc := hf.cov
    simp only [Cov] at hc
    obtain ⟨h1, h2⟩ := atom_at (hc.1 trivial)
    rw [ho3, sem3, shr_bit, sigN_atom h1, h2]
  · intro k a hk _ ih hf i
    have ha := ih hf.un
    have hc := hf.cov
    simp only [Cov] at hc
    rcases hk with rfl | rfl | rfl | rfl
    · rw [ho4, sem4, ← ha i]; simp
    · have hg := hc.2.1 (.inl rfl)
      rw [ho7, sem7, sigN_partI hg]
      exact Iff.rfl
    · have := hf.h10; simp [hasB] at this
    · have := hf.h11; simp [hasB] at this
  · intro k a b hk _ _ iha ihb hf i
    have ha := iha hf.b1
    have hb := ihb hf.b2
    have hc := hf.cov
    simp only [Cov] at hc
    rcases hk with rfl | rfl | rfl | rfl
    · rw [ho5, sem5, ← ha i, ← hb i]; simp
    · rw [ho6, sem6, ← ha i, ← hb i]; simp
    · have hg := hc.2.1 (.inr (.inl rfl))
      rw [ho8, Bool.or_eq_true, Bool.and_eq_true, sigN_partI hg, ha i, hb i, sem8, Til.step]
      have : sem L (argE (.mk 8 0 [a, b])) (i + 1) ↔ Til (sem L a) (sem L b) (i + 1) := sem8
      rw [this]
    · have hg := hc.2.1 (.inr (.inr rfl))
      rw [ho9, Bool.and_eq_true, Bool.or_eq_true, sigN_partI hg, ha i, hb i, sem9, Til.step]
      have : sem L (argE (.mk 9 0 [a, b])) (i + 1) ↔ ¬ Til (fun j => ¬ sem L a j) (fun j => ¬ sem L b j) (i + 1) := sem9
      rw [this, not_or, Classical.not_and_iff_not_or_not, Classical.not_not, Classical.not_not]
theorem sig_step (hm : OkT m) (i : Nat) : keepN m (sigN L m (i + 1)) = sigN L m i >>> m.1.length := by
  refine Nat.eq_of_testBit_eq fun j => ?_
  rw [keepN_bit, Nat.testBit_shiftRight]
  by_cases hj : j < m.2.length
  · rw [decide_eq_true hj, Bool.true_and, Bool.eq_iff_iff, sigN_part hj]
    exact sig_sem hm _ (hm.arg (by rw [getNil hj]; exact List.getElem_mem hj)) (i + 1)
  · rw [decide_eq_false hj, Bool.false_and]
    unfold sigN
    rw [packB_bit, decide_eq_false (show ¬ m.1.length + j < numN m by unfold numN; omega), Bool.false_and]
theorem sig_fair (hm : OkT m) {g : Ltl} (hg : g ∈ m.2) (hk : g.k ≠ 7) (i : Nat) : ∃ j, i ≤ j ∧ fairB m g (sigN L m j) = true := by
  have hf := hm.part hg
  rcases part_shape hf.wf (hm.ok.wp g hg).2.1 with ⟨a, rfl⟩ | ⟨k, a, b, hk2, rfl⟩
  · exact absurd rfl hk
  have hb := fun j => sig_sem (L := L) hm b hf.b2 j
  have hg' := fun j => sig_sem (L := L) hm _ hf j
  rcases hk2 with rfl | rfl
  · by_cases h : hoB m (sigN L m i) (.mk 8 0 [a, b]) = true
    · obtain ⟨j, h1, h2, _⟩ := sem8.1 ((hg' i).1 h)
      refine ⟨j, h1, ?_⟩
      unfold fairB
      rw [if_pos (by rfl), Bool.or_eq_true]
      exact .inr ((hb j).2 h2)
    · refine ⟨i, Nat.le_refl _, ?_⟩
      unfold fairB
      rw [if_pos (by rfl), Bool.or_eq_true]
      exact .inl (by simpa using h)
  · by_cases h : hoB m (sigN L m i) (.mk 9 0 [a, b]) = true
    · refine ⟨i, Nat.le_refl _, ?_⟩
      unfold fairB
      rw [if_neg (by simp [Ltl.k]), Bool.or_eq_true]
      exact .inl h
    · have h' : ¬ sem L (.mk 9 0 [a, b]) i := fun h2 => h ((hg' i).2 h2)
      rw [sem9, Classical.not_not] at h'
      obtain ⟨j, h1, h2, _⟩ := h'
      refine ⟨j, h1, ?_⟩
      unfold fairB
      rw [if_neg (by simp [Ltl.k]), Bool.or_eq_true]
      refine .inr ?_
      show (!hoB m (sigN L m j) b) = true
      cases e : hoB m (sigN L m j) b
      · rfl
      · exact absurd ((hb j).1 e) h2
theorem rangeN_mem {N : Nat} {p : Nat → Bool} {x : Nat} : (x : Int) ∈ ((List.range N).filter p).map (fun s : Nat => (s : Int)) ↔ x < N ∧ p x = true := by
  rw [List.mem_map]
  constructor
  · rintro ⟨y, hy, e⟩
    rw [List.mem_filter, List.mem_range] at hy
    have : y = x := by omega
    subst this; exact hy
  · intro h; exact ⟨x, List.mem_filter.2 ⟨List.mem_range.2 h.1, h.2⟩, rfl⟩
theorem mapN_get {N : Nat} {f : Nat → Nat} {x : Nat} (h : x < N) : ((List.range N).map f).getD x 0 = f x := by
  rw [List.getD_eq_getElem?_getD, List.getElem?_map, List.getElem?_range h]; rfl
theorem mapL_get {N : Nat} {f : Nat → List Int} {x : Nat} (h : x < N) : ((List.range N).map f).getD x [] = f x := by
  rw [List.getD_eq_getElem?_getD, List.getElem?_map, List.getElem?_range h]; rfl
theorem tab_nx {f : Ltl} {x : Nat} (h : x < 2 ^ numN m) : (tabL m f).2.1.getD x [] = ((List.range (2 ^ numN m)).filter fun t => decide (keepN m t = x >>> m.1.length)).map fun t : Nat => (t : Int) := mapL_get (f := fun s => ((List.range (2 ^ numN m)).filter fun t => decide (keepN m t = s >>> m.1.length)).map fun t : Nat => (t : Int)) h
theorem tab_mu {f : Ltl} {x : Nat} (h : x < 2 ^ numN m) : (tabL m f).2.2.1.getD x 0 = bitsN m x true := mapN_get (f := fun s => bitsN m s true) h
theorem tab_no {f : Ltl} {x : Nat} (h : x < 2 ^ numN m) : (tabL m f).2.2.2.1.getD x 0 = bitsN m x false := mapN_get (f := fun s => bitsN m s false) h
/-- Vardi, Wolper -/
theorem tab_acc (hm : OkT m) {f : Ltl} (hf : OkF m f) : AccA (tabL m f) L ↔ sem L f 0 := by
  constructor
  · rintro ⟨r, hr⟩
    have h0 := rangeN_mem.1 hr.first
    have hlt : ∀ i, r i < 2 ^ numN m := fun i => by
      induction i with
      | zero => exact h0.1
      | succ i ih =>
        have h1 := hr.step i
        rw [tab_nx ih] at h1
        exact (rangeN_mem.1 h1).1
    have hstep : ∀ i, keepN m (r (i + 1)) = r i >>> m.1.length := fun i => by
      have h1 := hr.step i
      rw [tab_nx (hlt i)] at h1
      exact of_decide_eq_true (rangeN_mem.1 h1).2
    have hfit : ∀ i, ∀ n ∈ m.1, (r i).testBit (atomI m n).toNat = (L i).testBit n.toNat := fun i n hn => by
      have h1 := hr.fits i
      unfold fitB at h1
      rw [Bool.and_eq_true, decide_eq_true_eq, decide_eq_true_eq, tab_mu (hlt i), tab_no (hlt i)] at h1
      obtain ⟨h2, h3⟩ := atom_at hn
      have h4 := (fits_iff hm.ok).1 h1 _ h2
      rw [h3] at h4
      exact h4.symm
    have hfair : ∀ g ∈ m.2, g.k ≠ 7 → ∀ i, ∃ j, i ≤ j ∧ fairB m g (r j) = true := fun g hg hk i => by
      obtain ⟨j, h1, h2⟩ := hr.fair _ (List.mem_map.2 ⟨g, List.mem_filter.2 ⟨hg, decide_eq_true hk⟩, rfl⟩) i
      exact ⟨j, h1, (rangeN_mem.1 h2).2⟩
    exact (run_sem hm hstep hfit hfair f hf 0).1 h0.2
  · intro h
    have hlt : ∀ i, sigN L m i < 2 ^ numN m := fun i => packB_lt
    refine ⟨sigN L m, rangeN_mem.2 ⟨hlt 0, (sig_sem hm f hf 0).2 h⟩, fun i => ?_, fun i => ?_, fun F hF i => ?_⟩
    · unfold fitB
      rw [Bool.and_eq_true, decide_eq_true_eq, decide_eq_true_eq, tab_mu (hlt i), tab_no (hlt i)]
      exact (fits_iff hm.ok).2 fun j hj => (sigN_atom hj).symm
    · rw [tab_nx (hlt i)]
      exact rangeN_mem.2 ⟨hlt (i + 1), decide_eq_true (sig_step hm i)⟩
    · obtain ⟨g, hg, rfl⟩ := List.mem_map.1 hF
      rw [List.mem_filter] at hg
      obtain ⟨j, h1, h2⟩ := sig_fair (L := L) hm hg.1 (of_decide_eq_true hg.2) i
      exact ⟨j, h1, rangeN_mem.2 ⟨hlt j, h2⟩⟩
end
end Go.Proofs.Ytllpfgcngokhnaa
/-
  Results that lie in a variable; slices that are read, later on; slices cut with their capacity. Over any program.
-/
set_option linter.unusedVariables false
set_option linter.unusedSimpArgs false
namespace Go.Proofs.Ytllpfgcngokhnaa
open Go.RowKit

theorem results_cell {fn : Func} {a : Nat} {t : TypeId} (h : fn.results = #[.cell a t]) (tmps : Array Value) (P : Program) (w : World) {p : Addr} {v : Value} (ha : tmps.getD a undef = .pointer (some p)) (hl : (loadVar t p).run P w = .ok v w) :
    (results fn tmps).run P w = .ok v w := by
  simp only [Array.getD_eq_getD_getElem?] at ha
  simp [results, h, ha, asAddr, hl]
theorem EX.retC {P : Program} {n : Nat} {σ : Sg} {w : World} {fn : Func} {a b : Nat} {t e : TypeId} {cells : List Value} {k : Nat} {R : Value → World → Prop} (hr : fn.results = #[.cell a t]) (ha : fnd σ a = some (.pointer (some ⟨b, 0, none⟩))) [hc : IsC P t k true] (hb : Blk w b e cells) (hk : lenL cells = k) (h : R (.agg cells.toArray) w) :
    EX (bodyPost P fn fun e w' => ∃ v, e = .returned v ∧ R v w') .ret n σ w := by
  unfold EX; intro ac hac
  refine bodyPost_ret (results_cell hr _ _ _ (hac.slot a _ ha) (v := .agg cells.toArray) ?_) hac.defers ⟨_, rfl, h⟩
  rw [lenL_eq] at hk
  have hld := run_loadCells_list (P := P) w ⟨b, 0, none⟩ cells (fun j u hu => by rw [WideShapes.add_plain, Nat.zero_add]; exact hb.cell hu)
  obtain ⟨i, dd, h1, h2, h3, h4⟩ := hc.ok
  have hagg : (isAgg t).run P w = .ok true w := by
    unfold isAgg
    rw [Sem.run_bind, run_underlying h3 w, ← h4]
    cases dd <;> rfl
  rw [hk] at hld
  simp [loadVar, hagg, sizeOf, typeInfo, h1, h2, hld]
theorem results_cell2 {fn : Func} {a u : Nat} {t : TypeId} (h : fn.results = #[.cell a t, .tmp u]) (tmps : Array Value) (P : Program) (w : World) {p : Addr} {v : Value} (ha : tmps.getD a undef = .pointer (some p)) (hl : (loadVar t p).run P w = .ok v w) :
    (results fn tmps).run P w = .ok (.tuple ⟨[v, tmps.getD u undef]⟩) w := by
  simp only [Array.getD_eq_getD_getElem?] at ha ⊢
  simp [results, h, ha, asAddr, hl]
theorem EX.retC2 {P : Program} {n : Nat} {σ : Sg} {w : World} {fn : Func} {a b u : Nat} {t e : TypeId} {cells : List Value} {k : Nat} {x : Value} {R : Value → World → Prop} (hr : fn.results = #[.cell a t, .tmp u]) (ha : fnd σ a = some (.pointer (some ⟨b, 0, none⟩))) (hu : fnd σ u = some x) [hc : IsC P t k true] (hb : Blk w b e cells) (hk : lenL cells = k) (h : R (.tuple ⟨[.agg cells.toArray, x]⟩) w) :
    EX (bodyPost P fn fun e w' => ∃ v, e = .returned v ∧ R v w') .ret n σ w := by
  unfold EX; intro ac hac
  refine bodyPost_ret (results_cell2 hr _ _ _ (hac.slot a _ ha) (v := .agg cells.toArray) ?_) hac.defers ⟨_, by rw [hac.slot u x hu], h⟩
  rw [lenL_eq] at hk
  have hld := run_loadCells_list (P := P) w ⟨b, 0, none⟩ cells (fun j u hu => by rw [WideShapes.add_plain, Nat.zero_add]; exact hb.cell hu)
  obtain ⟨i, dd, h1, h2, h3, h4⟩ := hc.ok
  have hagg : (isAgg t).run P w = .ok true w := by
    unfold isAgg
    rw [Sem.run_bind, run_underlying h3 w, ← h4]
    cases dd <;> rfl
  rw [hk] at hld
  simp [loadVar, hagg, sizeOf, typeInfo, h1, h2, hld]
theorem Sl.zero {α : Type} [Rep α] (w : World) (F : Nat → Prop) : Sl w F none 0 ([] : List α) := ⟨by simp, by simp [maxLen], fun _ => rfl, fun i hi => absurd hi (by simp)⟩
theorem Sl.up0 {α : Type} [Rep α] {w w' : World} {F : Nat → Prop} {ao : Option Addr} {cap : Nat} {xs : List α} (h : Sl w F ao cap xs) (hE : Ext w w') (hF : ∀ b, F b → b < w.heap.size) : Sl w' F ao cap xs := h.mono (fun b hb => hE.block b (hF b hb)) fun _ h => h
section
variable {P : Program} {Q : Exit → Act → World → Prop} {n : Nat} {σ : Sg} {w : World} {L rest : List Oper} {d : Nat} {ty : TypeId} {pos : String} {af : Array Edge} {g : Option (Nat × Bool)} {t e : TypeId} {α : Type} [Rep α] {F : Nat → Prop}
theorem run_cut3 {ao : Option Addr} {len cap k : Nat} {k1 k2 : IntKind} (w : World) [hs : IsS P t e] [ht : IsT P e α] (h : k ≤ cap) :
    (Instr.sliceAt t (.slice ao len cap) none (some (.int k1 (k : Int))) (some (.int k2 (k : Int)))).run P w = .ok (.slice ao k k) w := by
  have a2 : (k : Int) ≤ (cap : Int) := by omega
  have a3 : (0 : Int) ≤ (k : Int) := by omega
  simp only [Instr.sliceAt, Sem.run_bind, run_underlying hs.ok, Result.andThen_ok, Instr.slice, Instr.sliceBounds]
  simp [run_sizeOf (α := α), Instr.sliceBound, asIntOf, h, Addr.add_zero']
/-- x[:k:k] -/
theorem WL.cut3O {x y z : Operand} {v : Value} {xs : List α} {B : Nat} {k1 k2 : IntKind} {k : Nat} (hg : gd L σ ⟨some d, .slice t x none (some y) (some z), ty, pos, af, g⟩ = some true) (hd : Nat.ble (d + 1) n = true)
    (hx : ev σ x = some v) (hy : ev σ y = some (.int k1 (k : Int))) (hz : ev σ z = some (.int k2 (k : Int))) [hs : IsS P t e] [ht : IsT P e α] (hown : Own w B e F v xs) (hk : k ≤ xs.length)
    (h : ∀ v', Own w B e F v' (xs.take k) → v'.ownBlock = v.ownBlock → WL P L Q rest n ((d, v') :: σ) w) : WL P L Q (⟨some d, .slice t x none (some y) (some z), ty, pos, af, g⟩ :: rest) n σ w := by
  obtain ⟨ao, cap, rfl⟩ := hown.val
  have hle := hown.le rfl
  refine WL.run (v := .slice ao k k) hg hd (fun a ha => ?_) (h _ ?_ (by cases ao <;> rfl))
  · have := run_cut3 (P := P) (t := t) (e := e) (α := α) (ao := ao) (len := xs.length) (cap := cap) (k := k) (k1 := k1) (k2 := k2) w (by omega)
    simp [execOp, ha.ev hx, ha.ev hy, ha.ev hz, this]
  · rcases hown with ⟨h1, rfl⟩ | ⟨g', off, cp, cur, h1, ho⟩
    · obtain ⟨rfl, _, rfl⟩ := Value.slice.inj h1
      have : k = 0 := by simpa using hk
      subst this
      exact .inl ⟨rfl, by simp⟩
    · obtain ⟨rfl, _, rfl⟩ := Value.slice.inj h1
      have hlen : (xs.take k).length = k := by rw [List.length_take]; omega
      have hmul : k * sz α ≤ cap * sz α := Nat.mul_le_mul_right _ (by omega)
      refine .inr ⟨g', off, k, cur, by rw [hlen], ⟨ho.blk, ho.ge, ho.nF, by omega, by have := ho.mx; omega, by have := ho.fit; omega, ?_⟩⟩
      have := ho.el.take k hk
      rw [List.take_take, Nat.min_eq_left (Nat.mul_le_mul_right _ hk)] at this
      rw [hlen]; exact this
end
end Go.Proofs.Ytllpfgcngokhnaa
/-
  lasso.Holds; the small makers of formulas.
-/
set_option linter.unusedVariables false
set_option linter.unusedSimpArgs false
namespace Go.Proofs.Ytllpfgcngokhnaa
open Go.RowKit

def holdsE (s l : List Nat) (t : Ltl) : List Bool × Int := if (chkF t 1 0).1 ≠ 0 then ([], (chkF t 1 0).1) else if chkW s l ≠ 0 then ([], chkW s l) else (holdsL s l t, 0)
theorem Holds_ok (w : World) {F : Nat → Prop} {t : Ltl} {ao : Option Addr} {cap : Nat} {so lo : Option Addr} {sc lc : Nat} {s l : List Nat} (hk : Sl w F ao cap t.kids) (hs : Sl w F so sc s) (hl : Sl w F lo lc l) (hF : ∀ b, F b → b < w.heap.size) :
    Rt Try.prog 84 [ltlV t.k t.n ao t.kids.length cap, wordV so sc lo lc s l].toArray w fun v w' => ∃ u, v = .tuple ⟨[u, .int .i64 (holdsE s l t).2]⟩ ∧ Own w' w.heap.size 4 Non u (holdsE s l t).1 ∧ Ext w w' := by
  refine Rt.enter2 Try.func84 Try.ntmps84 rfl rfl ?_
  (repeat (first | (apply CW.seq) | (apply CW.region)))
  refine WL.boxB rfl rfl rfl fun w1 hf hE1 => ?_
  refine WL.boxB rfl rfl rfl fun w2 hw hE2 => ?_
  have hf := hf.ext hE2
  have hE2 := hE1.trans hE2
  (repeat (first | (apply WL.pure; rfl; rfl; rfl) | (apply WL.nil) | (apply EX.thenN) | (apply CW.seq) | (apply CW.region) | (apply WL.ldA; rfl; rfl; rfl; assumption; rfl)))
  refine WL.call rfl rfl rfl (ltlCheck w2 (hk.mono (fun b hb => hE2.block b (hF b hb)) fun _ h => h) (fun b hb => Nat.lt_of_lt_of_le (hF b hb) hE2.size)) ?_
  rintro v w3 ⟨rfl, hE3⟩
  have hf := hf.ext hE3
  have hw := hw.ext hE3
  have hE3 := hE2.trans hE3
  (repeat (first | (apply WL.pure; rfl; rfl; rfl) | (apply WL.nil) | (apply EX.thenN) | (apply CW.seq) | (apply CW.region)))
  refine CW.cond rfl (fun h => ?_) (fun h => ?_) <;> simp at h
  · (repeat (first | (apply WL.pure; rfl; rfl; rfl) | (apply WL.nil) | (apply EX.thenN) | (apply CW.seq) | (apply CW.region) | (apply CW.ret) | (apply EX.thenR)))
    have he : holdsE s l t = ([], (chkF t 1 0).1) := by unfold holdsE; rw [if_pos h]
    rw [he]
    exact EX.ret2 rfl rfl rfl ⟨.slice none 0 0, rfl, Own.nil, hE3⟩
  (repeat (first | (apply EX.thenN) | (apply CW.seq) | (apply CW.region) | (apply WL.ldA; rfl; rfl; rfl; assumption; rfl) | (apply CW.skip)))
  refine WL.call rfl rfl rfl (lassoCheck w3 hs.len63 hl.len63) ?_
  rintro v w4 ⟨rfl, hE4⟩
  have hf := hf.ext hE4
  have hw := hw.ext hE4
  have hE4 := hE3.trans hE4
  (repeat (first | (apply WL.pure; rfl; rfl; rfl) | (apply WL.nil) | (apply EX.thenN) | (apply CW.seq) | (apply CW.region)))
  refine CW.cond rfl (fun h1 => ?_) (fun h1 => ?_) <;> simp at h1
  · (repeat (first | (apply WL.pure; rfl; rfl; rfl) | (apply WL.nil) | (apply EX.thenN) | (apply CW.seq) | (apply CW.region) | (apply CW.ret) | (apply EX.thenR)))
    have he : holdsE s l t = ([], chkW s l) := by unfold holdsE; rw [if_neg (by simp [h]), if_pos h1]
    rw [he]
    exact EX.ret2 rfl rfl rfl ⟨.slice none 0 0, rfl, Own.nil, hE4⟩
  have he : holdsE s l t = (holdsL s l t, 0) := by unfold holdsE; rw [if_neg (by simp [h]), if_neg (by simp [h1])]
  (repeat (first | (apply EX.thenN) | (apply CW.seq) | (apply CW.region) | (apply WL.ldA; rfl; rfl; rfl; assumption; rfl) | (apply CW.skip)))
  refine WL.call rfl rfl rfl (holds_ok t.nodes t (Nat.le_refl _) (chkF_wf t 1 0 h) w4 F ao cap so lo sc lc s l (hk.mono (fun b hb => hE4.block b (hF b hb)) fun _ h => h) (hs.mono (fun b hb => hE4.block b (hF b hb)) fun _ h => h) (hl.mono (fun b hb => hE4.block b (hF b hb)) fun _ h => h) (fun b hb => Nat.lt_of_lt_of_le (hF b hb) hE4.size) h1) ?_
  rintro v w5 ⟨ho, hE5⟩
  (repeat (first | (apply WL.pure; rfl; rfl; rfl) | (apply WL.nil) | (apply EX.thenN) | (apply CW.ret)))
  rw [he]
  exact EX.ret2 rfl rfl rfl ⟨v, rfl, ho.low hE4.size, hE4.trans hE5⟩
/-- a formula that stands in memory -/
def RL (w : World) (v : Value) (t : Ltl) : Prop := Rd w (Old w) v t
theorem RL.ext {w w' : World} {v : Value} {t : Ltl} (h : RL w v t) (hE : Ext w w') : RL w' v t := Rd.mono h (fun b hb => hE.block b hb) (fun b hb => Nat.lt_of_lt_of_le hb hE.size)
theorem mk_atom (w : World) (n : Int) : Rt Try.prog 38 [.int .i64 n].toArray w fun v w' => RL w' v (.mk 3 n []) ∧ Ext w w' := by
  refine Rt.enter1 Try.func38 Try.ntmps38 rfl rfl ?_
  (repeat (first | (apply CW.seq) | (apply CW.region)))
  refine WL.alloc rfl rfl (fun w1 hb hE => ?_)
  (repeat (first | (apply WL.pure; rfl; rfl; rfl) | (apply WL.nil) | (apply EX.thenN) | (apply CW.seq) | (apply CW.region)))
  refine WL.build rfl rfl rfl rfl ?_
  refine WL.st rfl rfl rfl hb rfl rfl (ones_of rfl) (fun w2 hb2 hgr => ?_)
  have hE2 : Ext w w2 := hE.grown hgr hE.size (fun g hg => by cases hg; exact Nat.le_refl _)
  (repeat (first | (apply WL.nil) | (apply EX.thenN) | (apply CW.ret)))
  exact EX.retC rfl rfl hb2 rfl ⟨Rd.mkLtl (kids := []) ⟨by simp, by simp [maxLen], fun _ => rfl, fun i hi => absurd hi (by simp)⟩, hE2⟩
/-- blocks of F, and new ones -/
def Plus (F : Nat → Prop) (w w' : World) : Nat → Prop := fun b => F b ∨ (w.heap.size ≤ b ∧ b < w'.heap.size)
theorem mk_oneF (w : World) {F : Nat → Prop} (hF : ∀ b, F b → b < w.heap.size) (k : Int) {v : Value} {t : Ltl} (h : Rd w F v t) : Rt Try.prog 34 [.int .i64 k, v].toArray w fun v w' => Rd w' (Plus F w w') v (.mk k 0 [t] : Ltl) ∧ Ext w w' := by
  obtain ⟨ao, cap, rfl, hk⟩ := Rd.ltl h
  refine Rt.enter2 Try.func34 Try.ntmps34 rfl rfl ?_
  (repeat (first | (apply CW.seq) | (apply CW.region)))
  refine WL.boxB rfl rfl rfl fun w1 hb hE1 => ?_
  refine WL.alloc rfl rfl (fun w2 hr hE2 => ?_)
  have hb2 := hb.ext hE2
  have hE12 := hE1.trans hE2
  (repeat (first | (apply WL.pure; rfl; rfl; rfl) | (apply WL.nil) | (apply EX.thenN) | (apply CW.seq) | (apply CW.region) | (apply WL.ldA; rfl; rfl; rfl; assumption; rfl)))
  have hl : Rd w2 F (ltlV t.k t.n ao t.kids.length cap) t := Rd.mono h (fun b hb => hE12.block b (hF b hb)) (fun _ h => h)
  have hw2 : w.heap.size ≤ w2.heap.size := hE12.size
  have hlt := hr.lt
  have hw1 : w.heap.size ≤ w1.heap.size := hE1.size
  refine WL.lit (F := F) (ys := [t]) rfl rfl rfl rfl rfl (.cons hl .nil) (by show 1 * 3 ≤ 16777216; decide) (fun b hb => Nat.lt_of_lt_of_le (hF b hb) hw2) (fun w3 ho hg3 => ?_)
  have hE23 : Ext w2 w3 := (Ext.refl w2).grown hg3 (Nat.le_refl _) (fun k h => by cases h)
  have hr3 := hr.ext hE23
  have hE13 := hE12.trans hE23
  refine WL.build rfl rfl rfl rfl ?_
  refine WL.st rfl rfl rfl hr3 rfl rfl (ones_of rfl) (fun w4 hr4 hgr => ?_)
  have hE4 : Ext w w4 := hE13.grown hgr hE13.size (fun g hg => by cases hg; exact hE1.size)
  have ho4 := ho.kept hgr (fun g hg => by have := (ho.lt g hg).1; simp; omega) (fun b hb => ⟨Nat.lt_of_lt_of_le (hF b hb) hE13.size, by have : b < w.heap.size := hF b hb; simp; omega⟩)
  obtain ⟨uo, uc, he, hu⟩ := (ho4.rd.mono (F' := Plus F w w4) (fun _ _ => rfl) (fun b hb => hb.elim .inl fun hv => .inr ⟨Nat.le_trans hE12.size (ho4.lt b hv).1, (ho4.lt b hv).2.1⟩)).sl
  obtain ⟨rfl, _, rfl⟩ := Value.slice.inj he
  (repeat (first | (apply WL.nil) | (apply EX.thenN) | (apply CW.ret)))
  exact EX.retC rfl rfl hr4 rfl ⟨Rd.mkLtl (kids := [t]) hu, hE4⟩
theorem mk_twoF (w : World) {F : Nat → Prop} (hF : ∀ b, F b → b < w.heap.size) (k : Int) {v v' : Value} {t t' : Ltl} (h : Rd w F v t) (h' : Rd w F v' t') : Rt Try.prog 32 [.int .i64 k, v, v'].toArray w fun v w' => Rd w' (Plus F w w') v (.mk k 0 [t, t'] : Ltl) ∧ Ext w w' := by
  obtain ⟨ao, cap, rfl, hk⟩ := Rd.ltl h
  obtain ⟨ao', cap', rfl, hk'⟩ := Rd.ltl h'
  refine Rt.enter3 Try.func32 Try.ntmps32 rfl rfl ?_
  (repeat (first | (apply CW.seq) | (apply CW.region)))
  refine WL.boxB rfl rfl rfl fun w0 hb0 hE0 => ?_
  refine WL.boxB rfl rfl rfl fun w1 hb hE1 => ?_
  have hb0 := hb0.ext hE1
  have hE1 := hE0.trans hE1
  refine WL.alloc rfl rfl (fun w2 hr hE2 => ?_)
  have hb0 := hb0.ext hE2
  have hb2 := hb.ext hE2
  have hE12 := hE1.trans hE2
  (repeat (first | (apply WL.pure; rfl; rfl; rfl) | (apply WL.nil) | (apply EX.thenN) | (apply CW.seq) | (apply CW.region) | (apply WL.ldA; rfl; rfl; rfl; assumption; rfl)))
  have hl : Rd w2 F (ltlV t.k t.n ao t.kids.length cap) t := Rd.mono h (fun b hb => hE12.block b (hF b hb)) (fun _ h => h)
  have hl' : Rd w2 F (ltlV t'.k t'.n ao' t'.kids.length cap') t' := Rd.mono h' (fun b hb => hE12.block b (hF b hb)) (fun _ h => h)
  have hw2 : w.heap.size ≤ w2.heap.size := hE12.size
  have hlt := hr.lt
  have hw1 : w.heap.size ≤ w1.heap.size := hE1.size
  refine WL.lit (F := F) (ys := [t, t']) rfl rfl rfl rfl rfl (.cons hl (.cons hl' .nil)) (by show 2 * 3 ≤ 16777216; decide) (fun b hb => Nat.lt_of_lt_of_le (hF b hb) hw2) (fun w3 ho hg3 => ?_)
  have hE23 : Ext w2 w3 := (Ext.refl w2).grown hg3 (Nat.le_refl _) (fun k h => by cases h)
  have hr3 := hr.ext hE23
  have hE13 := hE12.trans hE23
  refine WL.build rfl rfl rfl rfl ?_
  refine WL.st rfl rfl rfl hr3 rfl rfl (ones_of rfl) (fun w4 hr4 hgr => ?_)
  have hE4 : Ext w w4 := hE13.grown hgr hE13.size (fun g hg => by cases hg; exact hE1.size)
  have ho4 := ho.kept hgr (fun g hg => by have := (ho.lt g hg).1; simp; omega) (fun b hb => ⟨Nat.lt_of_lt_of_le (hF b hb) hE13.size, by have : b < w.heap.size := hF b hb; simp; omega⟩)
  obtain ⟨uo, uc, he, hu⟩ := (ho4.rd.mono (F' := Plus F w w4) (fun _ _ => rfl) (fun b hb => hb.elim .inl fun hv => .inr ⟨Nat.le_trans hE12.size (ho4.lt b hv).1, (ho4.lt b hv).2.1⟩)).sl
  obtain ⟨rfl, _, rfl⟩ := Value.slice.inj he
  (repeat (first | (apply WL.nil) | (apply EX.thenN) | (apply CW.ret)))
  exact EX.retC rfl rfl hr4 rfl ⟨Rd.mkLtl (kids := [t, t']) hu, hE4⟩
theorem mk_one (w : World) (k : Int) {v : Value} {t : Ltl} (h : RL w v t) : Rt Try.prog 34 [.int .i64 k, v].toArray w fun v w' => RL w' v (.mk k 0 [t]) ∧ Ext w w' :=
  (mk_oneF w (fun _ h => h) k h).mono fun v w' h => ⟨Rd.mono h.1 (fun _ _ => rfl) fun b hb => hb.elim (fun h1 => Nat.lt_of_lt_of_le h1 h.2.size) (·.2), h.2⟩
theorem mk_two (w : World) (k : Int) {v v' : Value} {t t' : Ltl} (h : RL w v t) (h' : RL w v' t') : Rt Try.prog 32 [.int .i64 k, v, v'].toArray w fun v w' => RL w' v (.mk k 0 [t, t']) ∧ Ext w w' :=
  (mk_twoF w (fun _ h => h) k h h').mono fun v w' h => ⟨Rd.mono h.1 (fun _ _ => rfl) fun b hb => hb.elim (fun h1 => Nat.lt_of_lt_of_le h1 h.2.size) (·.2), h.2⟩

def truthL (s l : List Nat) (t : Ltl) : Bool × Bool := if (holdsE s l t).2 ≠ 0 ∨ (holdsE s l t).1.length = 0 then (false, false) else ((holdsE s l t).1.getD 0 false, true)
theorem truth_ok (w : World) {F : Nat → Prop} {t : Ltl} {ao : Option Addr} {cap : Nat} {so lo : Option Addr} {sc lc : Nat} {s l : List Nat} (hk : Sl w F ao cap t.kids) (hs : Sl w F so sc s) (hl : Sl w F lo lc l) (hF : ∀ b, F b → b < w.heap.size) :
    Rt Try.prog 36 [ltlV t.k t.n ao t.kids.length cap, wordV so sc lo lc s l].toArray w fun v w' => v = .tuple ⟨[.bool (truthL s l t).1, .bool (truthL s l t).2]⟩ ∧ Ext w w' := by
  refine Rt.enter2 Try.func36 Try.ntmps36 rfl rfl ?_
  (repeat (first | (apply CW.seq) | (apply CW.region)))
  refine WL.boxB rfl rfl rfl fun w1 hf hE1 => ?_
  refine WL.boxB rfl rfl rfl fun w2 hw hE2 => ?_
  have hf := hf.ext hE2
  have hE2 := hE1.trans hE2
  (repeat (first | (apply WL.pure; rfl; rfl; rfl) | (apply WL.nil) | (apply EX.thenN) | (apply CW.seq) | (apply CW.region) | (apply WL.ldA; rfl; rfl; rfl; assumption; rfl)))
  refine WL.call rfl rfl rfl (Holds_ok w2 (hk.up0 hE2 hF) (hs.up0 hE2 hF) (hl.up0 hE2 hF) (fun b hb => Nat.lt_of_lt_of_le (hF b hb) hE2.size)) ?_
  rintro v w3 ⟨u, rfl, ho, hE3⟩
  have hE3 := hE2.trans hE3
  unfold truthL
  generalize holdsE s l t = r at *
  obtain ⟨xs, e⟩ := r
  simp only at ho
  (repeat (first | (apply WL.pure; rfl; rfl; rfl) | (apply WL.nil) | (apply EX.thenN) | (apply CW.seq) | (apply CW.region)))
  (refine WL.lookG rfl rfl (fun h => ?_) (fun h => ?_)) <;> simp at h
  · (repeat (first | (apply WL.pure; rfl; rfl; rfl) | (apply WL.nil) | (apply EX.thenN) | (apply CW.seq) | (apply CW.region) | (apply WL.pass; rfl; rfl) | (apply CW.condT; rfl) | (apply CW.ret) | (apply EX.thenR)))
    refine EX.ret2 rfl rfl rfl ⟨?_, hE3⟩
    rw [if_pos (.inl h)]
  · (repeat (first | (apply WL.pure; rfl; rfl; rfl) | (apply WL.nil) | (apply EX.thenN) | (refine WL.lenO rfl rfl rfl (by assumption) ?_)))
    refine CW.cond rfl (fun h1 => ?_) (fun h1 => ?_) <;> simp at h1
    · (repeat (first | (apply WL.pure; rfl; rfl; rfl) | (apply WL.nil) | (apply EX.thenN) | (apply CW.seq) | (apply CW.region) | (apply CW.ret) | (apply EX.thenR)))
      refine EX.ret2 rfl rfl rfl ⟨?_, hE3⟩
      rw [if_pos (.inr (by simp [h1]))]
    · have hp : 0 < xs.length := by cases xs with | nil => exact absurd rfl h1 | cons x r => simp
      (repeat (first | (apply WL.pure; rfl; rfl; rfl) | (apply EX.thenN) | (apply CW.seq) | (apply CW.region) | (apply CW.skip)))
      refine WL.elemON (i := 0) rfl rfl rfl rfl rfl ho hp (fun _ => rfl) (fun q p hq => ?_)
      have hq := hq.bool
      subst hq
      (repeat (first | (apply WL.pure; rfl; rfl; rfl) | (apply WL.nil) | (apply EX.thenN) | (apply CW.ret)))
      refine EX.ret2 rfl rfl rfl ⟨?_, hE3⟩
      rw [if_neg (by simp only; omega)]
      have : xs.getD 0 false = xs[0] := by rw [List.getD_eq_getElem?_getD, List.getElem?_eq_getElem hp]; rfl
      simp only [this]
end Go.Proofs.Ytllpfgcngokhnaa
