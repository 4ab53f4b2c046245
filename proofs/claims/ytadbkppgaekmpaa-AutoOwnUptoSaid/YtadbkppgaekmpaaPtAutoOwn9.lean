import Derived.Test.YtadbkppgaekmpaaPtAutoOwn8
/-
  What an automaton accepts: runs, the product with a word's places, parts of a graph: plain lists, no program in sight.
-/
set_option linter.unusedVariables false
set_option linter.unusedSimpArgs false
namespace Go.Proofs.Ytadbkppgaekmpaa

/- PARTS -/
theorem Rc.lt {E : Nat → Nat → Prop} {N a b : Nat} (hN : ∀ u v, E u v → v < N) (ha : a < N) : Rc E a b → b < N
  | ⟨p, n, h⟩ => by
    cases n with
    | zero => rw [← h.last, h.first]; exact ha
    | succ n => rw [← h.last]; exact hN _ _ (h.step n (by omega))
/-- a round has a first step -/
theorem Rc.first {E : Nat → Nat → Prop} {a b c : Nat} (h1 : Rc E a b) (h2 : E b c) (h3 : Rc E c a) : ∃ u, E a u ∧ Rc E u a := by
  obtain ⟨p, n, h⟩ := h1
  cases n with
  | zero => obtain rfl : a = b := h.first.symm.trans h.last
            exact ⟨c, h2, h3⟩
  | succ n =>
    refine ⟨p 1, by have := h.step 0 (by omega); rwa [h.first] at this, Rc.trans ⟨fun i => p (i + 1), n, rfl, h.last, fun i hi => h.step (i + 1) (by omega)⟩ ((Rc.one h2).trans h3)⟩
theorem core_part {g : Graph} {part : List Int} {Ps : List (Nat → Prop)} (hg : okG g) (hp : PartsOK g part) {i : Nat} (hi : i < g.length) :
    Core (Eg g) Ps i ↔ (∃ u, u < g.length ∧ part.getD u 0 = part.getD i 0 ∧ ∃ to ∈ g.getD u [], part.getD to.toNat 0 = part.getD i 0) ∧ ∀ P ∈ Ps, ∃ x, x < g.length ∧ P x ∧ part.getD x 0 = part.getD i 0 := by
  have hN : ∀ u v, Eg g u v → v < g.length := fun u v h => h.lt hg
  have hs : ∀ a b, a < g.length → b < g.length → (part.getD a 0 = part.getD b 0 ↔ Rc (Eg g) a b ∧ Rc (Eg g) b a) := fun a b ha hb => by
    rw [hp.same a b ha hb, rch1 hg, rch1 hg]
  constructor
  · rintro ⟨⟨u, h1, h2⟩, h3⟩
    refine ⟨⟨i, hi, rfl, (u : Int), h1, ?_⟩, fun P hP => ?_⟩
    · exact ((hs u i (hN _ _ h1) hi).2 ⟨h2, Rc.one h1⟩)
    · obtain ⟨x, hx, k1, k2⟩ := h3 P hP
      exact ⟨x, Rc.lt hN hi k1, hx, (hs x i (Rc.lt hN hi k1) hi).2 ⟨k2, k1⟩⟩
  · rintro ⟨⟨u, hu, h1, to, h2, h3⟩, h4⟩
    have ht := okG_row hg u to h2
    have h2' : Eg g u to.toNat := by show ((to.toNat : Nat) : Int) ∈ _; rw [show ((to.toNat : Nat) : Int) = to by omega]; exact h2
    refine ⟨Rc.first ((hs u i hu hi).1 h1).2 h2' ((hs _ i (hN _ _ h2') hi).1 h3).1, fun P hP => ?_⟩
    obtain ⟨x, hx, h5, h6⟩ := h4 P hP
    exact ⟨x, h5, ((hs x i hx hi).1 h6).2, ((hs x i hx hi).1 h6).1⟩

/- THE NODES THAT ARE COME TO -/
structure RchdOK (g : Graph) (f : List Int) (li : List Int) (sm : Graph) : Prop where
  mem : ∀ x : Nat, (x : Int) ∈ li ↔ Rch g f x
  pos : ∀ x ∈ li, 0 ≤ x
  nodup : li.Nodup
  len : sm.length = li.length
  row : ∀ i, i < li.length → sm.getD i [] = (g.getD (li.getD i 0).toNat []).map fun to => (li.idxOf to : Int)
section
variable {g : Graph} {f li : List Int} {sm : Graph}
abbrev ndAt (li : List Int) (i : Nat) : Nat := (li.getD i 0).toNat
theorem RchdOK.at (h : RchdOK g f li sm) {i : Nat} (hi : i < li.length) : ((ndAt li i : Nat) : Int) = li.getD i 0 ∧ li.getD i 0 ∈ li := by
  have e : li.getD i 0 = li[i] := by rw [List.getD_eq_getElem?_getD, List.getElem?_eq_getElem hi]; rfl
  have hm : li.getD i 0 ∈ li := by rw [e]; exact List.getElem_mem hi
  have := h.pos _ hm
  exact ⟨by unfold ndAt; omega, hm⟩
theorem RchdOK.idx (h : RchdOK g f li sm) {x : Nat} (hx : (x : Int) ∈ li) : li.idxOf (x : Int) < li.length ∧ ndAt li (li.idxOf (x : Int)) = x := by
  have hl := List.idxOf_lt_length_iff.2 hx
  refine ⟨hl, ?_⟩
  unfold ndAt
  rw [List.getD_eq_getElem?_getD, List.getElem?_eq_getElem hl, Option.getD_some, List.getElem_idxOf hl]
  omega
theorem RchdOK.idxAt (h : RchdOK g f li sm) {i : Nat} (hi : i < li.length) : li.idxOf (li.getD i 0) = i := by
  have e : li.getD i 0 = li[i] := by rw [List.getD_eq_getElem?_getD, List.getElem?_eq_getElem hi]; rfl
  rw [e]
  exact h.nodup.idxOf_getElem i hi
theorem RchdOK.edge (h : RchdOK g f li sm) (hg : okG g) {i j : Nat} (hi : i < li.length) (hj : j < li.length) : Eg sm i j ↔ Eg g (ndAt li i) (ndAt li j) := by
  unfold Eg
  rw [h.row i hi, List.mem_map, (h.at hj).1]
  constructor
  · rintro ⟨to, h1, h2⟩
    have hr : Rch g f to.toNat := Rch.step ((h.mem _).1 (by rw [(h.at hi).1]; exact (h.at hi).2)) h1
    have h0 := (okG_row hg _ _ h1).1
    have hm : to ∈ li := by rw [show to = ((to.toNat : Nat) : Int) by omega]; exact (h.mem _).2 hr
    have hl := List.idxOf_lt_length_iff.2 hm
    have : to = li.getD j 0 := by
      have e2 : li.idxOf to = j := by omega
      rw [← e2, List.getD_eq_getElem?_getD, List.getElem?_eq_getElem hl, Option.getD_some, List.getElem_idxOf hl]
    rw [← this]; exact h1
  · intro h1
    exact ⟨_, h1, by rw [h.idxAt hj]⟩
theorem RchdOK.okG (h : RchdOK g f li sm) (hg : okG g) : okG sm := by
  intro l hl x hx
  obtain ⟨i, hi, rfl⟩ := List.mem_iff_getElem.1 hl
  have hi' : i < li.length := by rw [← h.len]; exact hi
  have e : sm[i] = sm.getD i [] := by rw [List.getD_eq_getElem?_getD, List.getElem?_eq_getElem hi]; rfl
  rw [e, h.row i hi', List.mem_map] at hx
  obtain ⟨to, h1, rfl⟩ := hx
  have hr : Rch g f to.toNat := Rch.step ((h.mem _).1 (by rw [(h.at hi').1]; exact (h.at hi').2)) h1
  have h0 := (okG_row hg _ _ h1).1
  have hm : to ∈ li := by rw [show to = ((to.toNat : Nat) : Int) by omega]; exact (h.mem _).2 hr
  have hl := List.idxOf_lt_length_iff.2 hm
  rw [h.len]; omega
theorem Eg.lt1 {g : Graph} {u v : Nat} (h : Eg g u v) : u < g.length := by
  unfold Eg at h
  apply Classical.byContradiction
  intro hn
  rw [List.getD_eq_getElem?_getD, List.getElem?_eq_none (by omega)] at h
  simp at h
theorem RchdOK.rc (h : RchdOK g f li sm) (hg : _root_.Go.Proofs.Ytadbkppgaekmpaa.okG g) {i j : Nat} (hi : i < li.length) (hj : j < li.length) : Rc (Eg sm) i j ↔ Rc (Eg g) (ndAt li i) (ndAt li j) := by
  have hs := h.okG hg
  constructor
  · rintro ⟨p, n, hw⟩
    refine ⟨fun k => ndAt li (p k), n, by rw [hw.first], by rw [hw.last], fun k hk => ?_⟩
    have := hw.step k hk
    have a := this.lt1; have b := this.lt hs
    rw [h.len] at a b
    exact (h.edge hg a b).1 this
  · rintro ⟨p, n, hw⟩
    have hm : ∀ k, k ≤ n → ((p k : Nat) : Int) ∈ li := by
      intro k
      induction k with
      | zero => intro _; rw [hw.first, (h.at hi).1]; exact (h.at hi).2
      | succ k ih =>
        intro hk
        have h1 := (h.mem _).1 (ih (by omega))
        exact (h.mem _).2 (Rch.step h1 (hw.step k (by omega)))
    refine ⟨fun k => li.idxOf ((p k : Nat) : Int), n, ?_, ?_, fun k hk => ?_⟩
    · show li.idxOf _ = i
      rw [hw.first, (h.at hi).1, h.idxAt hi]
    · show li.idxOf _ = j
      rw [hw.last, (h.at hj).1, h.idxAt hj]
    · have a := h.idx (hm k (by omega)); have b := h.idx (hm (k + 1) (by omega))
      refine (h.edge hg a.1 b.1).2 ?_
      rw [a.2, b.2]; exact hw.step k hk
theorem RchdOK.core (h : RchdOK g f li sm) (hg : _root_.Go.Proofs.Ytadbkppgaekmpaa.okG g) {Ps : List (Nat → Prop)} {i : Nat} (hi : i < li.length) : Core (Eg sm) (Ps.map fun P x => P (ndAt li x)) i ↔ Core (Eg g) Ps (ndAt li i) := by
  have hs := h.okG hg
  have hin : ∀ x, Rc (Eg g) (ndAt li i) x → (x : Int) ∈ li := by
    rintro x ⟨p, n, hw⟩
    have hm : ∀ k, k ≤ n → ((p k : Nat) : Int) ∈ li := by
      intro k
      induction k with
      | zero => intro _; rw [hw.first, (h.at hi).1]; exact (h.at hi).2
      | succ k ih => intro hk; exact (h.mem _).2 (Rch.step ((h.mem _).1 (ih (by omega))) (hw.step k (by omega)))
    rw [← hw.last]; exact hm n (Nat.le_refl _)
  constructor
  · rintro ⟨⟨u, h1, h2⟩, h3⟩
    have hu := h1.lt hs
    rw [h.len] at hu
    refine ⟨⟨ndAt li u, (h.edge hg hi hu).1 h1, (h.rc hg hu hi).1 h2⟩, fun P hP => ?_⟩
    obtain ⟨x, hx, k1, k2⟩ := h3 _ (List.mem_map.2 ⟨P, hP, rfl⟩)
    have hxl : x < li.length := by rw [← h.len]; exact Rc.lt (fun u v h => h.lt hs) (by rw [h.len]; exact hi) k1
    exact ⟨_, hx, (h.rc hg hi hxl).1 k1, (h.rc hg hxl hi).1 k2⟩
  · rintro ⟨⟨u, h1, h2⟩, h3⟩
    have hu := h.idx (hin u (Rc.one h1))
    refine ⟨⟨li.idxOf (u : Int), (h.edge hg hi hu.1).2 (by rw [hu.2]; exact h1), (h.rc hg hu.1 hi).2 (by rw [hu.2]; exact h2)⟩, fun P hP => ?_⟩
    obtain ⟨P, hP', rfl⟩ := List.mem_map.1 hP
    obtain ⟨x, hx, k1, k2⟩ := h3 P hP'
    have hxl := h.idx (hin x k1)
    exact ⟨li.idxOf (x : Int), by show P _; rw [hxl.2]; exact hx, (h.rc hg hi hxl.1).2 (by rw [hxl.2]; exact k1), (h.rc hg hxl.1 hi).2 (by rw [hxl.2]; exact k2)⟩
/-- some part is good just if a node that is come to is -/
theorem good_core {part : List Int} {Ps : List (Nat → Prop)} {good : List Bool} (h : RchdOK g f li sm) (hg : _root_.Go.Proofs.Ytadbkppgaekmpaa.okG g) (hf : ∀ x ∈ f, 0 ≤ x) (hp : PartsOK sm part) (hl : good.length = sm.length)
    (hgood : ∀ c, c < sm.length → (good.getD c false = true ↔ (∃ u, u < sm.length ∧ part.getD u 0 = c ∧ ∃ to ∈ sm.getD u [], part.getD to.toNat 0 = c) ∧ ∀ P ∈ Ps, ∃ x, x < sm.length ∧ P (ndAt li x) ∧ part.getD x 0 = c)) :
    true ∈ good ↔ ∃ a : Nat, (a : Int) ∈ f ∧ ∃ v, Rc (Eg g) a v ∧ Core (Eg g) Ps v := by
  have hs := h.okG hg
  have key : ∀ i, i < li.length → (Core (Eg g) Ps (ndAt li i) ↔ good.getD (part.getD i 0).toNat false = true) := by
    intro i hi
    have hi' : i < sm.length := by rw [h.len]; exact hi
    have hip : i < part.length := by rw [hp.len]; exact hi'
    have h0 := hp.ge i hip
    have h1 := hp.lt i hip
    rw [← h.core hg hi, core_part hs hp hi', hgood _ (by omega), show (((part.getD i 0).toNat : Nat) : Int) = part.getD i 0 by omega]
    refine and_congr Iff.rfl ⟨fun k P hP => k _ (List.mem_map.2 ⟨P, hP, rfl⟩), fun k P hP => ?_⟩
    obtain ⟨P, hP', rfl⟩ := List.mem_map.1 hP
    exact k P hP'
  constructor
  · intro ht
    obtain ⟨c, hc, he⟩ := List.mem_iff_getElem.1 ht
    have hc' : c < sm.length := by omega
    have hgc : good.getD c false = true := by rw [List.getD_eq_getElem?_getD, List.getElem?_eq_getElem hc]; exact he
    obtain ⟨⟨u, hu, h1, _⟩, _⟩ := (hgood c hc').1 hgc
    have hu' : u < li.length := by rw [← h.len]; exact hu
    have hm := (h.mem _).1 (by rw [(h.at hu').1]; exact (h.at hu').2)
    obtain ⟨a, ha, hr⟩ := (rch_rc hg hf).1 hm
    refine ⟨a, ha, _, hr, (key u hu').2 ?_⟩
    rw [h1]; exact hgc
  · rintro ⟨a, ha, v, hr, hc⟩
    have hv := h.idx ((h.mem v).2 ((rch_rc hg hf).2 ⟨a, ha, hr⟩))
    have := (key _ hv.1).1 (by rw [hv.2]; exact hc)
    rw [List.getD_eq_getElem?_getD] at this
    cases e : good[(part.getD (li.idxOf (v : Int)) 0).toNat]? with
    | none => rw [e] at this; simp at this
    | some b => rw [e] at this; simp at this; subst this; exact List.mem_of_getElem? e
end

/- RUNS -/
def fitB (mu no : List Nat) (k x : Nat) : Bool := decide (x &&& mu.getD k 0 = mu.getD k 0) && decide (x &&& no.getD k 0 = 0)
/-- a run of an automaton over a word -/
structure AccRun (st : List Int) (nx : List (List Int)) (mu no : List Nat) (fr : List (List Int)) (L r : Nat → Nat) : Prop where
  first : (r 0 : Int) ∈ st
  fits : ∀ i, fitB mu no (r i) (L i) = true
  step : ∀ i, (r (i + 1) : Int) ∈ nx.getD (r i) []
  fair : ∀ F ∈ fr, ∀ i, ∃ j, i ≤ j ∧ (r j : Int) ∈ F
def Acc (st : List Int) (nx : List (List Int)) (mu no : List Nat) (fr : List (List Int)) (L : Nat → Nat) : Prop := ∃ r, AccRun st nx mu no fr L r
section
variable {st : List Int} {nx : List (List Int)} {mu no : List Nat} {fr : List (List Int)} {s l : List Nat}
def prodRow (nx : List (List Int)) (mu no s l : List Nat) (i k : Nat) : List Int :=
  if fitB mu no k (lat s l i) = true then ((nx.getD k []).filter fun to => fitB mu no to.toNat (lat s l (nextL s l i))).map fun to => (nextL s l i : Int) * nx.length + to else []
def prodG (nx : List (List Int)) (mu no s l : List Nat) : Graph := (List.range (nx.length * (s.length + l.length))).map fun x => prodRow nx mu no s l (x / nx.length) (x % nx.length)
def fromP (st : List Int) (mu no s l : List Nat) : List Int := st.filter fun k => fitB mu no k.toNat (lat s l 0)
def idxW (s l : List Nat) (t : Nat) : Nat := if t < s.length then t else s.length + (t - s.length) % l.length
theorem idxW_lt (h0 : 0 < l.length) (t : Nat) : idxW s l t < s.length + l.length := by
  unfold idxW
  split
  · omega
  · have := Nat.mod_lt (t - s.length) h0; omega
theorem idxW_next (h0 : 0 < l.length) (t : Nat) : idxW s l (t + 1) = nextL s l (idxW s l t) := by
  unfold idxW nextL
  by_cases h : t < s.length
  · rw [if_pos h]
    by_cases h1 : t + 1 < s.length
    · rw [if_pos h1, if_neg (by omega)]
    · rw [if_neg h1, show t + 1 - s.length = 0 by omega, Nat.zero_mod]
      split <;> omega
  · rw [if_neg h, if_neg (by omega), show t + 1 - s.length = (t - s.length) + 1 by omega]
    generalize t - s.length = k
    have hlt := Nat.mod_lt k h0
    by_cases h1 : k % l.length + 1 = l.length
    · rw [if_pos (by omega)]
      have : (k + 1) % l.length = 0 := by
        rw [Nat.add_mod]
        by_cases hn1 : l.length = 1
        · rw [hn1]; omega
        · rw [Nat.mod_eq_of_lt (show 1 < l.length by omega), h1, Nat.mod_self]
      omega
    · rw [if_neg (by omega)]
      have : (k + 1) % l.length = k % l.length + 1 := by
        rw [Nat.add_mod, Nat.mod_eq_of_lt (show 1 < l.length by omega), Nat.mod_eq_of_lt (by omega)]
      omega
theorem idxW_lat (h0 : 0 < l.length) (t : Nat) : lat s l (idxW s l t) = lat s l t := by
  unfold lat idxW
  by_cases h : t < s.length
  · rw [if_pos h]
  · rw [if_neg h, if_neg (by omega), if_neg h, show s.length + (t - s.length) % l.length - s.length = (t - s.length) % l.length by omega, Nat.mod_mod]
theorem prodG_row {i k : Nat} (hi : i < s.length + l.length) (hk : k < nx.length) : (prodG nx mu no s l).getD (i * nx.length + k) [] = prodRow nx mu no s l i k := by
  have hlt : i * nx.length + k < nx.length * (s.length + l.length) := by
    have h1 : (i + 1) * nx.length ≤ (s.length + l.length) * nx.length := Nat.mul_le_mul_right _ hi
    have h2 := Nat.mul_comm nx.length (s.length + l.length)
    rw [Nat.add_mul] at h1
    omega
  unfold prodG
  rw [List.getD_eq_getElem?_getD, List.getElem?_eq_getElem (by simpa using hlt)]
  simp only [List.getElem_map, List.getElem_range, Option.getD_some]
  rw [show (i * nx.length + k) / nx.length = i by rw [Nat.add_comm, Nat.add_mul_div_right _ _ (by omega), Nat.div_eq_of_lt hk, Nat.zero_add], show (i * nx.length + k) % nx.length = k by rw [Nat.add_comm, Nat.add_mul_mod_self_right, Nat.mod_eq_of_lt hk]]
theorem prodG_edge {i k v : Nat} (hok : ∀ r ∈ nx, okL nx.length r) (hi : i < s.length + l.length) (hk : k < nx.length) : Eg (prodG nx mu no s l) (i * nx.length + k) v ↔
    fitB mu no k (lat s l i) = true ∧ ∃ to : Nat, to < nx.length ∧ (to : Int) ∈ nx.getD k [] ∧ fitB mu no to (lat s l (nextL s l i)) = true ∧ v = nextL s l i * nx.length + to := by
  unfold Eg
  rw [prodG_row hi hk]
  unfold prodRow
  split
  · rename_i hf
    rw [List.mem_map]
    constructor
    · rintro ⟨to, h1, h2⟩
      rw [List.mem_filter] at h1
      have hin : nx.getD k [] ∈ nx := by rw [List.getD_eq_getElem?_getD, List.getElem?_eq_getElem hk]; exact List.getElem_mem hk
      have hto := hok _ hin to h1.1
      refine ⟨hf, to.toNat, by omega, by rw [show ((to.toNat : Nat) : Int) = to by omega]; exact h1.1, h1.2, ?_⟩
      have hto0 := hto.1
      have : ((nextL s l i * nx.length + to.toNat : Nat) : Int) = (v : Int) := by
        rw [← h2]; push_cast; omega
      omega
    · rintro ⟨_, to, h1, h2, h3, rfl⟩
      exact ⟨(to : Int), List.mem_filter.2 ⟨h2, by simpa using h3⟩, by push_cast; rfl⟩
  · rename_i hf
    simp [hf]
theorem prodG_ok (hok : ∀ r ∈ nx, okL nx.length r) (h0 : 0 < l.length) : okG (prodG nx mu no s l) := by
  intro r hr x hx
  have hlen : (prodG nx mu no s l).length = nx.length * (s.length + l.length) := by simp [prodG]
  rw [hlen]
  unfold prodG at hr
  rw [List.mem_map] at hr
  obtain ⟨y, hy, rfl⟩ := hr
  rw [List.mem_range] at hy
  have hn0 : 0 < nx.length := Nat.pos_of_ne_zero fun e => by rw [e, Nat.zero_mul] at hy; omega
  have hi : y / nx.length < s.length + l.length := by rw [Nat.div_lt_iff_lt_mul hn0, Nat.mul_comm]; exact hy
  have hk := Nat.mod_lt y hn0
  unfold prodRow at hx
  split at hx
  · rw [List.mem_map] at hx
    obtain ⟨to, h1, rfl⟩ := hx
    rw [List.mem_filter] at h1
    have hin : nx.getD (y % nx.length) [] ∈ nx := by rw [List.getD_eq_getElem?_getD, List.getElem?_eq_getElem hk]; exact List.getElem_mem hk
    have hto := hok _ hin to h1.1
    have hnx : nextL s l (y / nx.length) < s.length + l.length := by unfold nextL; split <;> omega
    generalize nextL s l (y / nx.length) = j at *
    have h2 : (j + 1) * nx.length ≤ (s.length + l.length) * nx.length := Nat.mul_le_mul_right _ hnx
    rw [Nat.add_mul, Nat.mul_comm (s.length + l.length)] at h2
    have h3 : ((j * nx.length : Nat) : Int) = (j : Int) * nx.length := by push_cast; rfl
    omega
  · simp at hx
theorem acc_prod (hok : ∀ r ∈ nx, okL nx.length r) (hst : okL nx.length st) (h0 : 0 < l.length) : Acc st nx mu no fr (lat s l) ↔
    ∃ a : Nat, (a : Int) ∈ fromP st mu no s l ∧ ∃ R, R 0 = a ∧ Way8 (Eg (prodG nx mu no s l)) (fr.map fun F x => ((x % nx.length : Nat) : Int) ∈ F) R := by
  have hi0 : idxW s l 0 = 0 := by
    unfold idxW
    by_cases h : 0 < s.length
    · rw [if_pos h]
    · rw [if_neg h, Nat.zero_sub, Nat.zero_mod]; omega
  constructor
  · rintro ⟨r, h1, h2, h3, h4⟩
    have hlt : ∀ t, r t < nx.length := by
      intro t
      cases t with
      | zero => have := hst _ h1; omega
      | succ t =>
        have h5 := h3 t
        have hk : r t < nx.length := by
          apply Classical.byContradiction
          intro hn
          rw [List.getD_eq_getElem?_getD, List.getElem?_eq_none (by omega)] at h5
          simp at h5
        have hin : nx.getD (r t) [] ∈ nx := by rw [List.getD_eq_getElem?_getD, List.getElem?_eq_getElem hk]; exact List.getElem_mem hk
        have := hok _ hin _ h5; omega
    refine ⟨r 0, List.mem_filter.2 ⟨h1, by simpa using h2 0⟩, fun t => idxW s l t * nx.length + r t, by show idxW s l 0 * _ + _ = _; rw [hi0]; omega, fun t => ?_, fun P hP i => ?_⟩
    · rw [prodG_edge hok (idxW_lt h0 t) (hlt t)]
      refine ⟨by rw [idxW_lat h0]; exact h2 t, r (t + 1), hlt _, h3 t, by rw [← idxW_next h0, idxW_lat h0]; exact h2 (t + 1), by show idxW s l (t + 1) * _ + _ = _; rw [idxW_next h0]⟩
    · obtain ⟨F, hF, rfl⟩ := List.mem_map.1 hP
      obtain ⟨j, hj, hm⟩ := h4 F hF i
      refine ⟨j, hj, ?_⟩
      show (((idxW s l j * nx.length + r j) % nx.length : Nat) : Int) ∈ F
      rw [Nat.add_comm, Nat.add_mul_mod_self_right, Nat.mod_eq_of_lt (hlt j)]; exact hm
  · rintro ⟨a, ha, R, hR0, hE, hF⟩
    obtain ⟨ha1, ha2⟩ := List.mem_filter.1 ha
    have ha3 := hst _ ha1
    have key : ∀ t, R t / nx.length = idxW s l t ∧ R t % nx.length < nx.length := by
      intro t
      have hn : 0 < nx.length := by omega
      refine ⟨?_, Nat.mod_lt _ hn⟩
      induction t with
      | zero => rw [hR0, hi0, Nat.div_eq_of_lt (by omega)]
      | succ t ih =>
        have h1 := hE t
        have e : R t = idxW s l t * nx.length + R t % nx.length := by rw [← ih, Nat.mul_comm]; exact (Nat.div_add_mod _ _).symm
        rw [e, prodG_edge hok (idxW_lt h0 t) (Nat.mod_lt _ hn)] at h1
        obtain ⟨_, to, h2, _, _, h5⟩ := h1
        rw [h5, ← idxW_next h0, Nat.add_comm, Nat.add_mul_div_right _ _ hn, Nat.div_eq_of_lt h2, Nat.zero_add]
    have hn : 0 < nx.length := by omega
    have step : ∀ t, fitB mu no (R t % nx.length) (lat s l t) = true ∧ ((R (t + 1) % nx.length : Nat) : Int) ∈ nx.getD (R t % nx.length) [] := by
      intro t
      have h1 := hE t
      have e : R t = idxW s l t * nx.length + R t % nx.length := by rw [← (key t).1, Nat.mul_comm]; exact (Nat.div_add_mod _ _).symm
      rw [e, prodG_edge hok (idxW_lt h0 t) (Nat.mod_lt _ hn)] at h1
      obtain ⟨k1, to, h2, h3, _, h5⟩ := h1
      rw [idxW_lat h0] at k1
      refine ⟨k1, ?_⟩
      rw [h5, Nat.add_comm, Nat.add_mul_mod_self_right, Nat.mod_eq_of_lt h2]; exact h3
    refine ⟨fun t => R t % nx.length, ?_, fun i => (step i).1, fun i => (step i).2, fun F hFm i => ?_⟩
    · show ((R 0 % nx.length : Nat) : Int) ∈ st
      rw [hR0, Nat.mod_eq_of_lt (by omega)]; exact ha1
    · exact hF _ (List.mem_map.2 ⟨F, hFm, rfl⟩) i
theorem fromP_ok (hst : okL nx.length st) : ∀ x ∈ fromP st mu no s l, 0 ≤ x ∧ x < nx.length := fun x hx => hst x (List.mem_filter.1 hx).1
theorem fromP_okL (hst : okL nx.length st) (h0 : 0 < l.length) : okL (prodG nx mu no s l).length (fromP st mu no s l) := fun x hx => by
  have := fromP_ok hst x hx
  have hlen : (prodG nx mu no s l).length = nx.length * (s.length + l.length) := by simp [prodG]
  have := Nat.le_mul_of_pos_right nx.length (show 0 < s.length + l.length by omega)
  rw [hlen]; omega
/-- accepts, by the parts of the nodes that are come to -/
theorem acc_good {li part : List Int} {sm : Graph} {good : List Bool} (hok : ∀ r ∈ nx, okL nx.length r) (hst : okL nx.length st) (h0 : 0 < l.length)
    (h : RchdOK (prodG nx mu no s l) (fromP st mu no s l) li sm) (hp : PartsOK sm part) (hl : good.length = sm.length)
    (hgood : ∀ c, c < sm.length → (good.getD c false = true ↔ (∃ u, u < sm.length ∧ part.getD u 0 = c ∧ ∃ to ∈ sm.getD u [], part.getD to.toNat 0 = c) ∧ ∀ F ∈ fr, ∃ x, x < sm.length ∧ ((ndAt li x % nx.length : Nat) : Int) ∈ F ∧ part.getD x 0 = c)) :
    true ∈ good ↔ Acc st nx mu no fr (lat s l) := by
  have hg := prodG_ok (mu := mu) (no := no) (s := s) hok h0
  rw [acc_prod hok hst h0, good_core (Ps := fr.map fun F x => ((x % nx.length : Nat) : Int) ∈ F) h hg (fun x hx => (fromP_ok hst x hx).1) hp hl (fun c hc => by
    rw [hgood c hc]
    refine and_congr Iff.rfl ⟨fun k P hP => ?_, fun k F hF => k _ (List.mem_map.2 ⟨F, hF, rfl⟩)⟩
    obtain ⟨F, hF, rfl⟩ := List.mem_map.1 hP
    exact k F hF)]
  refine exists_congr fun a => and_congr_right fun ha => ?_
  have haN : a < (prodG nx mu no s l).length := by have := fromP_okL hst h0 _ ha; omega
  rw [fair_iff (N := (prodG nx mu no s l).length) (fun u v h => h.lt hg) haN]
end

/- LAWS OF RUNS -/
theorem Acc.congr {st : List Int} {nx : List (List Int)} {mu no : List Nat} {fr : List (List Int)} {L L' : Nat → Nat} (h : ∀ i, L i = L' i) : Acc st nx mu no fr L ↔ Acc st nx mu no fr L' := by
  rw [show L = L' from funext h]
theorem Acc.more {st : List Int} {nx : List (List Int)} {mu no : List Nat} {fr fr' : List (List Int)} {L : Nat → Nat} (h : ∀ F ∈ fr, F ∈ fr') : Acc st nx mu no fr' L → Acc st nx mu no fr L
  | ⟨r, a, b, c, d⟩ => ⟨r, a, b, c, fun F hF => d F (h F hF)⟩
theorem Acc.fewer {st st' : List Int} {nx : List (List Int)} {mu no : List Nat} {fr : List (List Int)} {L : Nat → Nat} (h : ∀ x ∈ st', x ∈ st) : Acc st' nx mu no fr L → Acc st nx mu no fr L
  | ⟨r, a, b, c, d⟩ => ⟨r, h _ a, b, c, d⟩
end Go.Proofs.Ytadbkppgaekmpaa
/-
  Automata of pairs: plain lists, no program in sight.
-/
set_option linter.unusedVariables false
set_option linter.unusedSimpArgs false
namespace Go.Proofs.Ytadbkppgaekmpaa

abbrev Pr2 := Int × Int
def addP (ps : List Pr2) (l : List Int) (p : Pr2) : List Pr2 × List Int :=
  (if p ∈ ps then ps else ps ++ [p], if (ps.idxOf p : Int) ∈ l then l else l ++ [(ps.idxOf p : Int)])
def putP : List Pr2 → List Pr2 → Bool → List Int → List Pr2 × Bool × List Int
  | [], ps, ok, l => (ps, ok, l)
  | p :: r, ps, ok, l => if ok = true then putP r (addP ps l p).1 (decide ((addP ps l p).1.length ≤ 2048)) (addP ps l p).2 else putP r ps ok l
def madeGo (next : Pr2 → List Pr2) : Nat → Nat → List Pr2 → Bool → List (List Int) → List Pr2 × Bool × List (List Int)
  | 0, _, ps, ok, nx => (ps, ok, nx)
  | f + 1, n, ps, ok, nx =>
    if ok = true ∧ n < ps.length then madeGo next f (n + 1) (putP (next (ps.getD n (0, 0))) ps ok []).1 (putP (next (ps.getD n (0, 0))) ps ok []).2.1 (nx ++ [(putP (next (ps.getD n (0, 0))) ps ok []).2.2]) else (ps, ok, nx)
def madeE (next : Pr2 → List Pr2) (start : List Pr2) : List Pr2 × Bool × List (List Int) := madeGo next 2049 0 (putP start [] true []).1 (putP start [] true []).2.1 []
def madeS (start : List Pr2) : List Int := (putP start [] true []).2.2

theorem idxOf_left {ps t : List Pr2} {p : Pr2} (h : p ∈ ps) : (ps ++ t).idxOf p = ps.idxOf p := by rw [List.idxOf_append, if_pos h]
theorem idxOf_new {ps : List Pr2} {p : Pr2} (h : p ∉ ps) : ps.idxOf p = ps.length := by
  have h1 := List.idxOf_le_length (a := p) (l := ps)
  have h2 := mt List.idxOf_lt_length_iff.1 h
  omega
theorem addP_law {ps : List Pr2} {l : List Int} {p : Pr2} (hn : ps.Nodup) : (addP ps l p).1.Nodup ∧ (∃ t, (addP ps l p).1 = ps ++ t ∧ ∀ x ∈ t, x = p) ∧ p ∈ (addP ps l p).1 ∧ ∀ i, i ∈ (addP ps l p).2 ↔ i ∈ l ∨ i = ((addP ps l p).1.idxOf p : Int) := by
  unfold addP
  by_cases h : p ∈ ps
  · rw [if_pos h]
    refine ⟨hn, ⟨[], by simp, fun x h => by cases h⟩, h, fun i => ?_⟩
    dsimp only
    split
    · rename_i h1; exact ⟨.inl, fun h => h.elim id (fun e => by rw [e]; exact h1)⟩
    · simp
  · rw [if_neg h]
    have e : (ps ++ [p]).idxOf p = ps.idxOf p := by rw [List.idxOf_append, if_neg h, idxOf_new h]; simp
    refine ⟨?_, ⟨[p], rfl, fun x h => List.mem_singleton.1 h⟩, by simp, fun i => ?_⟩
    · rw [List.nodup_append]
      refine ⟨hn, List.pairwise_singleton _ _, fun a ha b hb e' => ?_⟩
      rw [List.mem_singleton] at hb
      exact h (by rw [← hb, ← e']; exact ha)
    · dsimp only
      rw [e]
      split
      · rename_i h1; exact ⟨.inl, fun h => h.elim id (fun e => by rw [e]; exact h1)⟩
      · simp
theorem putP_false : ∀ (r ps : List Pr2) (l : List Int), putP r ps false l = (ps, false, l)
  | [], ps, l => rfl
  | p :: r, ps, l => by rw [putP, if_neg (by decide), putP_false r]
structure PutOk (r ps : List Pr2) (l : List Int) (q : List Pr2 × Bool × List Int) : Prop where
  nd : q.1.Nodup
  ext : ∃ t, q.1 = ps ++ t ∧ ∀ x ∈ t, x ∈ r
  mem : ∀ p ∈ r, p ∈ q.1
  num : ∀ i, i ∈ q.2.2 ↔ i ∈ l ∨ ∃ p ∈ r, i = (q.1.idxOf p : Int)
  le : ps.length ≤ 2048 → q.1.length ≤ 2048
theorem putP_law : ∀ (r ps : List Pr2) (l : List Int), ps.Nodup → (putP r ps true l).2.1 = true → PutOk r ps l (putP r ps true l)
  | [], ps, l, hn, _ => ⟨hn, ⟨[], by simp [putP], (fun x h => by cases h)⟩, (fun p h => by cases h), (fun i => by simp [putP]), id⟩
  | p :: r, ps, l, hn, h => by
    rw [putP, if_pos rfl] at h ⊢
    obtain ⟨a1, ⟨t, a2, a2'⟩, a3, a4⟩ := addP_law (l := l) (p := p) hn
    by_cases hle : (addP ps l p).1.length ≤ 2048
    case neg => rw [decide_eq_false hle, putP_false] at h; cases h
    rw [decide_eq_true hle] at h ⊢
    obtain ⟨b1, ⟨t', b2, b2'⟩, b3, b4, b5⟩ := putP_law r (addP ps l p).1 (addP ps l p).2 a1 h
    generalize putP r (addP ps l p).1 true (addP ps l p).2 = q at *
    have hin : p ∈ q.1 := by rw [b2]; exact List.mem_append_left _ a3
    refine ⟨b1, ⟨t ++ t', by rw [b2, a2]; simp, fun x hx => ?_⟩, fun x hx => ?_, fun i => ?_, fun _ => b5 hle⟩
    · rcases List.mem_append.1 hx with hx | hx
      · rw [a2' x hx]; simp
      · exact List.mem_cons_of_mem _ (b2' x hx)
    · rcases List.mem_cons.1 hx with rfl | hx
      · exact hin
      · exact b3 x hx
    · have e : q.1.idxOf p = (addP ps l p).1.idxOf p := by rw [b2, idxOf_left a3]
      rw [b4, a4, ← e]
      constructor
      · rintro ((h | h) | ⟨x, h1, h2⟩)
        · exact .inl h
        · exact .inr ⟨p, by simp, h⟩
        · exact .inr ⟨x, by simp [h1], h2⟩
      · rintro (h | ⟨x, h1, h2⟩)
        · exact .inl (.inl h)
        · rcases List.mem_cons.1 h1 with rfl | h1
          · exact .inl (.inr h2)
          · exact .inr ⟨x, h1, h2⟩
/-- numbers of pairs -/
structure MadeOk (next : Pr2 → List Pr2) (start ps : List Pr2) (st : List Int) (nx : List (List Int)) : Prop where
  nd : ps.Nodup
  st0 : ∀ p ∈ start, p ∈ ps
  st1 : ∀ i, i ∈ st ↔ ∃ p ∈ start, i = (ps.idxOf p : Int)
  le : ps.length ≤ 2048
  nxl : nx.length ≤ ps.length
  nx0 : ∀ n, n < nx.length → ∀ p ∈ next (ps.getD n (0, 0)), p ∈ ps
  nx1 : ∀ n, n < nx.length → ∀ i, i ∈ nx.getD n [] ↔ ∃ p ∈ next (ps.getD n (0, 0)), i = (ps.idxOf p : Int)
theorem getDP_left {α : Type} {l t : List α} {j : Nat} {d : α} (h : j < l.length) : (l ++ t).getD j d = l.getD j d := by rw [List.getD_eq_getElem?_getD, List.getD_eq_getElem?_getD, List.getElem?_append_left h]
theorem getDP_last {α : Type} {l : List α} {x d : α} : (l ++ [x]).getD l.length d = x := by rw [List.getD_eq_getElem?_getD, List.getElem?_append_right (Nat.le_refl _)]; simp
theorem madeGo_law {next : Pr2 → List Pr2} {start : List Pr2} {st : List Int} : ∀ (f n : Nat) (ps : List Pr2) (ok : Bool) (nx : List (List Int)), f + n = 2049 → nx.length = n → (ok = true → MadeOk next start ps st nx) → (madeGo next f n ps ok nx).2.1 = true →
    MadeOk next start (madeGo next f n ps ok nx).1 st (madeGo next f n ps ok nx).2.2 ∧ (madeGo next f n ps ok nx).2.2.length = (madeGo next f n ps ok nx).1.length
  | 0, n, ps, ok, nx, hf, hn, hM, h => by have h1 := hM h; have := h1.le; have := h1.nxl; omega
  | f + 1, n, ps, ok, nx, hf, hn, hM, h => by
    rw [madeGo] at h ⊢
    by_cases hc : ok = true ∧ n < ps.length
    case neg =>
      rw [if_neg hc] at h ⊢
      have h1 := hM h
      have := h1.nxl
      have : ¬ n < ps.length := fun k => hc ⟨h, k⟩
      exact ⟨h1, by dsimp only; omega⟩
    rw [if_pos hc] at h ⊢
    obtain ⟨rfl, hlt⟩ := hc
    have h1 := hM rfl
    refine madeGo_law f (n + 1) _ _ _ (by omega) (by simp [hn]) (fun hok => ?_) h
    obtain ⟨b1, ⟨t, b2, b2'⟩, b3, b4, b5⟩ := putP_law _ ps [] h1.nd hok
    generalize putP (next (ps.getD n (0, 0))) ps true [] = q at *
    have hg : ∀ j, j < ps.length → q.1.getD j (0, 0) = ps.getD j (0, 0) := fun j hj => by rw [b2, getDP_left hj]
    refine ⟨b1, fun p hp => ?_, fun i => ?_, b5 h1.le, ?_, fun m hm p hp => ?_, fun m hm i => ?_⟩
    · rw [b2]; exact List.mem_append_left _ (h1.st0 p hp)
    · rw [h1.st1]
      constructor <;> rintro ⟨p, q1, q2⟩ <;> refine ⟨p, q1, ?_⟩
      · rw [b2, idxOf_left (h1.st0 p q1)]; exact q2
      · rw [b2, idxOf_left (h1.st0 p q1)] at q2; exact q2
    · have := h1.nxl; rw [b2]; simp; omega
    · simp at hm
      rw [hg m (by omega)] at hp
      by_cases e : m < nx.length
      · rw [b2]; exact List.mem_append_left _ (h1.nx0 m e p hp)
      · obtain rfl : m = n := by omega
        exact b3 p hp
    · simp at hm
      rw [hg m (by omega)]
      by_cases e : m < nx.length
      · rw [getDP_left e, h1.nx1 m e]
        constructor <;> rintro ⟨p, q1, q2⟩ <;> refine ⟨p, q1, ?_⟩
        · rw [b2, idxOf_left (h1.nx0 m e p q1)]; exact q2
        · rw [b2, idxOf_left (h1.nx0 m e p q1)] at q2; exact q2
      · obtain rfl : m = nx.length := by omega
        obtain rfl : nx.length = n := hn
        rw [getDP_last, b4]; simp
theorem made_law {next : Pr2 → List Pr2} {start : List Pr2} (h : (madeE next start).2.1 = true) :
    MadeOk next start (madeE next start).1 (madeS start) (madeE next start).2.2 ∧ (madeE next start).2.2.length = (madeE next start).1.length := by
  refine madeGo_law 2049 0 _ _ [] rfl rfl (fun hok => ?_) h
  obtain ⟨b1, ⟨t, b2, b2'⟩, b3, b4, b5⟩ := putP_law start [] [] List.nodup_nil hok
  exact ⟨b1, b3, fun i => by rw [show madeS start = (putP start [] true []).2.2 from rfl, b4]; simp, b5 (by simp), Nat.zero_le _, fun n h => absurd h (by simp), fun n h => absurd h (by simp)⟩
/-- a pair of the list satisfies what the first ones do and the next ones keep -/
theorem putP_all {Q : Pr2 → Prop} : ∀ (r ps : List Pr2) (ok : Bool) (l : List Int), (∀ p ∈ r, Q p) → (∀ p ∈ ps, Q p) → ∀ p ∈ (putP r ps ok l).1, Q p
  | [], ps, ok, l, _, hp => hp
  | p :: r, ps, ok, l, hr, hp => by
    rw [putP]
    split
    · refine putP_all r _ _ _ (fun x h => hr x (by simp [h])) (fun x hx => ?_)
      unfold addP at hx
      dsimp only at hx
      split at hx
      · exact hp x hx
      · rcases List.mem_append.1 hx with hx | hx
        · exact hp x hx
        · rw [List.mem_singleton] at hx; subst hx; exact hr _ (by simp)
    · exact putP_all r _ _ _ (fun x h => hr x (by simp [h])) hp
theorem getDP_mem {ps : List Pr2} {n : Nat} (h : n < ps.length) : ps.getD n (0, 0) ∈ ps := by rw [List.getD_eq_getElem?_getD, List.getElem?_eq_getElem h]; exact List.getElem_mem _
theorem madeGo_all {Q : Pr2 → Prop} {next : Pr2 → List Pr2} (hq : ∀ p, Q p → ∀ x ∈ next p, Q x) : ∀ (f n : Nat) (ps : List Pr2) (ok : Bool) (nx : List (List Int)), (∀ p ∈ ps, Q p) → ∀ p ∈ (madeGo next f n ps ok nx).1, Q p
  | 0, n, ps, ok, nx, hp => hp
  | f + 1, n, ps, ok, nx, hp => by
    rw [madeGo]
    split
    · rename_i hc
      exact madeGo_all hq f _ _ _ _ (putP_all _ _ _ _ (hq _ (hp _ (getDP_mem hc.2))) hp)
    · exact hp
theorem made_all {Q : Pr2 → Prop} {next : Pr2 → List Pr2} {start : List Pr2} (hq : ∀ p, Q p → ∀ x ∈ next p, Q x) (hs : ∀ p ∈ start, Q p) : ∀ p ∈ (madeE next start).1, Q p :=
  madeGo_all hq _ _ _ _ _ (putP_all _ _ _ _ hs (fun p h => by cases h))
theorem idxOf_at {ps : List Pr2} {p : Pr2} (h : p ∈ ps) : ps.idxOf p < ps.length ∧ ps.getD (ps.idxOf p) (0, 0) = p := by
  have hl := List.idxOf_lt_length_iff.2 h
  exact ⟨hl, by rw [List.getD_eq_getElem?_getD, List.getElem?_eq_getElem hl, Option.getD_some, List.getElem_idxOf hl]⟩
theorem idxOf_get {ps : List Pr2} (hn : ps.Nodup) {n : Nat} (h : n < ps.length) : ps.idxOf (ps.getD n (0, 0)) = n := by
  rw [List.getD_eq_getElem?_getD, List.getElem?_eq_getElem h, Option.getD_some]
  exact hn.idxOf_getElem n h

/- BITS -/
theorem and_or_self {x a b : Nat} : x &&& (a ||| b) = a ||| b ↔ x &&& a = a ∧ x &&& b = b := by
  constructor
  · intro h
    constructor
    · apply Nat.eq_of_testBit_eq
      intro i
      have := congrArg (fun n => n.testBit i) h
      simp only [Nat.testBit_and, Nat.testBit_or] at this ⊢
      cases ha : a.testBit i <;> cases hb : b.testBit i <;> cases hx : x.testBit i <;> simp_all
    · apply Nat.eq_of_testBit_eq
      intro i
      have := congrArg (fun n => n.testBit i) h
      simp only [Nat.testBit_and, Nat.testBit_or] at this ⊢
      cases ha : a.testBit i <;> cases hb : b.testBit i <;> cases hx : x.testBit i <;> simp_all
  · rintro ⟨h1, h2⟩
    rw [Nat.and_or_distrib_left, h1, h2]
theorem and_or_zero {x a b : Nat} : x &&& (a ||| b) = 0 ↔ x &&& a = 0 ∧ x &&& b = 0 := by
  rw [Nat.and_or_distrib_left]
  constructor
  · intro h
    have h1 : ∀ i, (x &&& a).testBit i = false ∧ (x &&& b).testBit i = false := fun i => by
      have := congrArg (fun n => n.testBit i) h
      simp only [Nat.testBit_or, Nat.zero_testBit, Bool.or_eq_false_iff] at this
      exact this
    exact ⟨Nat.eq_of_testBit_eq fun i => by rw [(h1 i).1, Nat.zero_testBit], Nat.eq_of_testBit_eq fun i => by rw [(h1 i).2, Nat.zero_testBit]⟩
  · rintro ⟨h1, h2⟩
    rw [h1, h2]; rfl
theorem and_apart {x a b : Nat} (h1 : x &&& a = a) (h2 : x &&& b = 0) : a &&& b = 0 := by
  rw [← h1, Nat.and_assoc, Nat.and_comm a b, ← Nat.and_assoc, h2, Nat.zero_and]
/- BOTH -/
abbrev LAuto2 := List Int × List (List Int) × List Nat × List Nat × List (List Int)
def crossP (mu no mu' no' : List Nat) (l k : List Int) : List Pr2 :=
  l.flatMap fun x => (k.filter fun y => decide (mu.getD x.toNat 0 &&& no'.getD y.toNat 0 = 0) && decide (no.getD x.toNat 0 &&& mu'.getD y.toNat 0 = 0)).map fun y => (x, y)
theorem cross_mem {mu no mu' no' : List Nat} {l k : List Int} {p : Pr2} : p ∈ crossP mu no mu' no' l k ↔ p.1 ∈ l ∧ p.2 ∈ k ∧ mu.getD p.1.toNat 0 &&& no'.getD p.2.toNat 0 = 0 ∧ no.getD p.1.toNat 0 &&& mu'.getD p.2.toNat 0 = 0 := by
  unfold crossP
  rw [List.mem_flatMap]
  constructor
  · rintro ⟨x, hx, h⟩
    rw [List.mem_map] at h
    obtain ⟨y, hy, rfl⟩ := h
    obtain ⟨h1, h2⟩ := List.mem_filter.1 hy
    simp only [Bool.and_eq_true, decide_eq_true_eq] at h2
    exact ⟨hx, h1, h2⟩
  · rintro ⟨h1, h2, h3⟩
    refine ⟨p.1, h1, List.mem_map.2 ⟨p.2, List.mem_filter.2 ⟨h2, by simpa using h3⟩, rfl⟩⟩
/-- the pairs whose state is in a set -/
def setP (ps : List Pr2) (of : Pr2 → Int) (F : List Int) : List Int := ((List.range ps.length).filter fun i => decide (of (ps.getD i (0, 0)) ∈ F)).map fun i : Nat => (i : Int)
theorem setP_mem {ps : List Pr2} {of : Pr2 → Int} {F : List Int} {i : Nat} : (i : Int) ∈ setP ps of F ↔ i < ps.length ∧ of (ps.getD i (0, 0)) ∈ F := by
  unfold setP
  rw [List.mem_map]
  constructor
  · rintro ⟨j, hj, e⟩
    obtain rfl : j = i := by omega
    obtain ⟨h1, h2⟩ := List.mem_filter.1 hj
    exact ⟨List.mem_range.1 h1, by simpa using h2⟩
  · rintro ⟨h1, h2⟩
    exact ⟨i, List.mem_filter.2 ⟨List.mem_range.2 h1, by simpa using h2⟩, rfl⟩
def bothNext (A B : LAuto2) (p : Pr2) : List Pr2 := crossP A.2.2.1 A.2.2.2.1 B.2.2.1 B.2.2.2.1 (A.2.1.getD p.1.toNat []) (B.2.1.getD p.2.toNat [])
def bothStart (A B : LAuto2) : List Pr2 := crossP A.2.2.1 A.2.2.2.1 B.2.2.1 B.2.2.2.1 A.1 B.1
def bothPs (A B : LAuto2) : List Pr2 := (madeE (bothNext A B) (bothStart A B)).1
def bothL (A B : LAuto2) : LAuto2 :=
  (madeS (bothStart A B), (madeE (bothNext A B) (bothStart A B)).2.2, (bothPs A B).map (fun p => A.2.2.1.getD p.1.toNat 0 ||| B.2.2.1.getD p.2.toNat 0), (bothPs A B).map (fun p => A.2.2.2.1.getD p.1.toNat 0 ||| B.2.2.2.1.getD p.2.toNat 0),
    A.2.2.2.2.map (setP (bothPs A B) Prod.fst) ++ B.2.2.2.2.map (setP (bothPs A B) Prod.snd))
theorem getD_map {ps : List Pr2} {f : Pr2 → Nat} {n : Nat} (h : n < ps.length) : (ps.map f).getD n 0 = f (ps.getD n (0, 0)) := by
  rw [List.getD_eq_getElem?_getD, List.getElem?_map, List.getD_eq_getElem?_getD, List.getElem?_eq_getElem h]; rfl
theorem fit_both {A B : LAuto2} {r x : Nat} (h : r < (bothPs A B).length) : fitB (bothL A B).2.2.1 (bothL A B).2.2.2.1 r x = true ↔
    fitB A.2.2.1 A.2.2.2.1 ((bothPs A B).getD r (0, 0)).1.toNat x = true ∧ fitB B.2.2.1 B.2.2.2.1 ((bothPs A B).getD r (0, 0)).2.toNat x = true := by
  unfold bothL fitB
  dsimp only
  rw [getD_map h, getD_map h]
  simp only [Bool.and_eq_true, decide_eq_true_eq]
  rw [and_or_self, and_or_zero]
  constructor
  · rintro ⟨⟨a, b⟩, c, d⟩; exact ⟨⟨a, c⟩, b, d⟩
  · rintro ⟨⟨a, c⟩, b, d⟩; exact ⟨⟨a, b⟩, c, d⟩
theorem cross_fit {mu no mu' no' : List Nat} {l k : List Int} {p : Pr2} {x : Nat} (h1 : p.1 ∈ l) (h2 : p.2 ∈ k) (f1 : fitB mu no p.1.toNat x = true) (f2 : fitB mu' no' p.2.toNat x = true) : p ∈ crossP mu no mu' no' l k := by
  unfold fitB at f1 f2
  simp only [Bool.and_eq_true, decide_eq_true_eq] at f1 f2
  rw [cross_mem]
  refine ⟨h1, h2, and_apart f1.1 f2.2, ?_⟩
  rw [Nat.and_comm]
  exact and_apart f2.1 f1.2
def AccA (A : LAuto2) (L : Nat → Nat) : Prop := Acc A.1 A.2.1 A.2.2.1 A.2.2.2.1 A.2.2.2.2 L
/-- states are numbers -/
def PosA (A : LAuto2) : Prop := (∀ x ∈ A.1, 0 ≤ x) ∧ ∀ k, ∀ x ∈ A.2.1.getD k [], 0 ≤ x
theorem both_law {A B : LAuto2} {L : Nat → Nat} (hA : PosA A) (hB : PosA B) (h : (madeE (bothNext A B) (bothStart A B)).2.1 = true) : AccA (bothL A B) L ↔ AccA A L ∧ AccA B L := by
  obtain ⟨hM, hl⟩ := made_law h
  change MadeOk _ _ (bothPs A B) _ _ at hM
  change _ = (bothPs A B).length at hl
  have hst : ∀ i, i ∈ (bothL A B).1 ↔ ∃ p ∈ bothStart A B, i = ((bothPs A B).idxOf p : Int) := hM.st1
  have hnx : ∀ n, n < (bothPs A B).length → ∀ i, i ∈ (bothL A B).2.1.getD n [] ↔ ∃ p ∈ bothNext A B ((bothPs A B).getD n (0, 0)), i = ((bothPs A B).idxOf p : Int) := fun n hn => hM.nx1 n (by rw [hl]; exact hn)
  constructor
  · rintro ⟨r, hr⟩
    have hin : ∀ i, r i < (bothPs A B).length := by
      intro i
      cases i with
      | zero =>
        obtain ⟨p, hp, e⟩ := (hst _).1 hr.first
        have := (idxOf_at (hM.st0 p hp)).1
        omega
      | succ i =>
        have hs := hr.step i
        by_cases hlt : r i < (bothPs A B).length
        · obtain ⟨p, hp, e⟩ := (hnx _ hlt _).1 hs
          have := (idxOf_at (hM.nx0 _ (by rw [hl]; exact hlt) p hp)).1
          omega
        · exfalso
          have e : (bothL A B).2.1.getD (r i) [] = [] := by
            rw [List.getD_eq_getElem?_getD, List.getElem?_eq_none (by show (madeE (bothNext A B) (bothStart A B)).2.2.length ≤ _; rw [hl]; omega)]; rfl
          rw [e] at hs; cases hs
    have hnx' : ∀ i, (bothPs A B).getD (r (i + 1)) (0, 0) ∈ bothNext A B ((bothPs A B).getD (r i) (0, 0)) := fun i => by
      obtain ⟨p, hp, e⟩ := (hnx _ (hin i) _).1 (hr.step i)
      have e : r (i + 1) = (bothPs A B).idxOf p := by omega
      rw [e, (idxOf_at (hM.nx0 _ (by rw [hl]; exact hin i) p hp)).2]; exact hp
    have hst' : (bothPs A B).getD (r 0) (0, 0) ∈ bothStart A B := by
      obtain ⟨p, hp, e⟩ := (hst _).1 hr.first
      have e : r 0 = (bothPs A B).idxOf p := by omega
      rw [e, (idxOf_at (hM.st0 p hp)).2]; exact hp
    have hq : ∀ i, 0 ≤ ((bothPs A B).getD (r i) (0, 0)).1 ∧ 0 ≤ ((bothPs A B).getD (r i) (0, 0)).2 := by
      intro i
      cases i with
      | zero =>
        obtain ⟨h1, h2, _⟩ := cross_mem.1 hst'
        exact ⟨hA.1 _ h1, hB.1 _ h2⟩
      | succ i =>
        obtain ⟨h1, h2, _⟩ := cross_mem.1 (hnx' i)
        exact ⟨hA.2 _ _ h1, hB.2 _ _ h2⟩
    have q1 : ∀ i, ((((bothPs A B).getD (r i) (0, 0)).1.toNat : Nat) : Int) = ((bothPs A B).getD (r i) (0, 0)).1 := fun i => by have := (hq i).1; omega
    have q2 : ∀ i, ((((bothPs A B).getD (r i) (0, 0)).2.toNat : Nat) : Int) = ((bothPs A B).getD (r i) (0, 0)).2 := fun i => by have := (hq i).2; omega
    refine ⟨⟨fun i => ((bothPs A B).getD (r i) (0, 0)).1.toNat, ?_, fun i => ((fit_both (hin i)).1 (hr.fits i)).1, fun i => ?_, fun F hF i => ?_⟩, ⟨fun i => ((bothPs A B).getD (r i) (0, 0)).2.toNat, ?_, fun i => ((fit_both (hin i)).1 (hr.fits i)).2, fun i => ?_, fun F hF i => ?_⟩⟩
    · rw [q1]; exact (cross_mem.1 hst').1
    · rw [q1]; exact (cross_mem.1 (hnx' i)).1
    · obtain ⟨j, hj, hm⟩ := hr.fair (setP (bothPs A B) Prod.fst F) (List.mem_append_left _ (List.mem_map.2 ⟨F, hF, rfl⟩)) i
      exact ⟨j, hj, by rw [q1]; exact (setP_mem.1 hm).2⟩
    · rw [q2]; exact (cross_mem.1 hst').2.1
    · rw [q2]; exact (cross_mem.1 (hnx' i)).2.1
    · obtain ⟨j, hj, hm⟩ := hr.fair (setP (bothPs A B) Prod.snd F) (List.mem_append_right _ (List.mem_map.2 ⟨F, hF, rfl⟩)) i
      exact ⟨j, hj, by rw [q2]; exact (setP_mem.1 hm).2⟩
  · rintro ⟨⟨ra, ha⟩, ⟨rb, hb⟩⟩
    have hps : ∀ i, (((ra i : Nat) : Int), ((rb i : Nat) : Int)) ∈ bothPs A B ∧ (((ra (i + 1) : Nat) : Int), ((rb (i + 1) : Nat) : Int)) ∈ bothNext A B (((ra i : Nat) : Int), ((rb i : Nat) : Int)) := by
      have hnext : ∀ i, (((ra (i + 1) : Nat) : Int), ((rb (i + 1) : Nat) : Int)) ∈ bothNext A B (((ra i : Nat) : Int), ((rb i : Nat) : Int)) := fun i => by
        unfold bothNext
        refine cross_fit (x := L (i + 1)) ?_ ?_ ?_ ?_
        · simpa using ha.step i
        · simpa using hb.step i
        · simpa using ha.fits (i + 1)
        · simpa using hb.fits (i + 1)
      intro i
      refine ⟨?_, hnext i⟩
      induction i with
      | zero =>
        refine hM.st0 _ ?_
        unfold bothStart
        refine cross_fit (x := L 0) ?_ ?_ ?_ ?_
        · exact ha.first
        · exact hb.first
        · simpa using ha.fits 0
        · simpa using hb.fits 0
      | succ i ih =>
        obtain ⟨h1, h2⟩ := idxOf_at ih
        exact hM.nx0 _ (by rw [hl]; exact h1) _ (by rw [h2]; exact hnext i)
    have hix := fun i => idxOf_at (hps i).1
    refine ⟨fun i => (bothPs A B).idxOf (((ra i : Nat) : Int), ((rb i : Nat) : Int)), ?_, fun i => ?_, fun i => ?_, fun F hF i => ?_⟩
    · refine (hst _).2 ⟨_, ?_, rfl⟩
      unfold bothStart
      refine cross_fit (x := L 0) ha.first hb.first ?_ ?_
      · simpa using ha.fits 0
      · simpa using hb.fits 0
    · refine (fit_both (hix i).1).2 ?_
      rw [(hix i).2]
      exact ⟨by simpa using ha.fits i, by simpa using hb.fits i⟩
    · refine (hnx _ (hix i).1 _).2 ⟨_, ?_, rfl⟩
      rw [(hix i).2]
      exact (hps i).2
    · rcases List.mem_append.1 hF with hF | hF
      · obtain ⟨F, hF', rfl⟩ := List.mem_map.1 hF
        obtain ⟨j, hj, hm⟩ := ha.fair F hF' i
        exact ⟨j, hj, setP_mem.2 ⟨(hix j).1, by rw [(hix j).2]; exact hm⟩⟩
      · obtain ⟨F, hF', rfl⟩ := List.mem_map.1 hF
        obtain ⟨j, hj, hm⟩ := hb.fair F hF' i
        exact ⟨j, hj, setP_mem.2 ⟨(hix j).1, by rw [(hix j).2]; exact hm⟩⟩
end Go.Proofs.Ytadbkppgaekmpaa
/-
  Results that lie in a variable; slices that are read, later on; slices cut with their capacity. Over any program.
-/
set_option linter.unusedVariables false
set_option linter.unusedSimpArgs false
namespace Go.Proofs.Ytadbkppgaekmpaa
open Go.RowKit

theorem results_cell {fn : Func} {a : Nat} {t : TypeId} (h : fn.results = #[.cell a t]) (tmps : Array Value) (P : Program) (w : World) {p : Addr} {v : Value} (ha : tmps.getD a undef = .pointer (some p)) (hl : (loadVar t p).run P w = .ok v w) :
    (results fn tmps).run P w = .ok v w := by
  simp only [Array.getD_eq_getD_getElem?] at ha
  simp [results, h, ha, asAddr, hl]
theorem EX.retC {P : Program} {n : Nat} {σ : Sg} {w : World} {fn : Func} {a b : Nat} {t e : TypeId} {cells : List Value} {k : Nat} {R : Value → World → Prop} (hr : fn.results = #[.cell a t]) (ha : fnd σ a = some (.pointer (some ⟨b, 0, none⟩))) [hc : IsC P t k true] (hb : Blk w b e cells) (hk : lenL cells = k) (h : R (.agg cells.toArray) w) :
    EX (bodyPost P fn fun e w' => ∃ v, e = .returned v ∧ R v w') .ret n σ w := by
  unfold EX; intro ac hac
  refine bodyPost_ret (results_cell hr _ _ _ (hac.slot a _ ha) (v := .agg cells.toArray) ?_) hac.defers ⟨_, rfl, h⟩
  rw [lenL_eq] at hk
  have hld := run_loadCells_list (P := P) w ⟨b, 0, none⟩ cells (fun j u hu => by rw [WideShapes.add_plain, Nat.zero_add]; exact hb.cell hu)
  obtain ⟨i, dd, h1, h2, h3, h4⟩ := hc.ok
  have hagg : (isAgg t).run P w = .ok true w := by
    unfold isAgg
    rw [Sem.run_bind, run_underlying h3 w, ← h4]
    cases dd <;> rfl
  rw [hk] at hld
  simp [loadVar, hagg, sizeOf, typeInfo, h1, h2, hld]
theorem results_cell2 {fn : Func} {a u : Nat} {t : TypeId} (h : fn.results = #[.cell a t, .tmp u]) (tmps : Array Value) (P : Program) (w : World) {p : Addr} {v : Value} (ha : tmps.getD a undef = .pointer (some p)) (hl : (loadVar t p).run P w = .ok v w) :
    (results fn tmps).run P w = .ok (.tuple ⟨[v, tmps.getD u undef]⟩) w := by
  simp only [Array.getD_eq_getD_getElem?] at ha ⊢
  simp [results, h, ha, asAddr, hl]
theorem EX.retC2 {P : Program} {n : Nat} {σ : Sg} {w : World} {fn : Func} {a b u : Nat} {t e : TypeId} {cells : List Value} {k : Nat} {x : Value} {R : Value → World → Prop} (hr : fn.results = #[.cell a t, .tmp u]) (ha : fnd σ a = some (.pointer (some ⟨b, 0, none⟩))) (hu : fnd σ u = some x) [hc : IsC P t k true] (hb : Blk w b e cells) (hk : lenL cells = k) (h : R (.tuple ⟨[.agg cells.toArray, x]⟩) w) :
    EX (bodyPost P fn fun e w' => ∃ v, e = .returned v ∧ R v w') .ret n σ w := by
  unfold EX; intro ac hac
  refine bodyPost_ret (results_cell2 hr _ _ _ (hac.slot a _ ha) (v := .agg cells.toArray) ?_) hac.defers ⟨_, by rw [hac.slot u x hu], h⟩
  rw [lenL_eq] at hk
  have hld := run_loadCells_list (P := P) w ⟨b, 0, none⟩ cells (fun j u hu => by rw [WideShapes.add_plain, Nat.zero_add]; exact hb.cell hu)
  obtain ⟨i, dd, h1, h2, h3, h4⟩ := hc.ok
  have hagg : (isAgg t).run P w = .ok true w := by
    unfold isAgg
    rw [Sem.run_bind, run_underlying h3 w, ← h4]
    cases dd <;> rfl
  rw [hk] at hld
  simp [loadVar, hagg, sizeOf, typeInfo, h1, h2, hld]
theorem Sl.zero {α : Type} [Rep α] (w : World) (F : Nat → Prop) : Sl w F none 0 ([] : List α) := ⟨by simp, by simp [maxLen], fun _ => rfl, fun i hi => absurd hi (by simp)⟩
theorem Sl.up0 {α : Type} [Rep α] {w w' : World} {F : Nat → Prop} {ao : Option Addr} {cap : Nat} {xs : List α} (h : Sl w F ao cap xs) (hE : Ext w w') (hF : ∀ b, F b → b < w.heap.size) : Sl w' F ao cap xs := h.mono (fun b hb => hE.block b (hF b hb)) fun _ h => h
section
variable {P : Program} {Q : Exit → Act → World → Prop} {n : Nat} {σ : Sg} {w : World} {L rest : List Oper} {d : Nat} {ty : TypeId} {pos : String} {af : Array Edge} {g : Option (Nat × Bool)} {t e : TypeId} {α : Type} [Rep α] {F : Nat → Prop}
theorem run_cut3 {ao : Option Addr} {len cap k : Nat} {k1 k2 : IntKind} (w : World) [hs : IsS P t e] [ht : IsT P e α] (h : k ≤ cap) :
    (Instr.sliceAt t (.slice ao len cap) none (some (.int k1 (k : Int))) (some (.int k2 (k : Int)))).run P w = .ok (.slice ao k k) w := by
  have a2 : (k : Int) ≤ (cap : Int) := by omega
  have a3 : (0 : Int) ≤ (k : Int) := by omega
  simp only [Instr.sliceAt, Sem.run_bind, run_underlying hs.ok, Result.andThen_ok, Instr.slice, Instr.sliceBounds]
  simp [run_sizeOf (α := α), Instr.sliceBound, asIntOf, h, Addr.add_zero']
/-- x[:k:k] -/
theorem WL.cut3O {x y z : Operand} {v : Value} {xs : List α} {B : Nat} {k1 k2 : IntKind} {k : Nat} (hg : gd L σ ⟨some d, .slice t x none (some y) (some z), ty, pos, af, g⟩ = some true) (hd : Nat.ble (d + 1) n = true)
    (hx : ev σ x = some v) (hy : ev σ y = some (.int k1 (k : Int))) (hz : ev σ z = some (.int k2 (k : Int))) [hs : IsS P t e] [ht : IsT P e α] (hown : Own w B e F v xs) (hk : k ≤ xs.length)
    (h : ∀ v', Own w B e F v' (xs.take k) → v'.ownBlock = v.ownBlock → WL P L Q rest n ((d, v') :: σ) w) : WL P L Q (⟨some d, .slice t x none (some y) (some z), ty, pos, af, g⟩ :: rest) n σ w := by
  obtain ⟨ao, cap, rfl⟩ := hown.val
  have hle := hown.le rfl
  refine WL.run (v := .slice ao k k) hg hd (fun a ha => ?_) (h _ ?_ (by cases ao <;> rfl))
  · have := run_cut3 (P := P) (t := t) (e := e) (α := α) (ao := ao) (len := xs.length) (cap := cap) (k := k) (k1 := k1) (k2 := k2) w (by omega)
    simp [execOp, ha.ev hx, ha.ev hy, ha.ev hz, this]
  · rcases hown with ⟨h1, rfl⟩ | ⟨g', off, cp, cur, h1, ho⟩
    · obtain ⟨rfl, _, rfl⟩ := Value.slice.inj h1
      have : k = 0 := by simpa using hk
      subst this
      exact .inl ⟨rfl, by simp⟩
    · obtain ⟨rfl, _, rfl⟩ := Value.slice.inj h1
      have hlen : (xs.take k).length = k := by rw [List.length_take]; omega
      have hmul : k * sz α ≤ cap * sz α := Nat.mul_le_mul_right _ (by omega)
      refine .inr ⟨g', off, k, cur, by rw [hlen], ⟨ho.blk, ho.ge, ho.nF, by omega, by have := ho.mx; omega, by have := ho.fit; omega, ?_⟩⟩
      have := ho.el.take k hk
      rw [List.take_take, Nat.min_eq_left (Nat.mul_le_mul_right _ hk)] at this
      rw [hlen]; exact this
end
end Go.Proofs.Ytadbkppgaekmpaa
/-
  Maps in drawn regions that only read.
-/
set_option linter.unusedVariables false
set_option linter.unusedSimpArgs false
namespace Go.Proofs.Ytadbkppgaekmpaa
open Go.RowKit

theorem nodup_get {α : Type} {l : List α} (h : l.Nodup) {i j : Nat} (hi : i < l.length) (hj : j < l.length) (e : l[i] = l[j]) : i = j := by
  have h := List.pairwise_iff_getElem.1 h
  rcases Nat.lt_trichotomy i j with hlt | he | hlt
  · exact absurd e (h i j hi hj hlt)
  · exact he
  · exact absurd e.symm (h j i hj hi hlt)
section
variable {P : Program} {Q : Exit → Act → World → Prop} {n : Nat} {σ : Sg} {w : World} {L rest : List Oper} {d : Nat} {ty : TypeId} {pos : String} {af : Array Edge} {g : Option (Nat × Bool)} {t k e : TypeId} {b : Nat} {ks : List Value} {x y z : Operand} {v : Value}
theorem QL.numNo (hg : gd L σ ⟨some d, .lookup t x y true, ty, pos, af, g⟩ = some true) (hd : Nat.ble (d + 1) n = true) (hx : ev σ x = some (.map (some b))) (hy : ev σ y = some v) [ht : IsM P t k e] [hk : IsKy P k] [hz : IsZ0 P e]
    (h : NumM P k w b ks) (hv : KeyV P k v) (hn : v ∉ ks) (hr : QL P L w Q rest n ((d, .tuple ⟨[.int .i64 0, .bool false]⟩) :: σ)) : QL P L w Q (⟨some d, .lookup t x y true, ty, pos, af, g⟩ :: rest) n σ := by
  refine QL.run hg hd (fun a ha w' hw' => ?_) hr
  rcases run_num (t := t) (h.ext hw') hv with ⟨_, g2⟩ | ⟨j, hj, g1, g2⟩
  · simp [execOp, ha.ev hx, ha.ev hy, g2]
  · exact absurd (g1 ▸ List.getElem_mem hj) hn
theorem QL.numYes {j : Nat} (hj : j < ks.length) (hjv : ks[j] = v) (hg : gd L σ ⟨some d, .lookup t x y true, ty, pos, af, g⟩ = some true) (hd : Nat.ble (d + 1) n = true) (hx : ev σ x = some (.map (some b))) (hy : ev σ y = some v) [ht : IsM P t k e] [hk : IsKy P k] [hz : IsZ0 P e]
    (h : NumM P k w b ks) (hv : KeyV P k v) (hr : QL P L w Q rest n ((d, .tuple ⟨[.int .i64 (j : Int), .bool true]⟩) :: σ)) : QL P L w Q (⟨some d, .lookup t x y true, ty, pos, af, g⟩ :: rest) n σ := by
  refine QL.run hg hd (fun a ha w' hw' => ?_) hr
  rcases run_num (t := t) (h.ext hw') hv with ⟨g1, _⟩ | ⟨i, hi, g1, g2⟩
  · exact absurd (hjv ▸ List.getElem_mem hj) g1
  · obtain ⟨_, _, _, _, _, _, hnd⟩ := h
    obtain rfl : i = j := nodup_get hnd hi hj (g1.trans hjv.symm)
    simp [execOp, ha.ev hx, ha.ev hy, g2]
end
theorem HL.ldAQ {P : Program} {Q : Exit → Act → World → Prop} {n : Nat} {σ : Sg} {w wc : World} {L : List Oper} {S : World → Prop} {ord : List (Nat × Bool)} {i d : Nat} {ty : TypeId} {pos : String} {af : Array Edge} {g : Option (Nat × Bool)} {t e : TypeId} {x : Operand} {b o k : Nat} {cells vs : List Value}
    (hK : ∀ w1, S w1 → w1.heap[b]? = w.heap[b]?) (ho : nthO L i = some ⟨some d, .load t x, ty, pos, af, g⟩) (hg : gd L σ ⟨some d, .load t x, ty, pos, af, g⟩ = some true) (hd : Nat.ble (d + 1) n = true) (hx : ev σ x = some (.pointer (some ⟨b, o, none⟩))) [hc : IsC P t k true] (hb : Blk w b e cells) (hv : segL cells o k = some vs)
    (h : HL P L S Q ord n ((d, .agg vs.toArray) :: σ) wc) : HL P L S Q ((i, true) :: ord) n σ wc := by
  refine HL.run ho hg hd (fun a ha w' hsw => ?_) h
  have hb' : Blk w' b e cells := (hK w' hsw).trans hb
  simp [execOp, ha.ev hx, run_ldA (P := P) (t := t) w' hb' hv]
end Go.Proofs.Ytadbkppgaekmpaa
/-
  Package auto: the maker of pairs: what it holds.
-/
set_option linter.unusedVariables false
set_option linter.unusedSimpArgs false
namespace Go.Proofs.Ytadbkppgaekmpaa
open Go.RowKit

instance iMk1 : IsM Try.prog 137 133 3 := ⟨Try.underlying137⟩
instance iMk2 : IsC Try.prog 137 1 false := IsC.of (by kernel_rfl) Try.underlying137 rfl
instance iMk3 : IsZ0 Try.prog 3 := ⟨by kernel_rfl⟩
theorem mkLaid : laidOutB Try.prog = true := by kernel_rfl
instance iMk4 : IsKy Try.prog 133 := IsKy.of (m := 2) mkLaid (by decide) (by kernel_rfl) (by kernel_rfl) Try.underlying133 rfl
abbrev prV (p : Pr2) : Value := .agg ⟨[.int .i64 p.1, .int .i64 p.2]⟩
def SmP (p : Pr2) : Prop := 0 ≤ p.1 ∧ p.1 < 4096 ∧ 0 ≤ p.2 ∧ p.2 < 4096
theorem prV_key {p : Pr2} (h : SmP p) : KeyV Try.prog 133 (prV p) := by
  obtain ⟨h1, h2, h3, h4⟩ := h
  refine KeyV.pair (fa := 3) (fb := 3) (by kernel_rfl) (fun a b => ?_) ⟨_, Try.underlying133⟩ ?_ ?_
  · obtain ⟨s, hs⟩ : ∃ s, Try.prog.types.size = s + 1 := by
      have : Nat.ble 1 Try.prog.types.size = true := by kernel_rfl
      have := Nat.le_of_ble_eq_true this
      exact ⟨Try.prog.types.size - 1, by omega⟩
    have hc : Try.prog.cellsOf 3 = 1 := by kernel_rfl
    have hI : ∀ (x : Int), Try.prog.keyLits (s + 1) 3 [.int .i64 x] = if (Lit.int .i64 x).wf = true then some [.int .i64 x] else none := fun x => by
      rw [Program.keyLits.eq_def]
      simp only [Try.underlying3]
      by_cases h : (Lit.int .i64 x).wf = true <;> simp [h]
    rw [hs, Program.keyLits.eq_def]
    simp only [Try.underlying133]
    rw [if_pos ⟨by kernel_rfl, by kernel_rfl⟩]
    simp only [List.mapM_cons, List.mapM_nil, hc, List.drop_zero, List.take_succ_cons, List.take_zero, List.drop_succ_cons, hI]
    by_cases h1 : (Lit.int .i64 a).wf = true <;> by_cases h2 : (Lit.int .i64 b).wf = true <;> simp [h1, h2]
  · simp [Lit.wf, IntKind.min, IntKind.max, IntKind.signed, IntKind.bits]; omega
  · simp [Lit.wf, IntKind.min, IntKind.max, IntKind.signed, IntKind.bits]; omega
theorem prV_inj {p q : Pr2} (h : prV p = prV q) : p = q := by
  obtain ⟨a, b⟩ := p
  obtain ⟨c, d⟩ := q
  simp [prV] at h
  exact Prod.ext h.1 h.2
structure MC where
  sb : Nat
  mb : Nat
  lv : Value
  a1 : Value
  a2 : Value
  a3 : Value
  a4 : Value
  a5 : Value
structure Mk (w : World) (B : Nat) (c : MC) (ps : List Pr2) : Prop where
  blk : Blk w c.sb 139 [.map (some c.mb), c.lv, c.a1, c.a2, c.a3, c.a4, c.a5]
  num : NumM Try.prog 133 w c.mb (ps.map prV)
  lo : Own w B 133 Non c.lv ps
  ge : B ≤ c.sb ∧ B ≤ c.mb
  ne : c.sb ≠ c.mb
  nl : ∀ g, c.lv.ownBlock = some g → g ≠ c.sb ∧ g ≠ c.mb
  nd : ps.Nodup
  sm : ∀ p ∈ ps, SmP p
theorem Mk.ext {w w' : World} {B : Nat} {c : MC} {ps : List Pr2} (h : Mk w B c ps) (hE : Ext w w') : Mk w' B c ps :=
  ⟨h.blk.ext hE, h.num.ext hE, h.lo.extN hE, h.ge, h.ne, h.nl, h.nd, h.sm⟩
def mkBusy (c : MC) (lv : Value) : Nat → Prop := fun b => b = c.sb ∨ b = c.mb ∨ c.lv.ownBlock = some b ∨ lv.ownBlock = some b
/-- what stands ahead of the number's place in the list -/
structure AddI (w0 w : World) (B B2 : Nat) (c : MC) (cl lv : Value) (ps : List Pr2) (l : List Int) : Prop where
  mak : Mk w B ⟨c.sb, c.mb, cl, c.a1, c.a2, c.a3, c.a4, c.a5⟩ ps
  own : Own w B2 3 Non lv l
  chg : Chg (mkBusy c lv) w0 w
  new : ∀ g, cl.ownBlock = some g → c.lv.ownBlock = some g ∨ w0.heap.size ≤ g
theorem add_ok (w0 : World) {B B2 : Nat} {c : MC} {ps : List Pr2} {lv : Value} {l : List Int} {p : Pr2} (h : Mk w0 B c ps) (hl : Own w0 B2 3 Non lv l) (hd : ∀ g, lv.ownBlock = some g → g ≠ c.sb ∧ g ≠ c.mb ∧ c.lv.ownBlock ≠ some g)
    (hB : B ≤ w0.heap.size) (hB2 : B2 ≤ w0.heap.size) (hp : SmP p) (hps : ps.length ≤ 4096) (hll : l.length ≤ 1099511627776) :
    Rt Try.prog 131 [.pointer (some ⟨c.sb, 0, none⟩), lv, prV p].toArray w0 fun v w' => ∃ lv' cl, v = .tuple ⟨[lv', .bool (decide ((addP ps l p).1.length ≤ 2048))]⟩ ∧ Mk w' B ⟨c.sb, c.mb, cl, c.a1, c.a2, c.a3, c.a4, c.a5⟩ (addP ps l p).1 ∧
      Own w' B2 3 Non lv' (addP ps l p).2 ∧ Chg (mkBusy c lv) w0 w' ∧ (∀ g, lv'.ownBlock = some g → lv.ownBlock = some g ∨ w0.heap.size ≤ g) ∧ (∀ g, cl.ownBlock = some g → c.lv.ownBlock = some g ∨ w0.heap.size ≤ g) ∧ ∀ g, lv'.ownBlock = some g → cl.ownBlock ≠ some g := by
  have hkey := prV_key hp
  have hmem : prV p ∈ ps.map prV ↔ p ∈ ps := by
    rw [List.mem_map]
    exact ⟨fun ⟨q, h1, h2⟩ => by rw [← prV_inj h2]; exact h1, fun h => ⟨p, h, rfl⟩⟩
  refine Rt.enter3 Try.func131 Try.ntmps131 rfl rfl ?_
  (repeat (first | (apply CW.seq) | (apply CW.region)))
  refine WL.boxB rfl rfl rfl fun w1 hb5 e1 => ?_
  have h1 := h.ext e1
  have hblk := h1.blk
  unfold addP
  dsimp only
  have hl1 := hl.extN e1
  have hz1 := e1.size
  have hl5 := hb5.lt
  obtain ⟨sb, mb, cv, a1, a2, a3, a4, a5⟩ := c
  obtain ⟨co, cc, rfl⟩ := h.lo.val
  dsimp only at hd h h1 hblk ⊢
  (repeat (apply WL.pure; rfl; rfl; rfl))
  apply WL.nil
  apply EX.thenN
  refine CW.cutE [(0, .pointer (some ⟨sb, 0, none⟩)), (1, lv), (5, .pointer (some ⟨w0.heap.size, 0, none⟩)), (8, .int .i64 (if p ∈ ps then (ps.idxOf p : Int) else 0)), (9, .bool (decide (p ∈ ps)))] ?_ (fun w2 e2 => ?_)
  · by_cases hin : p ∈ ps
    · rw [if_pos hin, decide_eq_true hin]
      obtain ⟨j, hj, hjm⟩ := List.mem_iff_getElem.1 hin
      have hix : ps.idxOf p = j := by rw [← hjm]; exact h.nd.idxOf_getElem j hj
      rw [hix]
      (repeat (first | (apply QL.pure; rfl; rfl; rfl) | (apply QL.fa; rfl; rfl; rfl) | (apply QL.nck; rfl; rfl; rfl) | (apply QL.ld; rfl; rfl; rfl; assumption; rfl) | (apply QL.ldA; rfl; rfl; rfl; assumption; rfl) | (apply CW.draw; exact mixed; kernel_rfl)))
      refine QL.numYes (j := j) (by simpa using hj) (by rw [List.getElem_map, hjm]) rfl rfl rfl rfl h1.num hkey ?_
      (repeat (apply QL.pure; rfl; rfl; rfl))
      refine QL.nil (fun w2 e2 => ?_)
      exact EX.cutE (by repeat (first | exact trivial | refine ⟨rfl, ?_⟩)) e2
    · rw [if_neg hin, decide_eq_false hin]
      (repeat (first | (apply QL.pure; rfl; rfl; rfl) | (apply QL.fa; rfl; rfl; rfl) | (apply QL.nck; rfl; rfl; rfl) | (apply QL.ld; rfl; rfl; rfl; assumption; rfl) | (apply QL.ldA; rfl; rfl; rfl; assumption; rfl) | (apply CW.draw; exact mixed; kernel_rfl)))
      refine QL.numNo rfl rfl rfl rfl h1.num hkey (fun h => hin (hmem.1 h)) ?_
      (repeat (apply QL.pure; rfl; rfl; rfl))
      refine QL.nil (fun w2 e2 => ?_)
      exact EX.cutE (by repeat (first | exact trivial | refine ⟨rfl, ?_⟩)) e2
  have hE := e1.trans e2
  have h2 := h.ext hE
  have hl2 := hl.extN hE
  have hb5 := hb5.ext e2
  have hz2 := e2.size
  have hchg : Chg (mkBusy ⟨sb, mb, .slice co ps.length cc, a1, a2, a3, a4, a5⟩ lv) w0 w2 := ⟨hE.os, hE.tape, hE.output, hE.size, fun b hb _ => hE.block b hb⟩
  clear h1 hl1 hblk
  refine CW.cutI (S := Option Addr × Nat) (fun _ => [(0, .pointer (some ⟨sb, 0, none⟩)), (1, lv), (8, .int .i64 (ps.idxOf p : Int))])
    (fun s w => AddI w0 w B B2 ⟨sb, mb, .slice co ps.length cc, a1, a2, a3, a4, a5⟩ (.slice s.1 (if p ∈ ps then ps else ps ++ [p]).length s.2) lv (if p ∈ ps then ps else ps ++ [p]) l) ?_ ?_
  · by_cases hin : p ∈ ps
    · rw [if_pos hin, if_pos hin, decide_eq_true hin]
      (repeat (first | (apply WL.pure; rfl; rfl; rfl) | (apply WL.nil) | (apply EX.thenN) | (apply CW.seq) | (apply CW.region) | (apply CW.condF; rfl) | (apply CW.skip)))
      exact EX.cutI (co, cc) (by repeat (first | exact trivial | refine ⟨rfl, ?_⟩)) ⟨h2, hl2, hchg, fun g hg => .inl hg⟩
    · rw [if_neg hin, if_neg hin, decide_eq_false hin]
      have hix := idxOf_new hin
      have hblk := h2.blk
      dsimp only at hblk
      have hmb0 := h.num.lt
      have hsb0 := h.blk.lt
      have hlt0 := h.lo.lt
      dsimp only at hmb0 hsb0 hlt0
      have hne := h.ne
      have hnl := h.nl
      dsimp only at hne hnl
      have hl5x := hb5.lt
      rw [hix]
      -- the map
      have hD : Ext w2 (drew w2) := Ext.drew w2
      have hblkd := hblk.ext hD
      have hb5d := hb5.ext hD
      have hK5 : ∀ u, (fun x : World => x.heap[w0.heap.size]? = (drew w2).heap[w0.heap.size]? ∧ x.heap[sb]? = (drew w2).heap[sb]?) u → u.heap[w0.heap.size]? = (drew w2).heap[w0.heap.size]? := fun _ h => h.1
      have hKs : ∀ u, (fun x : World => x.heap[w0.heap.size]? = (drew w2).heap[w0.heap.size]? ∧ x.heap[sb]? = (drew w2).heap[sb]?) u → u.heap[sb]? = (drew w2).heap[sb]? := fun _ h => h.2
      (repeat (first | (apply WL.pure; rfl; rfl; rfl) | (apply WL.nil) | (apply EX.thenN) | (apply CW.seq) | (apply CW.region) | (apply WL.lenS; rfl; rfl; rfl) | (apply WL.fa; rfl; rfl; rfl) | (apply WL.nck; rfl; rfl; rfl) | (apply WL.ld; rfl; rfl; rfl; assumption; rfl) | (apply CW.condT; rfl)))
      refine CW.drawH (fun x : World => x.heap[w0.heap.size]? = (drew w2).heap[w0.heap.size]? ∧ x.heap[sb]? = (drew w2).heap[sb]?) [(0, true), (1, true), (2, true), (3, true), (4, true), (5, true), (6, false)] mixed (by kernel_rfl) ⟨rfl, rfl⟩ ?_
      (repeat (first | (apply HL.pure; rfl; rfl; rfl; rfl) | (refine HL.fa rfl rfl rfl rfl ?_) | (apply HL.nck; rfl; rfl; rfl; rfl) | (refine HL.ldK (by assumption) rfl rfl rfl rfl (by assumption) rfl ?_)))
      refine HL.ldAQ hK5 rfl rfl rfl rfl hb5d rfl ?_
      (repeat (apply HL.pure; rfl; rfl; rfl; rfl))
      refine HL.mut rfl (WL.numPut (ks := ps.map prV) rfl rfl rfl (by simp [ev, fnd, List.length_map]) (h2.num.ext hD) hkey (fun h => hin (hmem.1 h)) (fun w3 hnum3 hg3 => ?_))
      have hzd := hD.size
      refine WL.nil (EX.mut ⟨?_, ?_⟩ (HL.nil ?_))
      · exact hg3.block _ (by omega) (fun e => by have := Option.some.inj e; omega)
      · exact hg3.block _ (by omega) (fun e => hne (Option.some.inj e))
      have hz3 := hg3.size
      have hblk3 := hblkd.kept hg3 (fun e => hne (Option.some.inj e))
      have hb53 := hb5d.kept hg3 (fun e => by have := Option.some.inj e; omega)
      have hlo3 := (h2.lo.extN hD).keptN hg3 (fun g hg e => (hnl g hg).2 (Option.some.inj e))
      have hl3 := (hl2.extN hD).keptN hg3 (fun g hg e => (hd g hg).2.1 (Option.some.inj e))
      dsimp only at hlo3
      have hC3 : Chg (mkBusy ⟨sb, mb, .slice co ps.length cc, a1, a2, a3, a4, a5⟩ lv) w0 w3 := (⟨hD.os.trans hchg.os, hD.tape.trans hchg.tape, hD.output.trans hchg.output, Nat.le_trans hchg.size hD.size, fun b hb hn => (hD.block b (Nat.lt_of_lt_of_le hb hchg.size)).trans (hchg.block b hb hn)⟩ : Chg _ w0 (drew w2)).grown hg3 (fun g hg => by cases hg; exact .inr (.inl rfl))
      clear hblkd hb5d hK5 hKs hD hzd hg3 hblk hb5
      -- the list
      have hD : Ext w3 (drew w3) := Ext.drew w3
      have hblkd := hblk3.ext hD
      have hb5d := hb53.ext hD
      have hlsb := hblk3.lt
      have hl5 := hb53.lt
      have hK5 : ∀ u, (fun x : World => x.heap[w0.heap.size]? = (drew w3).heap[w0.heap.size]? ∧ x.heap[sb]? = (drew w3).heap[sb]?) u → u.heap[w0.heap.size]? = (drew w3).heap[w0.heap.size]? := fun _ h => h.1
      have hKs : ∀ u, (fun x : World => x.heap[w0.heap.size]? = (drew w3).heap[w0.heap.size]? ∧ x.heap[sb]? = (drew w3).heap[sb]?) u → u.heap[sb]? = (drew w3).heap[sb]? := fun _ h => h.2
      have hzd := hD.size
      (repeat (apply EX.thenN))
      refine CW.drawE (fun x : World => x.heap[w0.heap.size]? = (drew w3).heap[w0.heap.size]? ∧ x.heap[sb]? = (drew w3).heap[sb]?) [(0, true), (1, true), (2, true), (3, true), (4, true), (5, true), (6, false), (7, false), (8, false), (9, false)] 10 mixed (by kernel_rfl) ⟨rfl, rfl⟩ ?_
      (repeat (first | (apply HL.pure; rfl; rfl; rfl; rfl) | (refine HL.fa rfl rfl rfl rfl ?_) | (apply HL.nck; rfl; rfl; rfl; rfl) | (refine HL.ldK (by assumption) rfl rfl rfl rfl (by assumption) rfl ?_)))
      refine HL.ldAQ hK5 rfl rfl rfl rfl hb5d rfl ?_
      refine HL.app1 (α := Int × Int) (F := Non) (bytes := 16) (yv := p) rfl rfl rfl rfl (fun _ => rfl) rfl rfl (fun _ => rfl) (hlo3.extN hD) (Rd.mkPr (c1 := [.int .i64 p.1]) (c2 := [.int .i64 p.2]) (rd_mkInt _ _ _) (rd_mkInt _ _ _)) (by omega) (fun _ h => h.elim) (by decide) (by unfold maxLen; omega) (by omega)
        (fun z hz => ⟨hz.block _ (by omega) (fun e => by have := hlt0 _ e.symm; omega), hz.block _ (by omega) (fun e => (hnl _ e.symm).1 rfl)⟩) (fun cl w4 q4 ho4 hg4 hnb4 => ?_)
      obtain ⟨co', cc', rfl⟩ := ho4.val
      have hblk4 := hblkd.kept hg4 (fun e => (hnl _ e.symm).1 rfl)
      have hnum4 := (hnum3.ext hD).kept hg4 (fun e => (hnl _ e.symm).2 rfl)
      have hl4 := (hl3.extN hD).keptN hg4 (fun g hg e => (hd g hg).2.2 e.symm)
      have hS4 : w4.heap[w0.heap.size]? = (drew w3).heap[w0.heap.size]? ∧ w4.heap[sb]? = (drew w3).heap[sb]? := ⟨hg4.block _ (by omega) (fun e => by have := hlt0 _ e.symm; omega), hg4.block _ (by omega) (fun e => (hnl _ e.symm).1 rfl)⟩
      refine HL.mut rfl (WL.nck rfl rfl rfl (WL.nil (EX.mut hS4 ?_)))
      refine HL.mut rfl (WL.fa rfl rfl rfl (WL.nil (EX.mut hS4 (HL.nil ?_))))
      refine EX.tail rfl (WL.st rfl rfl rfl hblk4 rfl rfl (ones_of rfl) (fun w5 hblk5 hg5 => WL.nil ?_))
      have hlo5 := ho4.keptN hg5 (fun g hg e => by
        rcases hnb4 g hg with h | h
        · exact (hnl g h).1 (Option.some.inj e)
        · have := Option.some.inj e; omega)
      have hnum5 := hnum4.kept hg5 (fun e => hne (Option.some.inj e).symm)
      have hl5' := hl4.keptN hg5 (fun g hg e => (hd g hg).1 (Option.some.inj e))
      have hC4 := (⟨hD.os.trans hC3.os, hD.tape.trans hC3.tape, hD.output.trans hC3.output, Nat.le_trans hC3.size hD.size, fun b hb hn => (hD.block b (Nat.lt_of_lt_of_le hb hC3.size)).trans (hC3.block b hb hn)⟩ : Chg (mkBusy ⟨sb, mb, .slice co ps.length cc, a1, a2, a3, a4, a5⟩ lv) w0 (drew w3)).grown hg4 (fun g hg => .inr (.inr (.inl hg)))
      have hC5 := hC4.grown hg5 (fun g hg => by cases hg; exact .inl rfl)
      have hz4 := hg4.size
      rw [show ps.map prV ++ [prV p] = (ps ++ [p]).map prV by simp] at hnum5
      unfold EX
      refine fun a ha => ⟨rfl, rfl, (co', cc'), ha.sub (by repeat (first | exact trivial | refine ⟨rfl, ?_⟩)), ⟨⟨hblk5, hnum5, hlo5, h.ge, hne, fun g hg => ?_, ?_, fun q hq => ?_⟩, hl5', hC5, fun g hg => ?_⟩⟩
      · rcases hnb4 g hg with h | h
        · exact hnl g h
        · exact ⟨by dsimp only; omega, by dsimp only; omega⟩
      · rw [List.nodup_append]
        refine ⟨h.nd, List.pairwise_singleton _ _, fun a ha b hb e' => ?_⟩
        rw [List.mem_singleton] at hb
        exact hin (by rw [← hb, ← e']; exact ha)
      · rcases List.mem_append.1 hq with hq | hq
        · exact h.sm q hq
        · rw [List.mem_singleton] at hq; rw [hq]; exact hp
      · rcases hnb4 g hg with h | h
        · exact .inl h
        · exact .inr (by omega)
  · clear h2 hl2 hb5 hchg hE e1 e2 hmem hkey h
    rintro ⟨co', cc'⟩ w3 ⟨hM, hl3, hC3, hnew3⟩
    dsimp only at hM hnew3
    have hPl : (if p ∈ ps then ps else ps ++ [p]).length ≤ 4097 := by
      split
      · omega
      · rw [List.length_append]; simp; omega
    generalize (if p ∈ ps then ps else ps ++ [p]) = ps' at *
    generalize ps.idxOf p = n at *
    obtain ⟨lo, lc, rfl⟩ := hl3.val
    have hls : Sl w3 (Old w3) lo lc l := by
      obtain ⟨a, b, e, h⟩ := hl3.oldN.sl
      obtain ⟨rfl, _, rfl⟩ := Value.slice.inj e
      exact h
    have hz3 := hC3.size
    have hap : ∀ g, Value.ownBlock (.slice lo l.length lc) = some g → Value.ownBlock (.slice co' ps'.length cc') ≠ some g := fun g hg e => by
      rcases hnew3 g e with h | h
      · exact (hd g hg).2.2 h
      · have := (hl.lt g hg).2.1; omega
    have hdec : decide ((ps'.length : Int) ≤ 2048) = decide (ps'.length ≤ 2048) := by
      by_cases h : ps'.length ≤ 2048
      · rw [decide_eq_true h, decide_eq_true (by omega)]
      · rw [decide_eq_false h, decide_eq_false (by omega)]
    (repeat (first | (apply WL.pure; rfl; rfl; rfl) | (apply CW.seq) | (apply CW.region)))
    refine WL.call rfl rfl rfl (contains_int w3 (n : Int) hls) ?_
    rintro _ w4 ⟨rfl, e4⟩
    have hM4 := hM.ext e4
    have hblk := hM4.blk
    dsimp only at hblk
    have hl4 := hl3.extN e4
    have hC4 : Chg (mkBusy ⟨sb, mb, .slice co ps.length cc, a1, a2, a3, a4, a5⟩ (.slice lo l.length lc)) w0 w4 := ⟨e4.os.trans hC3.os, e4.tape.trans hC3.tape, e4.output.trans hC3.output, Nat.le_trans hC3.size e4.size, fun b hb hn => (e4.block b (Nat.lt_of_lt_of_le hb hC3.size)).trans (hC3.block b hb hn)⟩
    by_cases hc : (n : Int) ∈ l
    · rw [show l.contains (n : Int) = true by rw [List.contains_eq_mem]; exact decide_eq_true hc, if_pos hc]
      (repeat (first | (apply WL.pure; rfl; rfl; rfl) | (apply QL.pure; rfl; rfl; rfl) | (apply WL.nil) | (apply EX.thenN) | (apply CW.seq) | (apply QL.lenS; rfl; rfl; rfl) | (apply QL.fa; rfl; rfl; rfl) | (apply QL.nck; rfl; rfl; rfl) | (apply QL.ld; rfl; rfl; rfl; assumption; rfl) | (apply CW.condF; rfl) | (apply CW.skip) | (apply CW.draw; exact mixed; kernel_rfl)))
      refine QL.nil (fun w5 e5 => ?_)
      (repeat (first | (apply EX.thenN) | (apply CW.ret)))
      refine EX.ret2 rfl rfl rfl ⟨.slice lo l.length lc, .slice co' ps'.length cc', by rw [hdec], hM4.ext e5, hl4.extN e5, ⟨e5.os.trans hC4.os, e5.tape.trans hC4.tape, e5.output.trans hC4.output, Nat.le_trans hC4.size e5.size, fun b hb hn => (e5.block b (Nat.lt_of_lt_of_le hb hC4.size)).trans (hC4.block b hb hn)⟩, fun g hg => .inl hg, hnew3, hap⟩
    · rw [show l.contains (n : Int) = false by rw [List.contains_eq_mem]; exact decide_eq_false hc, if_neg hc]
      have hz4 := hC4.size
      have hnl := hM4.nl
      have hmlo := hM4.lo.lt
      dsimp only at hnl hmlo
      (repeat (first | (apply WL.pure; rfl; rfl; rfl) | (apply WL.nil) | (apply EX.thenN) | (apply CW.region) | (apply CW.condT; rfl)))
      refine WL.app1 (α := Int) (F := Non) (bytes := 8) rfl rfl (fun _ => rfl) rfl rfl (fun _ => rfl) hl4 (Rd.mkInt _ _ _) (by omega) (fun _ h => h.elim) (by decide) (by unfold maxLen; omega) (by omega) (fun lv' w5 q ho5 hg5 hnb5 => ?_)
      have hsbl := hblk.lt
      have hM5 : Mk w5 B ⟨sb, mb, .slice co' ps'.length cc', a1, a2, a3, a4, a5⟩ ps' := ⟨hblk.kept hg5 (fun e => (hd sb e.symm).1 rfl), hM4.num.kept hg5 (fun e => (hd mb e.symm).2.1 rfl), hM4.lo.keptN hg5 (fun g hg e => hap g e.symm hg), hM4.ge, hM4.ne, hM4.nl, hM4.nd, hM4.sm⟩
      have hC5 := hC4.grown hg5 (fun g hg => .inr (.inr (.inr hg)))
      have hblk := hM5.blk
      dsimp only at hblk
      (repeat (first | (apply WL.pure; rfl; rfl; rfl) | (apply QL.pure; rfl; rfl; rfl) | (apply WL.nil) | (apply EX.thenN) | (apply CW.seq) | (apply QL.lenS; rfl; rfl; rfl) | (apply QL.fa; rfl; rfl; rfl) | (apply QL.nck; rfl; rfl; rfl) | (apply QL.ld; rfl; rfl; rfl; assumption; rfl) | (apply CW.draw; exact mixed; kernel_rfl)))
      refine QL.nil (fun w6 e6 => ?_)
      (repeat (first | (apply EX.thenN) | (apply CW.ret)))
      refine EX.ret2 rfl rfl rfl ⟨lv', .slice co' ps'.length cc', by rw [hdec], hM5.ext e6, ho5.extN e6, ⟨e6.os.trans hC5.os, e6.tape.trans hC5.tape, e6.output.trans hC5.output, Nat.le_trans hC5.size e6.size, fun b hb hn => (e6.block b (Nat.lt_of_lt_of_le hb hC5.size)).trans (hC5.block b hb hn)⟩, fun g hg => (hnb5 g hg).imp id (fun h => Nat.le_trans hz4 h), hnew3, fun g hg e => ?_⟩
      rcases hnb5 g hg with h | h
      · exact hap g h e
      · have := (hmlo g e).2.1; omega
end Go.Proofs.Ytadbkppgaekmpaa
/-
  Package auto: put, the maker's closure: walked.
-/
set_option linter.unusedVariables false
set_option linter.unusedSimpArgs false
namespace Go.Proofs.Ytadbkppgaekmpaa
open Go.RowKit

theorem putP_sizes : ∀ (r ps : List Pr2) (ok : Bool) (l : List Int), (ok = true → ps.length ≤ 2048) → ps.length ≤ 2049 → (putP r ps ok l).1.length ≤ 2049 ∧ ((putP r ps ok l).2.1 = true → (putP r ps ok l).1.length ≤ 2048)
  | [], ps, ok, l, h, h2 => ⟨h2, h⟩
  | p :: r, ps, ok, l, h, h2 => by
    rw [putP]
    split
    · rename_i hk
      have h1 := h hk
      refine putP_sizes r _ _ _ (fun h => of_decide_eq_true h) ?_
      unfold addP
      dsimp only
      split
      · omega
      · rw [List.length_append]; simp; omega
    · exact putP_sizes r _ _ _ h h2
theorem rd_pr2 {w : World} {F : Nat → Prop} {v : Value} {x : Pr2} (h : Rd w F v x) : v = prV x := by
  obtain ⟨c1, c2, rfl, h1, h2⟩ := h.pr
  rw [rd_int h1, rd_int h2]; rfl
set_option maxHeartbeats 1000000 in
theorem put_ok (w0 : World) {B kb tb : Nat} {c : MC} {ps r : List Pr2} {ok : Bool} {F : Nat → Prop} {po : Option Addr} {pc : Nat} (h : Mk w0 B c ps) (hk : Blk w0 kb 4 [.bool ok]) (ht : Blk w0 tb 136 [.pointer (some ⟨c.sb, 0, none⟩)])
    (hr : Sl w0 F po pc r) (hF : ∀ b, F b → b < w0.heap.size ∧ b ≠ c.sb ∧ b ≠ c.mb ∧ c.lv.ownBlock ≠ some b ∧ b ≠ kb) (hkn : kb ≠ c.sb ∧ kb ≠ c.mb ∧ c.lv.ownBlock ≠ some kb) (htn : tb ≠ c.sb ∧ tb ≠ c.mb ∧ c.lv.ownBlock ≠ some tb ∧ tb ≠ kb)
    (hB : B ≤ w0.heap.size) (hsm : ∀ p ∈ r, SmP p) (hok : ok = true → ps.length ≤ 2048) (hps : ps.length ≤ 2049) (hrl : r.length ≤ 1099511627776) :
    Rt Try.prog 130 [.slice po r.length pc, .pointer (some ⟨kb, 0, none⟩), .pointer (some ⟨tb, 0, none⟩)].toArray w0 fun v w' => ∃ cl, Mk w' B ⟨c.sb, c.mb, cl, c.a1, c.a2, c.a3, c.a4, c.a5⟩ (putP r ps ok []).1 ∧
      Blk w' kb 4 [.bool (putP r ps ok []).2.1] ∧ Own w' w0.heap.size 3 Non v (putP r ps ok []).2.2 ∧ Chg (fun b => b = c.sb ∨ b = c.mb ∨ c.lv.ownBlock = some b ∨ b = kb) w0 w' ∧ (∀ g, cl.ownBlock = some g → c.lv.ownBlock = some g ∨ w0.heap.size ≤ g) ∧ ∀ g, v.ownBlock = some g → cl.ownBlock ≠ some g := by
  have hrl' := hr.len63
  have hsb0 := h.blk.lt
  have hmb0 := h.num.lt
  have hkb0 := hk.lt
  refine Rt.enter3 Try.func130 Try.ntmps130 rfl rfl ?_
  (repeat (first | (apply WL.pure; rfl; rfl; rfl) | (apply WL.nil) | (apply EX.thenN) | (apply CW.seq) | (apply CW.region) | (apply WL.lenS; rfl; rfl; rfl) | (apply CW.block)))
  refine CW.loop (S := Nat × Value × Value × List Pr2 × Bool × List Int) (fun s => [(1, .pointer (some ⟨kb, 0, none⟩)), (2, .pointer (some ⟨tb, 0, none⟩)), (5, s.2.1), (8, .slice po r.length pc), (9, .int .i64 r.length), (10, .int .i64 s.1)])
    (fun s w => s.1 ≤ r.length ∧ putP (r.drop s.1) s.2.2.2.1 s.2.2.2.2.1 s.2.2.2.2.2 = putP r ps ok [] ∧ Mk w B ⟨c.sb, c.mb, s.2.2.1, c.a1, c.a2, c.a3, c.a4, c.a5⟩ s.2.2.2.1 ∧ Blk w kb 4 [.bool s.2.2.2.2.1] ∧ Own w w0.heap.size 3 Non s.2.1 s.2.2.2.2.2 ∧
      Chg (fun b => b = c.sb ∨ b = c.mb ∨ c.lv.ownBlock = some b ∨ b = kb) w0 w ∧ (∀ g, s.2.2.1.ownBlock = some g → c.lv.ownBlock = some g ∨ w0.heap.size ≤ g) ∧ (∀ g, s.2.1.ownBlock = some g → s.2.2.1.ownBlock ≠ some g) ∧ (s.2.2.2.2.1 = true → s.2.2.2.1.length ≤ 2048) ∧ s.2.2.2.1.length ≤ 2049 ∧ s.2.2.2.2.2.length ≤ s.1)
    (fun s => r.length - s.1) (0, .slice none 0 0, c.lv, ps, ok, []) (by repeat (first | exact trivial | refine ⟨rfl, ?_⟩)) ⟨Nat.zero_le _, rfl, h, hk, Own.nil, Chg.refl _ _, fun g hg => .inl hg, (fun g hg => by cases hg), hok, hps, Nat.le_refl _⟩ ?_
  rintro ⟨i, lv, cl, qs, qk, ql⟩ w1 ⟨hi, hT, hM, hk1, hl1, hC1, hn1, hd1, ho1, hs1, hz1⟩
  dsimp only at hi hT hM hk1 hl1 hC1 hn1 hd1 ho1 hs1 hz1 ⊢
  (repeat (first | (apply WL.pure; rfl; rfl; rfl) | (apply WL.nil) | (apply EX.thenN) | (apply CW.seq) | (apply CW.region)))
  refine CW.cond rfl (fun h => ?_) (fun h => ?_)
  · have hi' : i < r.length := by simp at h; omega
    rw [List.drop_eq_getElem_cons hi', putP] at hT
    have hr1 : Sl w1 F po pc r := hr.mono (fun b hb => hC1.block b (hF b hb).1 (fun h => by
      have := hF b hb
      rcases h with h | h | h | h
      · exact this.2.1 h
      · exact this.2.2.1 h
      · exact this.2.2.2.1 h
      · exact this.2.2.2.2 h)) (fun _ h => h)
    have hsp := hsm _ (List.getElem_mem hi')
    (repeat (first | (apply EX.thenN) | (apply CW.seq) | (apply CW.region) | (apply CW.block) | (apply CW.skip)))
    refine WL.elemN (i := i) rfl rfl rfl rfl rfl hr1 hi' (fun _ => rfl) (fun u q hu => ?_)
    rw [rd_pr2 hu]
    clear hu hr1
    generalize r[i] = p at *
    skip
    refine WL.alloc rfl rfl (fun w2 hb7 e2 => ?_)
    skip
    refine WL.st rfl rfl rfl hb7 rfl rfl (ones_of rfl) (fun w3 hb7 hg3 => ?_)
    have e3 : Ext w1 w3 := e2.grown hg3 e2.size (fun g hg => by cases hg; exact Nat.le_refl _)
    have hM3 := hM.ext e3
    have hk3 := hk1.ext e3
    have hl3 := hl1.extN e3
    have hC3 : Chg (fun b => b = c.sb ∨ b = c.mb ∨ c.lv.ownBlock = some b ∨ b = kb) w0 w3 := ⟨e3.os.trans hC1.os, e3.tape.trans hC1.tape, e3.output.trans hC1.output, Nat.le_trans hC1.size e3.size, fun b hb hn => (e3.block b (Nat.lt_of_lt_of_le hb hC1.size)).trans (hC1.block b hb hn)⟩
    clear e2 hg3
    cases qk with
    | false =>
      rw [if_neg (by decide)] at hT
      (repeat (first | (apply WL.add; rfl; rfl; rfl; rfl; omega; omega) | (apply WL.pure; rfl; rfl; rfl) | (apply WL.nil) | (apply EX.thenN) | (apply CW.seq) | (apply CW.region) | (apply WL.ld; rfl; rfl; rfl; assumption; rfl) | (apply EX.inN) | (apply CW.condF; rfl) | (apply CW.skip)))
      exact EX.back (i + 1, lv, cl, qs, false, ql) (by repeat (first | exact trivial | refine ⟨rfl, ?_⟩)) ⟨hi', hT, hM3, hk3, hl3, hC3, hn1, hd1, ho1, hs1, by dsimp only; omega⟩ (by dsimp only; omega)
    | true =>
      rw [if_pos rfl] at hT
      have ht3 : Blk w3 tb 136 [.pointer (some ⟨c.sb, 0, none⟩)] := (hC3.block tb ht.lt (fun h => by
        rcases h with h | h | h | h
        · exact htn.1 h
        · exact htn.2.1 h
        · exact htn.2.2.1 h
        · exact htn.2.2.2 h)).trans ht
      have hz3 := hC3.size
      have hlg := fun g hg => (hl1.lt g hg).1
      have hclk : ∀ g, cl.ownBlock = some g → g ≠ kb := fun g hg e => by
        rcases hn1 g hg with h1 | h1
        · exact hkn.2.2 (by rw [← e]; exact h1)
        · omega
      have hadd := add_ok w3 hM3 hl3 (fun g hg => ⟨by have := hlg g hg; dsimp only; omega, by have := hlg g hg; dsimp only; omega, hd1 g hg⟩) (by omega) hz3 hsp (by omega) (by omega)
      dsimp only at hadd
      (repeat (first | (apply WL.pure; rfl; rfl; rfl) | (apply WL.nil) | (apply EX.thenN) | (apply CW.seq) | (apply CW.region) | (apply WL.ld; rfl; rfl; rfl; assumption; rfl) | (apply WL.ldA; rfl; rfl; rfl; assumption; rfl) | (apply CW.condT; rfl)))
      refine WL.call rfl rfl rfl hadd ?_
      rintro _ w4 ⟨lv', cl', rfl, hM4, hl4, hC4, n1, n2, n3⟩
      have hk4 : Blk w4 kb 4 [.bool true] := (hC4.block kb hk3.lt (fun h => by
        rcases h with h | h | h | h
        · exact hkn.1 h
        · exact hkn.2.1 h
        · exact hclk _ h rfl
        · have := hlg _ h; omega)).trans hk3
      have hz4 := hC4.size
      (repeat (apply WL.pure; rfl; rfl; rfl))
      refine WL.st rfl rfl rfl hk4 rfl rfl (ones_of rfl) (fun w5 hk5 hg5 => ?_)
      have hlk : ∀ g, lv'.ownBlock = some g → g ≠ kb := fun g hg e => by
        have := (hl4.lt g hg).1; omega
      have hck : ∀ g, cl'.ownBlock = some g → g ≠ kb := fun g hg e => by
        rcases n2 g hg with h1 | h1
        · exact hclk g h1 e
        · omega
      have hM5 : Mk w5 B ⟨c.sb, c.mb, cl', c.a1, c.a2, c.a3, c.a4, c.a5⟩ (addP qs ql p).1 := ⟨hM4.blk.kept hg5 (fun e => hkn.1 (Option.some.inj e).symm), hM4.num.kept hg5 (fun e => hkn.2.1 (Option.some.inj e).symm), hM4.lo.keptN hg5 (fun g hg e => hck g hg (Option.some.inj e)), hM4.ge, hM4.ne, hM4.nl, hM4.nd, hM4.sm⟩
      have hl5 := hl4.keptN hg5 (fun g hg e => hlk g hg (Option.some.inj e))
      have hC34 : Chg (fun b => b = c.sb ∨ b = c.mb ∨ c.lv.ownBlock = some b ∨ b = kb) w0 w4 := ⟨hC4.os.trans hC3.os, hC4.tape.trans hC3.tape, hC4.output.trans hC3.output, Nat.le_trans hz3 hz4, fun b hb hn => (hC4.block b (Nat.lt_of_lt_of_le hb hz3) (fun h => by
        rcases h with h | h | h | h
        · exact hn (.inl h)
        · exact hn (.inr (.inl h))
        · rcases hn1 b h with h1 | h1
          · exact hn (.inr (.inr (.inl h1)))
          · omega
        · have := hlg _ h; omega)).trans (hC3.block b hb hn)⟩
      have hC5 := hC34.grown hg5 (fun g hg => by cases hg; exact .inr (.inr (.inr rfl)))
      have hal : (addP qs ql p).2.length ≤ i + 1 := by
        unfold addP
        dsimp only
        split
        · omega
        · rw [List.length_append]; simp; omega
      have has : (addP qs ql p).1.length ≤ 2049 := by
        have := ho1 rfl
        unfold addP
        dsimp only
        split
        · omega
        · rw [List.length_append]; simp; omega
      (repeat (first | (apply WL.add; rfl; rfl; rfl; rfl; omega; omega) | (apply WL.pure; rfl; rfl; rfl) | (apply WL.nil) | (apply EX.thenN) | (apply CW.region) | (apply EX.inN)))
      exact EX.back (i + 1, lv', cl', (addP qs ql p).1, decide ((addP qs ql p).1.length ≤ 2048), (addP qs ql p).2) (by repeat (first | exact trivial | refine ⟨rfl, ?_⟩)) ⟨hi', hT, hM5, hk5, hl5, hC5, fun g hg => by
        rcases n2 g hg with h1 | h1
        · exact hn1 g h1
        · exact .inr (by omega), n3, fun h => of_decide_eq_true h, has, hal⟩ (by dsimp only; omega)
  · obtain rfl : i = r.length := by simp at h; omega
    rw [List.drop_length, putP] at hT
    rw [← hT]
    (repeat (first | (apply WL.pure; rfl; rfl; rfl) | (apply WL.nil) | (apply EX.thenN) | (apply CW.seq) | (apply CW.region) | (apply CW.exit) | (apply EX.thenX) | (apply EX.inX) | (apply CW.ret)))
    exact EX.ret1 rfl rfl ⟨cl, hM, hk1, hl1, hC1, hn1, hd1⟩
end Go.Proofs.Ytadbkppgaekmpaa
