import Derived.Test.YtikigaeihdmcaaaPtWorldOwn6
/-
  Ways by breadth, with what each node was come to from. Plain lists.
-/
set_option linter.unusedVariables false
set_option linter.unusedSimpArgs false
namespace Go.Proofs.Ytikigaeihdmcaaa

abbrev UP := List (Int × Int)
abbrev keysU (up : UP) : List Int := up.map Prod.fst
structure WyC (g : List (List Int)) (fr : List Int) (al : Nat → Bool) (up : UP) : Prop where
  nd : (keysU up).Nodup
  rg : okL g.length (keysU up)
  par : ∀ i (hi : i < up.length), (up[i].2 = -1 ∧ up[i].1 ∈ fr) ∨ ∃ j, ∃ hj : j < up.length, j < i ∧ up[i].2 = up[j].1 ∧ up[i].1 ∈ g.getD up[j].1.toNat [] ∧ al up[i].1.toNat = true
structure WyOK (g : List (List Int)) (fr : List Int) (to al : Nat → Bool) (r : List Int) : Prop where
  ne : 0 < r.length
  len : r.length ≤ g.length
  rg : okL g.length r
  st : r.getD 0 0 ∈ fr
  ed : ∀ i, i + 1 < r.length → r.getD (i + 1) 0 ∈ g.getD (r.getD i 0).toNat [] ∧ al (r.getD (i + 1) 0).toNat = true
  en : to (r.getD (r.length - 1) 0).toNat = true
def alB (part : List Int) (only : Int) (k : Nat) : Bool := decide (only < 0) || decide (part.getD k 0 = only)
section
variable {g : List (List Int)} {fr : List Int} {to al : Nat → Bool} {up : UP}
theorem okL_len : ∀ {n : Nat} {l : List Int}, l.Nodup → okL n l → l.length ≤ n := fun {n l} hn h => by
  have h1 := nodup_lenE n (l.map Int.toNat) (by
    unfold List.Nodup at hn ⊢
    rw [List.pairwise_map]
    refine List.pairwise_iff_forall_sublist.2 fun {a b} hs => ?_
    have ha := h a (hs.subset (by simp))
    have hb := h b (hs.subset (by simp))
    have := List.pairwise_iff_forall_sublist.1 hn hs
    omega) (fun x hx => by
    obtain ⟨a, ha, rfl⟩ := List.mem_map.1 hx
    have := h a ha
    omega)
  simpa using h1
theorem WyC.nil : WyC g fr al [] := ⟨List.Pairwise.nil, (fun x hx => by cases hx), fun i hi => absurd hi (by simp)⟩
theorem WyC.len (h : WyC g fr al up) : up.length ≤ g.length := by
  have := okL_len h.nd h.rg
  simpa using this
theorem WyC.push (h : WyC g fr al up) {x : Int × Int} (hn : x.1 ∉ keysU up) (hr : 0 ≤ x.1 ∧ x.1 < g.length)
    (hp : (x.2 = -1 ∧ x.1 ∈ fr) ∨ ∃ j, ∃ hj : j < up.length, x.2 = up[j].1 ∧ x.1 ∈ g.getD up[j].1.toNat [] ∧ al x.1.toNat = true) : WyC g fr al (up ++ [x]) := by
  refine ⟨?_, fun y hy => ?_, fun i hi => ?_⟩
  · unfold keysU
    rw [List.map_append, List.nodup_append]
    refine ⟨h.nd, by simp, fun a ha b hb e => ?_⟩
    simp at hb
    subst hb; subst e
    exact hn ha
  · unfold keysU at hy
    rw [List.map_append] at hy
    rcases List.mem_append.1 hy with hy | hy
    · exact h.rg y hy
    · simp at hy; subst hy; exact hr
  · by_cases h' : i < up.length
    · rw [List.getElem_append_left h']
      rcases h.par i h' with k | ⟨j, hj, k1, k2, k3⟩
      · exact .inl k
      · exact .inr ⟨j, by simp; omega, k1, by rw [List.getElem_append_left hj]; exact k2, by rw [List.getElem_append_left hj]; exact k3⟩
    · have hiu : i = up.length := by simp at hi; omega
      subst hiu
      rw [List.getElem_append_right (Nat.le_refl _)]
      simp only [Nat.sub_self, List.getElem_cons_zero]
      rcases hp with k | ⟨j, hj, k⟩
      · exact .inl k
      · exact .inr ⟨j, by simp; omega, hj, by rw [List.getElem_append_left hj]; exact k⟩
/-- the way back from node h, so far -/
structure BackI (g : List (List Int)) (fr : List Int) (al : Nat → Bool) (up : UP) (h q : Nat) (out : List Int) : Prop where
  hq : q ≤ up.length
  hh : h < up.length
  len : out.length + q ≤ h + 1
  rg : okL g.length out
  rv : ∀ i, i + 1 < out.length → out.getD i 0 ∈ g.getD (out.getD (i + 1) 0).toNat [] ∧ al (out.getD i 0).toNat = true
  nx : ∀ (h0 : 0 < q), 0 < out.length → out.getD (out.length - 1) 0 ∈ g.getD (up[q - 1]'(by omega)).1.toNat [] ∧ al (out.getD (out.length - 1) 0).toNat = true
  hd : 0 < out.length → out.getD 0 0 = up[h].1
  em : out.length = 0 → q = h + 1
  fn : q = 0 → 0 < out.length ∧ out.getD (out.length - 1) 0 ∈ fr
def numQ (up : UP) (q : Nat) : Int := if h : 0 < q ∧ q ≤ up.length then (up[q - 1]'(by omega)).1 else -1
theorem BackI.start {h : Nat} (hh : h < up.length) : BackI g fr al up h (h + 1) [] :=
  ⟨hh, hh, by simp, (fun x hx => by cases hx), fun i hi => absurd hi (by simp), fun _ k => absurd k (by simp), fun k => absurd k (by simp), fun _ => rfl, fun k => by cases k⟩
theorem getD_app1 {l : List Int} {x : Int} {i : Nat} (h : i < l.length) : (l ++ [x]).getD i 0 = l.getD i 0 := by
  rw [List.getD_eq_getElem?_getD, List.getElem?_append_left h, ← List.getD_eq_getElem?_getD]
theorem getD_app2 {l : List Int} {x : Int} : (l ++ [x]).getD l.length 0 = x := by
  rw [List.getD_eq_getElem?_getD, List.getElem?_append_right (Nat.le_refl _)]; simp
/-- one step back -/
theorem BackI.step (hC : WyC g fr al up) {h q : Nat} {out : List Int} (hI : BackI g fr al up h q out) (h0 : 0 < q) : ∃ q', q' < q ∧ (up[q - 1]'(by have := hI.hq; omega)).2 = numQ up q' ∧ BackI g fr al up h q' (out ++ [(up[q - 1]'(by have := hI.hq; omega)).1]) := by
  have hq := hI.hq
  have hql : q - 1 < up.length := by omega
  have hrg : 0 ≤ up[q - 1].1 ∧ up[q - 1].1 < g.length := hC.rg _ (List.mem_map.2 ⟨_, List.getElem_mem hql, rfl⟩)
  have hlen := hI.len
  have common : ∀ q' (hq' : q' < q), (∀ (h1 : 0 < q'), up[q - 1].1 ∈ g.getD (up[q' - 1]'(by omega)).1.toNat [] ∧ al up[q - 1].1.toNat = true) → (q' = 0 → up[q - 1].1 ∈ fr) → BackI g fr al up h q' (out ++ [up[q - 1].1]) := by
    intro q' hq' hn hf
    refine ⟨by omega, hI.hh, by simp; omega, fun x hx => ?_, fun i hi => ?_, fun h1 _ => ?_, fun _ => ?_, fun k => by simp at k, fun k => ⟨by simp, ?_⟩⟩
    · rcases List.mem_append.1 hx with hx | hx
      · exact hI.rg x hx
      · rw [List.mem_singleton] at hx; subst hx; exact hrg
    · simp at hi
      rw [getD_app1 (i := i) (by omega)]
      by_cases e : i + 1 < out.length
      · rw [getD_app1 (i := i + 1) e]; exact hI.rv i e
      · obtain e : i + 1 = out.length := by omega
        rw [e, getD_app2]
        have := hI.nx h0 (by omega)
        rw [show out.length - 1 = i by omega] at this
        exact this
    · rw [show (out ++ [up[q - 1].1]).length - 1 = out.length by simp, getD_app2]
      exact hn h1
    · by_cases e : 0 < out.length
      · rw [getD_app1 e]; exact hI.hd e
      · have e0 : out.length = 0 := by omega
        have hqh := hI.em e0
        have : (out ++ [up[q - 1].1]).getD 0 0 = up[q - 1].1 := by
          have := getD_app2 (l := out) (x := up[q - 1].1)
          rwa [e0] at this
        rw [this]
        congr 2
        omega
    · rw [show (out ++ [up[q - 1].1]).length - 1 = out.length by simp, getD_app2]
      exact hf k
  rcases hC.par (q - 1) hql with ⟨k1, k2⟩ | ⟨j, hj, k1, k2, k3, k4⟩
  · exact ⟨0, h0, by rw [k1]; unfold numQ; rw [dif_neg (by omega)], common 0 h0 (fun h1 => absurd h1 (by omega)) (fun _ => k2)⟩
  · refine ⟨j + 1, by omega, ?_, common (j + 1) (by omega) (fun _ => ⟨k3, k4⟩) (fun e => by cases e)⟩
    rw [k2]
    unfold numQ
    rw [dif_pos ⟨by omega, by omega⟩]
    rfl
/-- turned round it is a way -/
theorem BackI.done (hC : WyC g fr al up) {h : Nat} {out : List Int} (hI : BackI g fr al up h 0 out) (ht : to (up[h]'hI.hh).1.toNat = true) : WyOK g fr to al out.reverse := by
  have hlen := hI.len
  have hul := hC.len
  have hh := hI.hh
  have h0 := (hI.fn rfl).1
  have hget : ∀ i, i < out.length → out.reverse.getD i 0 = out.getD (out.length - 1 - i) 0 := fun i hi => by
    rw [List.getD_eq_getElem?_getD, List.getElem?_reverse hi, ← List.getD_eq_getElem?_getD]
  refine ⟨by simpa using h0, by rw [List.length_reverse]; omega, fun x hx => hI.rg x (List.mem_reverse.1 hx), ?_, fun i hi => ?_, ?_⟩
  · rw [hget 0 h0]; exact (hI.fn rfl).2
  · rw [List.length_reverse] at hi
    rw [hget _ hi, hget i (by omega)]
    have := hI.rv (out.length - 1 - (i + 1)) (by omega)
    rw [show out.length - 1 - (i + 1) + 1 = out.length - 1 - i by omega] at this
    exact this
  · rw [List.length_reverse, hget _ (by omega), show out.length - 1 - (out.length - 1) = 0 by omega, hI.hd h0]; exact ht
end
end Go.Proofs.Ytikigaeihdmcaaa

/-
  Ways through pairs: when one is found. Plain lists.
-/
set_option linter.unusedVariables false
set_option linter.unusedSimpArgs false
namespace Go.Proofs.Ytikigaeihdmcaaa

theorem idxOf_lt {ps : List Pr2} {p : Pr2} (h : p ∈ ps) : ps.idxOf p < ps.length := (idxOf_at h).1
/-- the search, so far -/
structure RunE (fit : Pr2 → Bool) (next : Pr2 → List Pr2) (start ps : List Pr2) (fr : List Int) (nx : List (List Int)) : Prop where
  nd : ps.Nodup
  ok : ∀ p ∈ ps, fit p = true
  sm : ∀ p ∈ start, fit p = true → p ∈ ps
  sn : ∀ i, i ∈ fr ↔ ∃ p ∈ start, fit p = true ∧ i = (ps.idxOf p : Int)
  le : nx.length ≤ ps.length
  nm : ∀ n, n < nx.length → ∀ q ∈ next (ps.getD n (0, 0)), fit q = true → q ∈ ps
  nn : ∀ n, n < nx.length → ∀ i, i ∈ nx.getD n [] ↔ ∃ q ∈ next (ps.getD n (0, 0)), fit q = true ∧ i = (ps.idxOf q : Int)
  rc : ∀ i : Nat, i < ps.length → (i : Int) ∈ fr ∨ ∃ m, m < i ∧ m < nx.length ∧ (i : Int) ∈ nx.getD m []
section
variable {fit : Pr2 → Bool} {next : Pr2 → List Pr2} {start ps : List Pr2} {fr : List Int} {nx : List (List Int)}
theorem RunE.step (h : RunE fit next start ps fr nx) (hn : nx.length < ps.length) :
    RunE fit next start (putF fit (next (ps.getD nx.length (0, 0))) ps []).1 fr (nx ++ [(putF fit (next (ps.getD nx.length (0, 0))) ps []).2]) := by
  generalize hr : next (ps.getD nx.length (0, 0)) = r
  have k := putF_law (fit := fit) r ps [] h.nd
  generalize putF fit r ps [] = q at *
  obtain ⟨t, ht⟩ := k.app
  have hin : ∀ p ∈ ps, p ∈ q.1 := fun p hp => by rw [ht]; exact List.mem_append_left _ hp
  have hix : ∀ p ∈ ps, q.1.idxOf p = ps.idxOf p := fun p hp => by rw [ht]; exact idxOf_left hp
  have hlen : q.1.length = ps.length + t.length := by rw [ht, List.length_append]
  have hget : ∀ n, n < ps.length → q.1.getD n (0, 0) = ps.getD n (0, 0) := fun n hn => by rw [ht]; exact getDP_left hn
  have hle := h.le
  refine ⟨k.nd, fun p hp => (k.new p hp).elim (h.ok p) (·.2), fun p hp hf => hin p (h.sm p hp hf), fun i => ?_, by rw [List.length_append]; simp; omega, fun n hn' x hx hf => ?_, fun n hn' i => ?_, fun i hi => ?_⟩
  · rw [h.sn]
    constructor
    · rintro ⟨p, h1, h2, h3⟩; exact ⟨p, h1, h2, by rw [hix p (h.sm p h1 h2)]; exact h3⟩
    · rintro ⟨p, h1, h2, h3⟩; exact ⟨p, h1, h2, by rw [← hix p (h.sm p h1 h2)]; exact h3⟩
  · simp at hn'
    rw [hget n (by omega)] at hx
    by_cases e : n < nx.length
    · exact hin x (h.nm n e x hx hf)
    · obtain rfl : n = nx.length := by omega
      rw [hr] at hx
      exact k.all x hx hf
  · simp at hn'
    rw [hget n (by omega)]
    by_cases e : n < nx.length
    · rw [getDP_left e, h.nn n e]
      constructor
      · rintro ⟨p, h1, h2, h3⟩; exact ⟨p, h1, h2, by rw [hix p (h.nm n e p h1 h2)]; exact h3⟩
      · rintro ⟨p, h1, h2, h3⟩; exact ⟨p, h1, h2, by rw [← hix p (h.nm n e p h1 h2)]; exact h3⟩
    · obtain rfl : n = nx.length := by omega
      rw [getDP_last, hr, k.num]
      exact ⟨fun h => h.resolve_left (fun h => by cases h), .inr⟩
  · by_cases e : i < ps.length
    · rcases h.rc i e with h1 | ⟨m, h1, h2, h3⟩
      · exact .inl h1
      · exact .inr ⟨m, h1, by simp; omega, by rw [getDP_left h2]; exact h3⟩
    · refine .inr ⟨nx.length, by omega, by simp, ?_⟩
      rw [getDP_last, k.num]
      have hm := List.getElem_mem hi
      have hnin : q.1[i] ∉ ps := fun hp => by
        have h1 := hix _ hp
        rw [k.nd.idxOf_getElem i hi] at h1
        have := idxOf_lt hp
        omega
      obtain ⟨h1, h2⟩ := (k.new _ hm).resolve_left hnin
      exact .inr ⟨_, h1, h2, by rw [k.nd.idxOf_getElem i hi]⟩
variable (h : RunE fit next start ps fr nx) (hl : nx.length = ps.length)
include h hl
theorem RunE.okG : okG nx := fun l hl' x hx => by
  obtain ⟨n, hn, rfl⟩ := List.mem_iff_getElem.1 hl'
  rw [← show nx.getD n [] = nx[n] by rw [List.getD_eq_getElem?_getD, List.getElem?_eq_getElem hn]; rfl] at hx
  obtain ⟨q, h1, h2, rfl⟩ := (h.nn n hn x).1 hx
  have := idxOf_lt (h.nm n hn q h1 h2)
  omega
end
/-- a way through pairs -/
structure PWay (fit : Pr2 → Bool) (next : Pr2 → List Pr2) (start : List Pr2) (Ss : List (Pr2 → Bool)) (r : Nat → Pr2) : Prop where
  first : r 0 ∈ start
  fits : ∀ i, fit (r i) = true
  step : ∀ i, r (i + 1) ∈ next (r i)
  fair : ∀ S ∈ Ss, ∀ i, ∃ j, i ≤ j ∧ S (r j) = true
section
variable {fit : Pr2 → Bool} {next : Pr2 → List Pr2} {start ps : List Pr2} {fr : List Int} {nx : List (List Int)} {Ss : List (Pr2 → Bool)} {part : List Int}
end
/-- a set closed under the edges that stay in a part has all of the part, or none -/
theorem part_closed {g : Graph} {part : List Int} (hg : okG g) (hp : PartsOK g part) {C : List Int} {c : Int} (hC : ∀ x ∈ C, ∀ k ∈ g.getD x.toNat [], part.getD k.toNat 0 = c → k ∈ C)
    {u v : Nat} (hu : u < g.length) (hv : v < g.length) (pu : part.getD u 0 = c) (pv : part.getD v 0 = c) (h : (u : Int) ∈ C) : (v : Int) ∈ C := by
  have hN : ∀ u v, Eg g u v → v < g.length := fun u v h => h.lt hg
  obtain ⟨h1, h2⟩ := (hp.same u v hu hv).1 (pu.trans pv.symm)
  rw [rch1 hg] at h1 h2
  obtain ⟨p, n, hw⟩ := h1
  have hin : ∀ i, i ≤ n → Rc (Eg g) u (p i) ∧ Rc (Eg g) (p i) v := fun i hi =>
    ⟨⟨p, i, hw.first, rfl, fun j hj => hw.step j (by omega)⟩, ⟨fun j => p (i + j), n - i, by simp, by rw [show i + (n - i) = n by omega]; exact hw.last, fun j hj => hw.step (i + j) (by omega)⟩⟩
  have hlt : ∀ i, i ≤ n → p i < g.length := fun i hi => Rc.lt hN hu (hin i hi).1
  have hpc : ∀ i, i ≤ n → part.getD (p i) 0 = c := fun i hi => by
    rw [← pu]
    refine ((hp.same (p i) u (hlt i hi) hu).2 ?_)
    rw [rch1 hg, rch1 hg]
    exact ⟨(hin i hi).2.trans h2, (hin i hi).1⟩
  have : ∀ i, i ≤ n → ((p i : Nat) : Int) ∈ C := fun i => by
    induction i with
    | zero => intro _; rw [hw.first]; exact h
    | succ i ih =>
      intro hi
      refine hC _ (ih (by omega)) _ ?_ (by rw [Int.toNat_natCast]; exact hpc _ hi)
      rw [Int.toNat_natCast]
      exact hw.step i (by omega)
  have h3 := this n (Nat.le_refl _)
  rwa [hw.last] at h3
theorem alB_only {part : List Int} {c : Int} (h0 : 0 ≤ c) {k : Nat} : alB part c k = true ↔ part.getD k 0 = c := by
  unfold alB
  simp
  omega
/-- a round through a part, so far -/
structure RoI (g : Graph) (part : List Int) (n : Nat) (seen : List (List Bool)) (out : List Int) : Prop where
  ne : 0 < out.length
  len : out.length ≤ 1 + seen.length * g.length
  rg : okL g.length out
  pt : ∀ x ∈ out, part.getD x.toNat 0 = part.getD n 0
  st : out.getD 0 0 = (n : Int)
  ed : ∀ i, i + 1 < out.length → out.getD (i + 1) 0 ∈ g.getD (out.getD i 0).toNat []
  all : ∀ S ∈ seen, ∃ x ∈ out, S.getD x.toNat false = true
/-- a round -/
structure RoOK (g : Graph) (n : Nat) (sets : List (List Bool)) (out : List Int) : Prop where
  ne : 0 < out.length
  len : out.length ≤ 1 + (sets.length + 1) * g.length
  rg : okL g.length out
  st : out.getD 0 0 = (n : Int)
  ed : ∀ i, i + 1 < out.length → out.getD (i + 1) 0 ∈ g.getD (out.getD i 0).toNat []
  cl : (n : Int) ∈ g.getD (out.getD (out.length - 1) 0).toNat []
  all : ∀ S ∈ sets, ∃ x ∈ out, S.getD x.toNat false = true
section
variable {g : Graph} {part : List Int} {n : Nat} {seen : List (List Bool)} {out : List Int}
theorem RoI.start (hn : n < g.length) : RoI g part n [] [(n : Int)] :=
  ⟨by simp, by simp, fun x hx => by rw [List.mem_singleton] at hx; subst hx; omega, fun x hx => by rw [List.mem_singleton] at hx; subst hx; simp, rfl, fun i hi => by simp at hi, fun S hS => by cases hS⟩
theorem RoI.skip (h : RoI g part n seen out) {S : List Bool} (hS : ∃ x ∈ out, S.getD x.toNat false = true) : RoI g part n (seen ++ [S]) out :=
  ⟨h.ne, by have := h.len; rw [List.length_append, Nat.add_mul]; omega, h.rg, h.pt, h.st, h.ed, fun S' hS' => by
    rcases List.mem_append.1 hS' with h1 | h1
    · exact h.all S' h1
    · rw [List.mem_singleton] at h1; subst h1; exact hS⟩
theorem getI_app1 {l k : List Int} {i : Nat} (h : i < l.length) : (l ++ k).getD i 0 = l.getD i 0 := getDP_left h
theorem getI_app2 {l k : List Int} {i : Nat} (h : l.length ≤ i) : (l ++ k).getD i 0 = k.getD (i - l.length) 0 := by
  rw [List.getD_eq_getElem?_getD, List.getElem?_append_right h, ← List.getD_eq_getElem?_getD]
theorem getI_drop1 {l : List Int} {i : Nat} : (l.drop 1).getD i 0 = l.getD (i + 1) 0 := by
  rw [List.getD_eq_getElem?_getD, List.getElem?_drop, ← List.getD_eq_getElem?_getD, Nat.add_comm]
theorem wy_pt {fr : List Int} {to : Nat → Bool} {c : Int} {l : List Int} (h0 : 0 ≤ c) (h : WyOK g fr to (alB part c) l) (hf : ∀ x ∈ fr, part.getD x.toNat 0 = c) : ∀ x ∈ l, part.getD x.toNat 0 = c := fun x hx => by
  obtain ⟨i, hi, rfl⟩ := List.mem_iff_getElem.1 hx
  have e : l[i] = l.getD i 0 := by rw [List.getD_eq_getElem?_getD, List.getElem?_eq_getElem hi]; rfl
  rw [e]
  cases i with
  | zero => exact hf _ h.st
  | succ i => exact (alB_only h0).1 (h.ed i hi).2
/-- on to the next set -/
theorem RoI.go (h : RoI g part n seen out) (h0 : 0 ≤ part.getD n 0) {S : List Bool} {l : List Int} (hl : WyOK g [out.getD (out.length - 1) 0] (fun k => S.getD k false) (alB part (part.getD n 0)) l) : RoI g part n (seen ++ [S]) (out ++ l.drop 1) := by
  have hne := h.ne
  have hln := hl.ne
  have hst : l.getD 0 0 = out.getD (out.length - 1) 0 := by simpa using hl.st
  have hom : out.getD (out.length - 1) 0 ∈ out := by rw [List.getD_eq_getElem?_getD, List.getElem?_eq_getElem (by omega)]; exact List.getElem_mem _
  have hlp := wy_pt h0 hl (fun x hx => by rw [List.mem_singleton] at hx; subst hx; exact h.pt _ hom)
  have hdl : (l.drop 1).length = l.length - 1 := List.length_drop
  refine ⟨by rw [List.length_append]; omega, ?_, fun x hx => ?_, fun x hx => ?_, by rw [getI_app1 hne]; exact h.st, fun i hi => ?_, fun S' hS' => ?_⟩
  · have := h.len; have := hl.len
    rw [List.length_append, List.length_append, List.length_drop, Nat.add_mul]; simp; omega
  · rcases List.mem_append.1 hx with hx | hx
    · exact h.rg x hx
    · exact hl.rg x (List.mem_of_mem_drop hx)
  · rcases List.mem_append.1 hx with hx | hx
    · exact h.pt x hx
    · exact hlp x (List.mem_of_mem_drop hx)
  · rw [List.length_append, hdl] at hi
    by_cases e : i + 1 < out.length
    · rw [getI_app1 e, getI_app1 (by omega)]; exact h.ed i e
    · rw [getI_app2 (i := i + 1) (by omega), getI_drop1]
      by_cases e2 : i < out.length
      · obtain rfl : i = out.length - 1 := by omega
        rw [getI_app1 e2, ← hst, show out.length - 1 + 1 - out.length + 1 = 0 + 1 by omega]
        exact (hl.ed 0 (by omega)).1
      · rw [getI_app2 (i := i) (by omega), getI_drop1, show i + 1 - out.length + 1 = (i - out.length + 1) + 1 by omega]
        exact (hl.ed _ (by omega)).1
  · rcases List.mem_append.1 hS' with h1 | h1
    · obtain ⟨x, hx, hs⟩ := h.all S' h1
      exact ⟨x, List.mem_append_left _ hx, hs⟩
    · rw [List.mem_singleton] at h1; subst h1
      by_cases e : l.length = 1
      · refine ⟨_, List.mem_append_left _ hom, ?_⟩
        have := hl.en
        rw [e] at this
        rw [← hst]; exact this
      · refine ⟨l.getD (l.length - 1) 0, List.mem_append_right _ ?_, hl.en⟩
        rw [List.mem_iff_getElem]
        refine ⟨l.length - 2, by omega, ?_⟩
        rw [List.getElem_drop, List.getD_eq_getElem?_getD, List.getElem?_eq_getElem (by omega)]
        simp only [Option.getD_some]
        congr 1
        omega
/-- back to the first -/
theorem RoI.close (h : RoI g part n seen out) {fr : List Int} {al : Nat → Bool} {l : List Int} (hf : ∀ x ∈ fr, x ∈ g.getD (out.getD (out.length - 1) 0).toNat []) (hl : WyOK g fr (fun k => decide (k = n)) al l) : RoOK g n seen (out ++ l.take (l.length - 1)) := by
  have hne := h.ne
  have hln := hl.ne
  have hst := hf _ hl.st
  have htl : (l.take (l.length - 1)).length = l.length - 1 := by rw [List.length_take]; omega
  have hgt : ∀ i, i < l.length - 1 → (l.take (l.length - 1)).getD i 0 = l.getD i 0 := fun i hi => by
    rw [List.getD_eq_getElem?_getD, List.getElem?_take_of_lt hi, ← List.getD_eq_getElem?_getD]
  have hen : l.getD (l.length - 1) 0 = (n : Int) := by
    have h1 := hl.en
    have h2 : 0 ≤ l.getD (l.length - 1) 0 := by
      rw [List.getD_eq_getElem?_getD, List.getElem?_eq_getElem (by omega)]
      exact (hl.rg _ (List.getElem_mem (by omega))).1
    simp only [decide_eq_true_eq] at h1
    omega
  refine ⟨by rw [List.length_append]; omega, ?_, fun x hx => ?_, by rw [getI_app1 hne]; exact h.st, fun i hi => ?_, ?_, fun S hS => ?_⟩
  · have := h.len; have := hl.len
    rw [List.length_append, htl, Nat.add_mul]; omega
  · rcases List.mem_append.1 hx with hx | hx
    · exact h.rg x hx
    · exact hl.rg x (List.mem_of_mem_take hx)
  · rw [List.length_append, htl] at hi
    by_cases e : i + 1 < out.length
    · rw [getI_app1 e, getI_app1 (by omega)]; exact h.ed i e
    · rw [getI_app2 (i := i + 1) (by omega), hgt _ (by omega)]
      by_cases e2 : i < out.length
      · obtain rfl : i = out.length - 1 := by omega
        rw [getI_app1 e2, show out.length - 1 + 1 - out.length = 0 by omega]
        exact hst
      · rw [getI_app2 (i := i) (by omega), hgt _ (by omega), show i + 1 - out.length = (i - out.length) + 1 by omega]
        exact (hl.ed _ (by omega)).1
  · rw [List.length_append, htl]
    by_cases e : l.length = 1
    · rw [getI_app1 (by omega), show out.length + (l.length - 1) - 1 = out.length - 1 by omega]
      rw [← hen, e]; exact hst
    · rw [getI_app2 (by omega), hgt _ (by omega), show out.length + (l.length - 1) - 1 - out.length = l.length - 2 by omega, ← hen]
      have := (hl.ed (l.length - 2) (by omega)).1
      rwa [show l.length - 2 + 1 = l.length - 1 by omega] at this
  · obtain ⟨x, hx, hs⟩ := h.all S hS
    exact ⟨x, List.mem_append_left _ hx, hs⟩
end
end Go.Proofs.Ytikigaeihdmcaaa

/-
  The least way to write a word that goes round: plain part.
-/
set_option linter.unusedVariables false
set_option linter.unusedSimpArgs false
namespace Go.Proofs.Ytikigaeihdmcaaa
open Go.RowKit

/-- d is a period from n on -/
def Per (L : Nat → Nat) (n d : Nat) : Prop := ∀ i, n ≤ i → L (i + d) = L i
theorem Per.mul {L : Nat → Nat} {n d : Nat} (h : Per L n d) : ∀ k, Per L n (k * d)
  | 0 => fun i _ => by simp
  | k + 1 => fun i hi => by
    rw [Nat.add_mul, Nat.one_mul, ← Nat.add_assoc, h _ (by omega)]
    exact Per.mul h k i hi
theorem Per.sub {L : Nat → Nat} {n p q : Nat} (hp : Per L n p) (hq : Per L n q) (h : p ≤ q) : Per L n (q - p) := by
  intro i hi
  rw [← hp (i + (q - p)) (by omega)]
  have : i + (q - p) + p = i + q := by omega
  rw [this]
  exact hq i hi
/-- the least eventual period -/
def Least (L : Nat → Nat) (p : Nat) : Prop := ∀ d m, 0 < d → Per L m d → p ≤ d

/-- two ways to write one word, both least, are one -/
structure LeastW (L : Nat → Nat) (s l : List Nat) : Prop where
  pos : 0 < l.length
  same : ∀ i, lat s l i = L i
  least : Least L l.length
  tight : ∀ h : 0 < s.length, s[s.length - 1]? ≠ l[l.length - 1]?
/- WHAT least COMPUTES -/
end Go.Proofs.Ytikigaeihdmcaaa

/-
  Package world: what Check, Good and Word compute; a path written otherwise. Plain part.
-/
set_option linter.unusedVariables false
set_option linter.unusedSimpArgs false
namespace Go.Proofs.Ytikigaeihdmcaaa
open Go.RowKit

def chkN (n : Nat) (l : List Int) : Bool := decide (l.length = 0) || oddB n l
def chkWd (st : List Int) (nx : List (List Int)) (k : Nat) (fr : List (List Int)) : Int :=
  if nx.length > 600 ∨ fr.length > 80 then 2 else if k ≠ nx.length ∨ oddB nx.length st = true then 1 else if nx.any (chkN nx.length) = true then 1 else if fr.any (oddB nx.length) = true then 1 else 0
theorem chkWd_ok {st : List Int} {nx : List (List Int)} {k : Nat} {fr : List (List Int)} (h : chkWd st nx k fr = 0) : nx.length ≤ 600 ∧ fr.length ≤ 80 ∧ k = nx.length ∧ okL nx.length st ∧ (∀ l ∈ nx, 0 < l.length ∧ okL nx.length l) ∧ ∀ l ∈ fr, okL nx.length l := by
  unfold chkWd at h
  split at h
  · cases h
  split at h
  · cases h
  split at h
  · cases h
  split at h
  · cases h
  rename_i h1 h2 h3 h4
  refine ⟨by omega, by omega, ?_, ?_, ?_, ?_⟩
  · by_cases e : k = nx.length
    · exact e
    · exact absurd (.inl e) h2
  · rw [← oddB_false]
    cases e : oddB nx.length st
    · rfl
    · exact absurd (.inr e) h2
  · intro l hl
    have h3 : nx.any (chkN nx.length) = false := by simpa using h3
    rw [List.any_eq_false] at h3
    have := h3 l hl
    simp only [chkN, Bool.or_eq_true, decide_eq_true_eq, not_or, Bool.not_eq_true] at this
    exact ⟨by omega, oddB_false.1 this.2⟩
  · intro l hl
    have h4 : fr.any (oddB nx.length) = false := by simpa using h4
    rw [List.any_eq_false] at h4
    exact oddB_false.1 (by simpa using h4 l hl)

def toPw (al l : List Int) (i : Nat) : Int := if i + 1 < al.length then al.getD (i + 1) 0 else l.getD 0 0
def stepB (nx : List (List Int)) (al l : List Int) (i : Nat) : Bool := (nx.getD (al.getD i 0).toNat []).contains (toPw al l i)
def goodB (st : List Int) (nx fr : List (List Int)) (al l : List Int) : Bool :=
  st.contains (al.getD 0 0) && (List.range al.length).all (stepB nx al l) && fr.all (fun f => f.any (fun x => l.contains x))
/- paths as words -/
/- words of paths -/
def labL (lb : List Nat) (l : List Int) : List Nat := l.map fun x => lb.getD x.toNat 0
end Go.Proofs.Ytikigaeihdmcaaa

/-
  Results that lie in a variable; slices that are read, later on; slices cut with their capacity. Over any program.
-/
set_option linter.unusedVariables false
set_option linter.unusedSimpArgs false
namespace Go.Proofs.Ytikigaeihdmcaaa
open Go.RowKit

theorem results_cell {fn : Func} {a : Nat} {t : TypeId} (h : fn.results = #[.cell a t]) (tmps : Array Value) (P : Program) (w : World) {p : Addr} {v : Value} (ha : tmps.getD a undef = .pointer (some p)) (hl : (loadVar t p).run P w = .ok v w) :
    (results fn tmps).run P w = .ok v w := by
  simp only [Array.getD_eq_getD_getElem?] at ha
  simp [results, h, ha, asAddr, hl]
theorem EX.retC {P : Program} {n : Nat} {σ : Sg} {w : World} {fn : Func} {a b : Nat} {t e : TypeId} {cells : List Value} {k : Nat} {R : Value → World → Prop} (hr : fn.results = #[.cell a t]) (ha : fnd σ a = some (.pointer (some ⟨b, 0, none⟩))) [hc : IsC P t k true] (hb : Blk w b e cells) (hk : lenL cells = k) (h : R (.agg cells.toArray) w) :
    EX (bodyPost P fn fun e w' => ∃ v, e = .returned v ∧ R v w') .ret n σ w := by
  unfold EX; intro ac hac
  refine bodyPost_ret (results_cell hr _ _ _ (hac.slot a _ ha) (v := .agg cells.toArray) ?_) hac.defers ⟨_, rfl, h⟩
  rw [lenL_eq] at hk
  have hld := run_loadCells_list (P := P) w ⟨b, 0, none⟩ cells (fun j u hu => by rw [WideShapes.add_plain, Nat.zero_add]; exact hb.cell hu)
  obtain ⟨i, dd, h1, h2, h3, h4⟩ := hc.ok
  have hagg : (isAgg t).run P w = .ok true w := by
    unfold isAgg
    rw [Sem.run_bind, run_underlying h3 w, ← h4]
    cases dd <;> rfl
  rw [hk] at hld
  simp [loadVar, hagg, sizeOf, typeInfo, h1, h2, hld]
theorem Sl.zero {α : Type} [Rep α] (w : World) (F : Nat → Prop) : Sl w F none 0 ([] : List α) := ⟨by simp, by simp [maxLen], fun _ => rfl, fun i hi => absurd hi (by simp)⟩
section
variable {P : Program} {Q : Exit → Act → World → Prop} {n : Nat} {σ : Sg} {w : World} {L rest : List Oper} {d : Nat} {ty : TypeId} {pos : String} {af : Array Edge} {g : Option (Nat × Bool)} {t e : TypeId} {α : Type} [Rep α] {F : Nat → Prop}
end
end Go.Proofs.Ytikigaeihdmcaaa

/-
  Package world: Check, Good, Word: walked.
-/
set_option linter.unusedVariables false
set_option linter.unusedSimpArgs false
namespace Go.Proofs.Ytikigaeihdmcaaa
open Go.RowKit

theorem wodd1 (n : Nat) (x : Int) (b : Nat) (w : World) (hb : Blk w b 3 [.int .i64 n]) :
    Rt Try.prog 64 [.int .i64 x, .pointer (some ⟨b, 0, none⟩)].toArray w fun v w' => v = .bool (decide (x < 0 ∨ x ≥ n)) ∧ w = w' := by
  refine Rt.enter2 Try.func64 Try.ntmps64 rfl rfl ?_
  (repeat (first | (apply WL.pure; rfl; rfl; rfl) | (apply WL.nil) | (apply EX.thenN) | (apply CW.seq) | (apply CW.region)))
  refine WL.look (s := 6) rfl (fun h => ?_) (fun h => ?_)
  · (repeat (first | (apply WL.pure; rfl; rfl; rfl) | (apply WL.nil) | (apply EX.thenN) | (apply WL.pass; rfl; rfl) | (apply CW.ret)))
    refine EX.ret1 rfl rfl ?_
    simp at h
    simp [h]
  · (repeat (first | (apply WL.pure; rfl; rfl; rfl) | (apply WL.nil) | (apply EX.thenN) | (apply WL.ld; rfl; rfl; rfl; assumption; rfl) | (apply CW.ret)))
    refine EX.ret1 rfl rfl ?_
    simp at h
    simp [Int.not_lt.2 h]
theorem wodd_ok (w0 : World) {lo : Option Addr} {lcap : Nat} {l : List Int} (n : Nat) (hl : Sl w0 (Old w0) lo lcap l) :
    Rt Try.prog 49 [.slice lo l.length lcap, .int .i64 n].toArray w0 fun v w' => v = .bool (oddB n l) ∧ Ext w0 w' := by
  refine Rt.enter2 Try.func49 Try.ntmps49 rfl rfl ?_
  (repeat (first | (apply CW.seq) | (apply CW.region)))
  refine WL.boxB rfl rfl rfl fun w1 hb hE => ?_
  (repeat (first | (apply WL.pure; rfl; rfl; rfl) | (apply WL.nil) | (apply EX.thenN) | (apply CW.seq) | (apply CW.region) | (apply WL.makeFunc; rfl; rfl; rfl; rfl)))
  refine WL.call rfl rfl rfl (containsFunc_int w1 (fun x => decide (x < 0 ∨ x ≥ n)) (hl.up hE) (fun w hw i h => ?_)) ?_
  · refine FnV.mk (Rt.mono (wodd1 n _ _ w (hb.ext hw)) ?_)
    rintro v w' ⟨rfl, rfl⟩
    exact ⟨rfl, Ext.refl _⟩
  · rintro v w' ⟨rfl, hB⟩
    (repeat (first | (apply WL.pure; rfl; rfl; rfl) | (apply WL.nil) | (apply EX.thenN) | (apply CW.ret)))
    exact EX.ret1 rfl rfl ⟨rfl, hE.trans hB⟩
abbrev worldV (a1 : Option Addr) (c1 : Nat) (a2 : Option Addr) (c2 : Nat) (a3 : Option Addr) (c3 : Nat) (a4 : Option Addr) (c4 : Nat) (n1 n2 n3 n4 : Nat) : Value := .agg [.slice a1 n1 c1, .slice a2 n2 c2, .slice a3 n3 c3, .slice a4 n4 c4].toArray
theorem wchk1 (w : World) {lo : Option Addr} {lcap : Nat} {l : List Int} (n : Nat) (b : Nat) (hb : Blk w b 3 [.int .i64 n]) (hl : Sl w (Old w) lo lcap l) :
    Rt Try.prog 50 [.slice lo l.length lcap, .pointer (some ⟨b, 0, none⟩)].toArray w fun v w' => v = .bool (oddB n l) ∧ Ext w w' := by
  refine Rt.enter2 Try.func50 Try.ntmps50 rfl rfl ?_
  (repeat (first | (apply WL.pure; rfl; rfl; rfl) | (apply WL.nil) | (apply EX.thenN) | (apply CW.seq) | (apply CW.region) | (apply WL.ld; rfl; rfl; rfl; assumption; rfl)))
  refine WL.call rfl rfl rfl (wodd_ok w n hl) ?_
  rintro _ w' ⟨rfl, hE⟩
  (repeat (first | (apply WL.pure; rfl; rfl; rfl) | (apply WL.nil) | (apply EX.thenN) | (apply CW.ret)))
  exact EX.ret1 rfl rfl ⟨rfl, hE⟩
theorem wCheck_ok (w0 : World) {a1 a2 a3 a4 : Option Addr} {c1 c2 c3 c4 k : Nat} {st : List Int} {nx fr : List (List Int)} (h1 : Sl w0 (Old w0) a1 c1 st) (h2 : Sl w0 (Old w0) a2 c2 nx) (hk : k ≤ 9223372036854775807) (h4 : Sl w0 (Old w0) a4 c4 fr) :
    Rt Try.prog 31 [worldV a1 c1 a2 c2 a3 c3 a4 c4 st.length nx.length k fr.length].toArray w0 fun v w' => v = .int .i64 (chkWd st nx k fr) ∧ Ext w0 w' := by
  have hm2 := h2.len63
  have hm4 := h4.len63
  refine Rt.enter1 Try.func31 Try.ntmps31 rfl rfl ?_
  (repeat (first | (apply CW.seq) | (apply CW.region)))
  refine WL.boxB rfl rfl rfl fun w1 hb hE1 => ?_
  (repeat (first | (apply WL.pure; rfl; rfl; rfl) | (apply WL.nil) | (apply EX.thenN) | (apply CW.seq) | (apply CW.region) | (apply WL.lenS; rfl; rfl; rfl) | (apply WL.fa; rfl; rfl; rfl) | (apply WL.ld; rfl; rfl; rfl; assumption; rfl)))
  refine WL.alloc rfl rfl (fun w2 hn hE2 => ?_)
  have hb2 := hb.ext hE2
  skip
  refine WL.st rfl rfl rfl hn rfl rfl (ones_of rfl) (fun w3 hn3 hg3 => ?_)
  have hb3 := hb2.kept hg3 (by simp; have := hb.lt; omega)
  have hE3 : Ext w0 w3 := (hE1.trans hE2).grown hg3 (Nat.le_trans hE1.size hE2.size) (fun g hg => by cases hg; exact hE1.size)
  clear hb hn hE1 hE2 hb2 hg3
  (repeat (first | (apply WL.pure; rfl; rfl; rfl) | (apply WL.nil) | (apply EX.thenN) | (apply CW.seq) | (apply CW.region) | (apply WL.ld; rfl; rfl; rfl; assumption; rfl)))
  (refine WL.lookG rfl rfl (fun h => ?_) (fun h => ?_))
  · (repeat (first | (apply WL.pure; rfl; rfl; rfl) | (apply WL.nil) | (apply EX.thenN) | (apply CW.seq) | (apply CW.region) | (apply WL.pass; rfl; rfl) | (apply CW.condT; rfl) | (apply CW.ret) | (apply EX.thenR)))
    refine EX.ret1 rfl rfl ⟨?_, hE3⟩
    have h : nx.length > 600 := by simp at h; omega
    unfold chkWd; rw [if_pos (.inl h)]
  have h : nx.length ≤ 600 := by simp at h; omega
  (repeat (first | (apply WL.pure; rfl; rfl; rfl) | (apply WL.nil) | (apply EX.thenN) | (apply WL.lenS; rfl; rfl; rfl) | (apply WL.fa; rfl; rfl; rfl) | (apply WL.ld; rfl; rfl; rfl; assumption; rfl)))
  refine CW.cond rfl (fun h5 => ?_) (fun h5 => ?_)
  · (repeat (first | (apply WL.pure; rfl; rfl; rfl) | (apply WL.nil) | (apply EX.thenN) | (apply CW.seq) | (apply CW.region) | (apply CW.ret) | (apply EX.thenR)))
    refine EX.ret1 rfl rfl ⟨?_, hE3⟩
    have h5 : fr.length > 80 := by simp at h5; omega
    unfold chkWd; rw [if_pos (.inr h5)]
  have h5 : fr.length ≤ 80 := by simp at h5; omega
  unfold chkWd
  rw [if_neg (by omega)]
  (repeat (first | (apply WL.pure; rfl; rfl; rfl) | (apply EX.thenN) | (apply CW.seq) | (apply CW.region) | (apply WL.lenS; rfl; rfl; rfl) | (apply WL.fa; rfl; rfl; rfl) | (apply WL.ld; rfl; rfl; rfl; assumption; rfl) | (apply CW.skip)))
  (refine WL.lookG rfl rfl (fun h => ?_) (fun h => ?_))
  · (repeat (first | (apply WL.pure; rfl; rfl; rfl) | (apply WL.nil) | (apply EX.thenN) | (apply CW.seq) | (apply CW.region) | (apply WL.pass; rfl; rfl) | (apply CW.condT; rfl) | (apply CW.ret) | (apply EX.thenR)))
    refine EX.ret1 rfl rfl ⟨?_, hE3⟩
    have h6 : k ≠ nx.length := by
      have : ¬ (k : Int) = (nx.length : Int) := by simp at h; omega
      omega
    rw [if_pos (.inl h6)]
  have h6 : k = nx.length := by
    have : (k : Int) = (nx.length : Int) := by simp at h; omega
    omega
  subst h6
  (repeat (first | (apply WL.fa; rfl; rfl; rfl) | (apply WL.ld; rfl; rfl; rfl; assumption; rfl)))
  refine WL.call rfl rfl rfl (wodd_ok w3 nx.length (h1.up hE3)) ?_
  rintro _ w4 ⟨rfl, e4⟩
  have hb4 := hb3.ext e4
  have hn4 := hn3.ext e4
  have hE4 := hE3.trans e4
  (repeat (first | (apply WL.pure; rfl; rfl; rfl) | (apply WL.nil) | (apply EX.thenN)))
  refine CW.cond rfl (fun h7 => ?_) (fun h7 => ?_)
  · (repeat (first | (apply WL.pure; rfl; rfl; rfl) | (apply WL.nil) | (apply EX.thenN) | (apply CW.seq) | (apply CW.region) | (apply CW.ret) | (apply EX.thenR)))
    refine EX.ret1 rfl rfl ⟨?_, hE4⟩
    rw [if_pos (.inr h7)]
  rw [if_neg (by rw [h7]; simp)]
  clear hb3 hn3 hE3 e4
  (repeat (first | (apply WL.pure; rfl; rfl; rfl) | (apply WL.nil) | (apply EX.thenN) | (apply CW.seq) | (apply CW.region) | (apply WL.lenS; rfl; rfl; rfl) | (apply WL.fa; rfl; rfl; rfl) | (apply WL.ld; rfl; rfl; rfl; assumption; rfl) | (apply CW.block) | (apply CW.skip)))
  refine CW.loop (S := Nat) (fun i => [(1, .pointer (some ⟨w0.heap.size, 0, none⟩)), (3, .pointer (some ⟨w1.heap.size, 0, none⟩)), (29, .slice a2 nx.length c2), (30, .int .i64 nx.length), (31, .int .i64 i)])
    (fun i w => i ≤ nx.length ∧ Ext w4 w ∧ ∀ j (h : j < nx.length), j < i → chkN nx.length nx[j] = false) (fun i => nx.length - i) 0 (by repeat (first | exact trivial | refine ⟨rfl, ?_⟩)) ⟨by omega, Ext.refl _, by omega⟩ ?_
  rintro i w5 ⟨hi, e5, hno⟩
  have hb5 := hb4.ext e5
  have hn5 := hn4.ext e5
  have hE5 := hE4.trans e5
  (repeat (first | (apply WL.pure; rfl; rfl; rfl) | (apply WL.nil) | (apply EX.thenN) | (apply CW.seq) | (apply CW.region)))
  refine CW.cond rfl (fun h8 => ?_) (fun h8 => ?_)
  · simp at h8
    (repeat (first | (apply EX.thenN) | (apply CW.seq) | (apply CW.region) | (apply CW.block) | (apply CW.skip)))
    refine WL.elemN rfl rfl rfl rfl rfl (h2.at hE5) h8 (fun _ => rfl) (fun u q hu => ?_)
    obtain ⟨lo, lc, rfl, hl⟩ := hu.sl
    (repeat (first | (apply WL.pure; rfl; rfl; rfl) | (apply WL.nil) | (apply EX.thenN) | (apply CW.seq) | (apply CW.region) | (apply WL.lenS; rfl; rfl; rfl)))
    (refine WL.lookG rfl rfl (fun h => ?_) (fun h => ?_))
    · (repeat (first | (apply WL.pure; rfl; rfl; rfl) | (apply WL.nil) | (apply EX.thenN) | (apply CW.seq) | (apply CW.region) | (apply WL.pass; rfl; rfl) | (apply CW.condT; rfl) | (apply CW.ret) | (apply EX.thenR) | (apply EX.inR)))
      refine EX.ret1 rfl rfl ⟨?_, hE5⟩
      have h9 : nx[i].length = 0 := by simp at h; simp [h]
      rw [if_pos (List.any_eq_true.2 ⟨nx[i], List.getElem_mem h8, by unfold chkN; simp only [Bool.or_eq_true, decide_eq_true_eq]; exact .inl h9⟩)]
    have h9 : nx[i].length ≠ 0 := by simp at h; simpa using h
    (repeat (first | (apply WL.pure; rfl; rfl; rfl) | (apply WL.ld; rfl; rfl; rfl; assumption; rfl)))
    refine WL.call rfl rfl rfl (wodd_ok w5 nx.length (hl.lift fun b hb => Nat.lt_of_lt_of_le hb hE5.size)) ?_
    rintro _ w6 ⟨rfl, e6⟩
    (repeat (first | (apply WL.pure; rfl; rfl; rfl) | (apply WL.nil) | (apply EX.thenN)))
    refine CW.cond rfl (fun ha => ?_) (fun ha => ?_)
    · (repeat (first | (apply WL.pure; rfl; rfl; rfl) | (apply WL.nil) | (apply EX.thenN) | (apply CW.seq) | (apply CW.region) | (apply CW.ret) | (apply EX.thenR) | (apply EX.inR)))
      refine EX.ret1 rfl rfl ⟨?_, hE5.trans e6⟩
      rw [if_pos (List.any_eq_true.2 ⟨nx[i], List.getElem_mem h8, by unfold chkN; rw [ha, Bool.or_true]⟩)]
    · (repeat (first | (apply WL.add; rfl; rfl; rfl; rfl; omega; omega) | (apply WL.pure; rfl; rfl; rfl) | (apply WL.nil) | (apply EX.thenN) | (apply CW.region) | (apply EX.inN) | (apply CW.skip)))
      refine EX.back (i + 1) (by repeat (first | exact trivial | refine ⟨rfl, ?_⟩)) ⟨h8, e5.trans e6, fun j hj hlt => ?_⟩ (by omega)
      by_cases e : j = i
      · subst e; unfold chkN; rw [ha, decide_eq_false h9]; rfl
      · exact hno j hj (by omega)
  simp at h8
  have hany : nx.any (chkN nx.length) = false := by
    rw [List.any_eq_false]
    intro l hl
    obtain ⟨j, hj, rfl⟩ := List.mem_iff_getElem.1 hl
    simp [hno j hj (by omega)]
  rw [if_neg (by rw [hany]; simp)]
  (repeat (first | (apply EX.thenN) | (apply CW.seq) | (apply CW.region) | (apply WL.makeFunc; rfl; rfl; rfl; rfl) | (apply WL.fa; rfl; rfl; rfl) | (apply WL.ld; rfl; rfl; rfl; assumption; rfl) | (apply CW.exit) | (apply EX.thenX) | (apply EX.inX)))
  refine WL.call rfl rfl rfl (containsFunc_ll w5 (oddB nx.length) (h4.up hE5) (fun w hw i hi u hu => ?_)) ?_
  · obtain ⟨lo, lc, rfl, hl⟩ := hu.sl
    exact FnV.mk (Rt.mono (wchk1 w nx.length _ (hn5.ext hw) (hl.lift fun b hb => Nat.lt_of_lt_of_le hb hw.size)) fun v w' h => h)
  rintro _ w6 ⟨rfl, e6⟩
  (repeat (first | (apply WL.nil) | (apply EX.thenN)))
  refine CW.cond rfl (fun ha => ?_) (fun ha => ?_)
  · (repeat (first | (apply WL.pure; rfl; rfl; rfl) | (apply WL.nil) | (apply EX.thenN) | (apply CW.seq) | (apply CW.region) | (apply CW.ret) | (apply EX.thenR)))
    refine EX.ret1 rfl rfl ⟨?_, hE5.trans e6⟩
    rw [if_pos ha]
  · (repeat (first | (apply WL.pure; rfl; rfl; rfl) | (apply WL.nil) | (apply EX.thenN) | (apply CW.seq) | (apply CW.region) | (apply CW.ret) | (apply CW.skip)))
    refine EX.ret1 rfl rfl ⟨?_, hE5.trans e6⟩
    rw [if_neg (by rw [ha]; simp)]
abbrev pathV (so : Option Addr) (sc : Nat) (lo : Option Addr) (lc : Nat) (s l : List Int) : Value := .agg [.slice so s.length sc, .slice lo l.length lc].toArray
abbrev LWorld := List Int × List (List Int) × List Nat × List (List Int)
theorem Rd.world {w : World} {F : Nat → Prop} {v : Value} {x : LWorld} (h : Rd w F v x) : ∃ a1 c1 a2 c2 a3 c3 a4 c4, v = worldV a1 c1 a2 c2 a3 c3 a4 c4 x.1.length x.2.1.length x.2.2.1.length x.2.2.2.length ∧ Sl w F a1 c1 x.1 ∧ Sl w F a2 c2 x.2.1 ∧ Sl w F a3 c3 x.2.2.1 ∧ Sl w F a4 c4 x.2.2.2 := by
  obtain ⟨c1, r1, rfl, h1, k1⟩ := h.pr
  obtain ⟨c2, r2, rfl, h2, k2⟩ := rd_pr k1
  obtain ⟨c3, r3, rfl, h3, h4⟩ := rd_pr k2
  obtain ⟨a1, d1, rfl, s1⟩ := rd_sl h1
  obtain ⟨a2, d2, rfl, s2⟩ := rd_sl h2
  obtain ⟨a3, d3, rfl, s3⟩ := rd_sl h3
  obtain ⟨a4, d4, rfl, s4⟩ := rd_sl h4
  exact ⟨a1, d1, a2, d2, a3, d3, a4, d4, rfl, s1, s2, s3, s4⟩
end Go.Proofs.Ytikigaeihdmcaaa

/-
  A list of lists while it is built row by row: plain lists.
-/
set_option linter.unusedVariables false
set_option linter.unusedSimpArgs false
namespace Go.Proofs.Ytikigaeihdmcaaa

def gridP {α : Type} (N : Nat) (full : Nat → List α) (x0 : Nat) (part : List α) : List (List α) := (List.range N).map fun x => if x < x0 then full x else if x = x0 then part else []
section
variable {α : Type} {N : Nat} {full : Nat → List α} {x0 : Nat} {part : List α}
theorem gridP_len : (gridP N full x0 part).length = N := by simp [gridP]
theorem gridP_start : gridP N full 0 [] = List.replicate N [] := by
  unfold gridP
  refine List.ext_getElem (by simp) fun i h1 h2 => ?_
  simp
theorem gridP_get (h : x0 < N) : (gridP N full x0 part)[x0]'(by rw [gridP_len]; exact h) = part := by simp [gridP]
theorem gridP_set {part' : List α} (h : x0 < N) : (gridP N full x0 part).set x0 part' = gridP N full x0 part' := by
  refine List.ext_getElem (by simp [gridP_len]) fun i h1 h2 => ?_
  rw [List.getElem_set]
  by_cases e : x0 = i
  · subst e; rw [if_pos rfl, gridP_get h]
  · rw [if_neg e]
    simp only [gridP, List.getElem_map, List.getElem_range]
    split
    · rfl
    · rw [if_neg (Ne.symm e), if_neg (Ne.symm e)]
theorem gridP_next : gridP N full x0 (full x0) = gridP N full (x0 + 1) [] := by
  unfold gridP
  refine List.ext_getElem (by simp) fun i h1 h2 => ?_
  simp only [List.getElem_map, List.getElem_range]
  by_cases h : i < x0
  · rw [if_pos h, if_pos (by omega)]
  · rw [if_neg h]
    by_cases e : i = x0
    · subst e; rw [if_pos rfl, if_pos (by omega)]
    · rw [if_neg e, if_neg (by omega)]
      split <;> rfl
theorem gridP_done : gridP N full N [] = (List.range N).map full := by
  unfold gridP
  refine List.ext_getElem (by simp) fun i h1 h2 => ?_
  simp only [List.getElem_map, List.getElem_range]
  rw [if_pos (by simpa using h1)]
end
end Go.Proofs.Ytikigaeihdmcaaa

/-
  A graph turned round: plain lists.
-/
set_option linter.unusedVariables false
set_option linter.unusedSimpArgs false
namespace Go.Proofs.Ytikigaeihdmcaaa
open Go.RowKit

theorem turnL_row {g : Graph} {m : Nat} (h : m < (turnL g).length) : (turnL g)[m] = ((List.range g.length).filter (fun k => (g.getD k []).contains (m : Int))).map (fun k : Nat => (k : Int)) := by
  have e : (turnL g)[m] = trow g g.length 0 m := turnP_get _
  rw [e]
  unfold trow
  simp
theorem rch_turn1 {g : Graph} {a b : Nat} (h : Rch (turnL g) [(a : Int)] b) : Rch g [(b : Int)] a := by
  induction h with
  | @base x hx =>
    have : x = (a : Int) := by simpa using hx
    subst this
    simpa using Rch.self a
  | @step m x _ hx ih =>
    by_cases hm : m < g.length
    · have hx0 : 0 ≤ x := ((okG_row (turnL_ok g) m) x hx).1
      obtain ⟨k, rfl⟩ := Int.eq_ofNat_of_zero_le hx0
      exact (Rch.edge ((turnL_mem hm).1 hx).2).trans ih
    · rw [List.getD_eq_getElem?_getD, List.getElem?_eq_none (by rw [turnL_len]; omega)] at hx
      simp at hx
theorem rch_turn2 {g : Graph} (hg : okG g) {a b : Nat} (h : Rch g [(b : Int)] a) : Rch (turnL g) [(a : Int)] b := by
  induction h with
  | @base x hx =>
    have : x = (b : Int) := by simpa using hx
    subst this
    simpa using Rch.self b
  | @step m x _ hx ih =>
    have hxr := okG_row hg m x hx
    obtain ⟨k, rfl⟩ := Int.eq_ofNat_of_zero_le hxr.1
    have hm : m < g.length := by
      apply Classical.byContradiction
      intro hm
      rw [List.getD_eq_getElem?_getD, List.getElem?_eq_none (by omega)] at hx
      simp at hx
    have : (m : Int) ∈ (turnL g).getD k [] := (turnL_mem (by omega)).2 ⟨hm, hx⟩
    exact (Rch.edge this).trans ih
theorem rch_turn {g : Graph} (hg : okG g) {a b : Nat} : Rch (turnL g) [(a : Int)] b ↔ Rch g [(b : Int)] a := ⟨rch_turn1, rch_turn2 hg⟩
theorem edges_le : ∀ (g : Graph) (c : Nat), (∀ l ∈ g, l.length ≤ c) → edges g ≤ g.length * c
  | [], c, _ => by simp [edges]
  | l :: g, c, h => by
    have h1 := edges_le g c (fun x hx => h x (by simp [hx]))
    have h2 := h l (by simp)
    simp only [edges, List.map_cons, List.sum_cons, List.length_cons] at h1 ⊢
    rw [Nat.add_mul, Nat.one_mul]
    omega
theorem edges_turn (g : Graph) : edges (turnL g) ≤ g.length * (g.length + 1) := by
  have h := edges_le (turnL g) (g.length + 1) (fun l hl => by
    obtain ⟨m, hm, rfl⟩ := List.mem_iff_getElem.1 hl
    have e : (turnL g)[m] = trow g g.length 0 m := turnP_get _
    rw [e]
    exact trow_len _ _ _ _)
  rwa [turnL_len] at h
end Go.Proofs.Ytikigaeihdmcaaa

