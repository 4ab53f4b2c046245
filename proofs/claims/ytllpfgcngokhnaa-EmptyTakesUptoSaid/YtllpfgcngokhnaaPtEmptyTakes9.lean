import Derived.Test.YtllpfgcngokhnaaPtEmptyTakes8
/-
  Ways through pairs: when one is found. Plain lists.
-/
set_option linter.unusedVariables false
set_option linter.unusedSimpArgs false
namespace Go.Proofs.Ytllpfgcngokhnaa

theorem idxOf_lt {ps : List Pr2} {p : Pr2} (h : p ∈ ps) : ps.idxOf p < ps.length := (idxOf_at h).1
/-- the search, so far -/
structure RunE (fit : Pr2 → Bool) (next : Pr2 → List Pr2) (start ps : List Pr2) (fr : List Int) (nx : List (List Int)) : Prop where
  nd : ps.Nodup
  ok : ∀ p ∈ ps, fit p = true
  sm : ∀ p ∈ start, fit p = true → p ∈ ps
  sn : ∀ i, i ∈ fr ↔ ∃ p ∈ start, fit p = true ∧ i = (ps.idxOf p : Int)
  le : nx.length ≤ ps.length
  nm : ∀ n, n < nx.length → ∀ q ∈ next (ps.getD n (0, 0)), fit q = true → q ∈ ps
  nn : ∀ n, n < nx.length → ∀ i, i ∈ nx.getD n [] ↔ ∃ q ∈ next (ps.getD n (0, 0)), fit q = true ∧ i = (ps.idxOf q : Int)
  rc : ∀ i : Nat, i < ps.length → (i : Int) ∈ fr ∨ ∃ m, m < i ∧ m < nx.length ∧ (i : Int) ∈ nx.getD m []
section
variable {fit : Pr2 → Bool} {next : Pr2 → List Pr2} {start ps : List Pr2} {fr : List Int} {nx : List (List Int)}
theorem RunE.init : RunE fit next start (putF fit start [] []).1 (putF fit start [] []).2 [] := by
  have k := putF_law (fit := fit) start [] [] List.Pairwise.nil
  have hnew : ∀ p ∈ (putF fit start [] []).1, p ∈ start ∧ fit p = true := fun p hp => (k.new p hp).resolve_left (fun h => by cases h)
  refine ⟨k.nd, fun p hp => (hnew p hp).2, k.all, fun i => ?_, Nat.zero_le _, fun n hn => absurd hn (by simp), fun n hn => absurd hn (by simp), fun i hi => .inl ?_⟩
  · rw [k.num]
    exact ⟨fun h => h.resolve_left (fun h => by cases h), .inr⟩
  · rw [k.num]
    have hm := List.getElem_mem hi
    exact .inr ⟨_, (hnew _ hm).1, (hnew _ hm).2, by rw [k.nd.idxOf_getElem i hi]⟩
theorem RunE.step (h : RunE fit next start ps fr nx) (hn : nx.length < ps.length) :
    RunE fit next start (putF fit (next (ps.getD nx.length (0, 0))) ps []).1 fr (nx ++ [(putF fit (next (ps.getD nx.length (0, 0))) ps []).2]) := by
  generalize hr : next (ps.getD nx.length (0, 0)) = r
  have k := putF_law (fit := fit) r ps [] h.nd
  generalize putF fit r ps [] = q at *
  obtain ⟨t, ht⟩ := k.app
  have hin : ∀ p ∈ ps, p ∈ q.1 := fun p hp => by rw [ht]; exact List.mem_append_left _ hp
  have hix : ∀ p ∈ ps, q.1.idxOf p = ps.idxOf p := fun p hp => by rw [ht]; exact idxOf_left hp
  have hlen : q.1.length = ps.length + t.length := by rw [ht, List.length_append]
  have hget : ∀ n, n < ps.length → q.1.getD n (0, 0) = ps.getD n (0, 0) := fun n hn => by rw [ht]; exact getDP_left hn
  have hle := h.le
  refine ⟨k.nd, fun p hp => (k.new p hp).elim (h.ok p) (·.2), fun p hp hf => hin p (h.sm p hp hf), fun i => ?_, by rw [List.length_append]; simp; omega, fun n hn' x hx hf => ?_, fun n hn' i => ?_, fun i hi => ?_⟩
  · rw [h.sn]
    constructor
    · rintro ⟨p, h1, h2, h3⟩; exact ⟨p, h1, h2, by rw [hix p (h.sm p h1 h2)]; exact h3⟩
    · rintro ⟨p, h1, h2, h3⟩; exact ⟨p, h1, h2, by rw [← hix p (h.sm p h1 h2)]; exact h3⟩
  · simp at hn'
    rw [hget n (by omega)] at hx
    by_cases e : n < nx.length
    · exact hin x (h.nm n e x hx hf)
    · obtain rfl : n = nx.length := by omega
      rw [hr] at hx
      exact k.all x hx hf
  · simp at hn'
    rw [hget n (by omega)]
    by_cases e : n < nx.length
    · rw [getDP_left e, h.nn n e]
      constructor
      · rintro ⟨p, h1, h2, h3⟩; exact ⟨p, h1, h2, by rw [hix p (h.nm n e p h1 h2)]; exact h3⟩
      · rintro ⟨p, h1, h2, h3⟩; exact ⟨p, h1, h2, by rw [← hix p (h.nm n e p h1 h2)]; exact h3⟩
    · obtain rfl : n = nx.length := by omega
      rw [getDP_last, hr, k.num]
      exact ⟨fun h => h.resolve_left (fun h => by cases h), .inr⟩
  · by_cases e : i < ps.length
    · rcases h.rc i e with h1 | ⟨m, h1, h2, h3⟩
      · exact .inl h1
      · exact .inr ⟨m, h1, by simp; omega, by rw [getDP_left h2]; exact h3⟩
    · refine .inr ⟨nx.length, by omega, by simp, ?_⟩
      rw [getDP_last, k.num]
      have hm := List.getElem_mem hi
      have hnin : q.1[i] ∉ ps := fun hp => by
        have h1 := hix _ hp
        rw [k.nd.idxOf_getElem i hi] at h1
        have := idxOf_lt hp
        omega
      obtain ⟨h1, h2⟩ := (k.new _ hm).resolve_left hnin
      exact .inr ⟨_, h1, h2, by rw [k.nd.idxOf_getElem i hi]⟩
variable (h : RunE fit next start ps fr nx) (hl : nx.length = ps.length)
include h hl
theorem RunE.okG : okG nx := fun l hl' x hx => by
  obtain ⟨n, hn, rfl⟩ := List.mem_iff_getElem.1 hl'
  rw [← show nx.getD n [] = nx[n] by rw [List.getD_eq_getElem?_getD, List.getElem?_eq_getElem hn]; rfl] at hx
  obtain ⟨q, h1, h2, rfl⟩ := (h.nn n hn x).1 hx
  have := idxOf_lt (h.nm n hn q h1 h2)
  omega
theorem RunE.okF : okL nx.length fr := fun x hx => by
  obtain ⟨q, h1, h2, rfl⟩ := (h.sn x).1 hx
  have := idxOf_lt (h.sm q h1 h2)
  omega
theorem RunE.reach : ∀ i : Nat, i < nx.length → ∃ a : Nat, (a : Int) ∈ fr ∧ Rc (Eg nx) a i := fun i => by
  induction i using Nat.strongRecOn with
  | ind i ih =>
    intro hi
    rcases h.rc i (by omega) with h1 | ⟨m, h1, h2, h3⟩
    · exact ⟨i, h1, Rc.refl i⟩
    · obtain ⟨a, ha, hr⟩ := ih m h1 h2
      exact ⟨a, ha, hr.trans (Rc.one h3)⟩
end
/-- a way through pairs -/
structure PWay (fit : Pr2 → Bool) (next : Pr2 → List Pr2) (start : List Pr2) (Ss : List (Pr2 → Bool)) (r : Nat → Pr2) : Prop where
  first : r 0 ∈ start
  fits : ∀ i, fit (r i) = true
  step : ∀ i, r (i + 1) ∈ next (r i)
  fair : ∀ S ∈ Ss, ∀ i, ∃ j, i ≤ j ∧ S (r j) = true
def setsL (Ss : List (Pr2 → Bool)) (ps : List Pr2) : List (List Bool) := Ss.map fun S => ps.map S
def GoodC (g : Graph) (part : List Int) (sets : List (List Bool)) (c : Int) : Prop :=
  (∃ u, u < g.length ∧ part.getD u 0 = c ∧ ∃ to ∈ g.getD u [], part.getD to.toNat 0 = c) ∧ ∀ S ∈ sets, ∃ x, x < g.length ∧ S.getD x false = true ∧ part.getD x 0 = c
abbrev setP' (sets : List (List Bool)) : List (Nat → Prop) := sets.map fun S x => S.getD x false = true
theorem good_core' {g : Graph} {part : List Int} {sets : List (List Bool)} (hg : okG g) (hp : PartsOK g part) {i : Nat} (hi : i < g.length) : Core (Eg g) (setP' sets) i ↔ GoodC g part sets (part.getD i 0) := by
  rw [core_part hg hp hi]
  unfold GoodC
  refine and_congr_right fun _ => ⟨fun h S hS => ?_, fun h P hP => ?_⟩
  · obtain ⟨x, h1, h2, h3⟩ := h _ (List.mem_map.2 ⟨S, hS, rfl⟩)
    exact ⟨x, h1, h2, h3⟩
  · obtain ⟨S, hS, rfl⟩ := List.mem_map.1 hP
    obtain ⟨x, h1, h2, h3⟩ := h S hS
    exact ⟨x, h1, h2, h3⟩
theorem setsL_get {S : Pr2 → Bool} {ps : List Pr2} {x : Nat} (hx : x < ps.length) : (ps.map S).getD x false = S (ps.getD x (0, 0)) := by
  rw [List.getD_eq_getElem?_getD, List.getElem?_map, List.getElem?_eq_getElem hx, List.getD_eq_getElem?_getD, List.getElem?_eq_getElem hx]; rfl
section
variable {fit : Pr2 → Bool} {next : Pr2 → List Pr2} {start ps : List Pr2} {fr : List Int} {nx : List (List Int)} {Ss : List (Pr2 → Bool)} {part : List Int}
theorem pway_in (h : RunE fit next start ps fr nx) (hl : nx.length = ps.length) {r : Nat → Pr2} (hr : PWay fit next start Ss r) : ∀ i, r i ∈ ps
  | 0 => h.sm _ hr.first (hr.fits 0)
  | i + 1 => by
    have h1 := pway_in h hl hr i
    have h2 := idxOf_at h1
    refine h.nm (ps.idxOf (r i)) (by omega) _ ?_ (hr.fits (i + 1))
    rw [h2.2]
    exact hr.step i
theorem pway_good (h : RunE fit next start ps fr nx) (hl : nx.length = ps.length) (hp : PartsOK nx part) :
    (∃ r, PWay fit next start Ss r) ↔ ∃ c : Int, 0 ≤ c ∧ c < nx.length ∧ GoodC nx part (setsL Ss ps) c := by
  have hg := h.okG hl
  constructor
  · rintro ⟨r, hr⟩
    have hin := pway_in h hl hr
    have h8 : Way8 (Eg nx) (setP' (setsL Ss ps)) (fun i => ps.idxOf (r i)) := by
      refine ⟨fun i => ?_, fun P hP i => ?_⟩
      · have h2 := idxOf_at (hin i)
        refine (h.nn (ps.idxOf (r i)) (by omega) _).2 ⟨r (i + 1), ?_, hr.fits _, rfl⟩
        rw [h2.2]; exact hr.step i
      · obtain ⟨L, hL, rfl⟩ := List.mem_map.1 hP
        obtain ⟨S, hS, rfl⟩ := List.mem_map.1 hL
        obtain ⟨j, h1, h2⟩ := hr.fair S hS i
        have h3 := idxOf_at (hin j)
        refine ⟨j, h1, ?_⟩
        show (ps.map S).getD (ps.idxOf (r j)) false = true
        rw [setsL_get h3.1, h3.2]; exact h2
    obtain ⟨v, _, hc, i, hi⟩ := way8_core (N := ps.length) (fun i => idxOf_lt (hin i)) h8
    have hv : v < nx.length := by have := idxOf_lt (hin i); omega
    exact ⟨part.getD v 0, hp.ge v (by rw [hp.len]; exact hv), hp.lt v (by rw [hp.len]; exact hv), (good_core' hg hp hv).1 hc⟩
  · rintro ⟨c, _, _, hc⟩
    obtain ⟨u, hu, huc, _⟩ := hc.1
    rw [← huc] at hc
    have hcore := (good_core' hg hp hu).2 hc
    obtain ⟨a, ha, hrc⟩ := h.reach hl u hu
    obtain ⟨r, hr0, hr⟩ := core_way8 hrc hcore
    have hlt : ∀ i, r i < nx.length := fun i => by
      cases i with
      | zero => rw [hr0]; have := h.okF hl _ ha; omega
      | succ i => exact (hr.1 i).lt hg
    refine ⟨fun i => ps.getD (r i) (0, 0), ?_, fun i => h.ok _ (getDP_mem (by have := hlt i; omega)), fun i => ?_, fun S hS i => ?_⟩
    · rw [hr0]
      obtain ⟨p, h1, h2, h3⟩ := (h.sn _).1 ha
      have h4 := idxOf_at (h.sm p h1 h2)
      rw [show a = ps.idxOf p by omega, h4.2]
      exact h1
    · obtain ⟨q, h1, h2, h3⟩ := (h.nn (r i) (hlt i) _).1 (hr.1 i)
      have h4 := idxOf_at (h.nm (r i) (hlt i) q h1 h2)
      rw [show r (i + 1) = ps.idxOf q by omega, h4.2]
      exact h1
    · obtain ⟨j, h1, h2⟩ := hr.2 _ (List.mem_map.2 ⟨ps.map S, List.mem_map.2 ⟨S, hS, rfl⟩, rfl⟩) i
      refine ⟨j, h1, ?_⟩
      rw [setsL_get (by have := hlt j; omega)] at h2
      exact h2
end
/-- a set closed under the edges that stay in a part has all of the part, or none -/
theorem part_closed {g : Graph} {part : List Int} (hg : okG g) (hp : PartsOK g part) {C : List Int} {c : Int} (hC : ∀ x ∈ C, ∀ k ∈ g.getD x.toNat [], part.getD k.toNat 0 = c → k ∈ C)
    {u v : Nat} (hu : u < g.length) (hv : v < g.length) (pu : part.getD u 0 = c) (pv : part.getD v 0 = c) (h : (u : Int) ∈ C) : (v : Int) ∈ C := by
  have hN : ∀ u v, Eg g u v → v < g.length := fun u v h => h.lt hg
  obtain ⟨h1, h2⟩ := (hp.same u v hu hv).1 (pu.trans pv.symm)
  rw [rch1 hg] at h1 h2
  obtain ⟨p, n, hw⟩ := h1
  have hin : ∀ i, i ≤ n → Rc (Eg g) u (p i) ∧ Rc (Eg g) (p i) v := fun i hi =>
    ⟨⟨p, i, hw.first, rfl, fun j hj => hw.step j (by omega)⟩, ⟨fun j => p (i + j), n - i, by simp, by rw [show i + (n - i) = n by omega]; exact hw.last, fun j hj => hw.step (i + j) (by omega)⟩⟩
  have hlt : ∀ i, i ≤ n → p i < g.length := fun i hi => Rc.lt hN hu (hin i hi).1
  have hpc : ∀ i, i ≤ n → part.getD (p i) 0 = c := fun i hi => by
    rw [← pu]
    refine ((hp.same (p i) u (hlt i hi) hu).2 ?_)
    rw [rch1 hg, rch1 hg]
    exact ⟨(hin i hi).2.trans h2, (hin i hi).1⟩
  have : ∀ i, i ≤ n → ((p i : Nat) : Int) ∈ C := fun i => by
    induction i with
    | zero => intro _; rw [hw.first]; exact h
    | succ i ih =>
      intro hi
      refine hC _ (ih (by omega)) _ ?_ (by rw [Int.toNat_natCast]; exact hpc _ hi)
      rw [Int.toNat_natCast]
      exact hw.step i (by omega)
  have h3 := this n (Nat.le_refl _)
  rwa [hw.last] at h3
theorem alB_only {part : List Int} {c : Int} (h0 : 0 ≤ c) {k : Nat} : alB part c k = true ↔ part.getD k 0 = c := by
  unfold alB
  simp
  omega
/-- within a part one comes to each set -/
theorem way_inPart {g : Graph} {part : List Int} (hg : okG g) (hp : PartsOK g part) {c : Int} (h0 : 0 ≤ c) {fr : List Int} {to : Nat → Bool} {u x : Nat} (hu : u < g.length) (hx : x < g.length) (pu : part.getD u 0 = c) (px : part.getD x 0 = c) (hf : (u : Int) ∈ fr) (ht : to x = true) :
    ¬ WyNo g fr to (alB part c) := by
  rintro ⟨C, h1, h2⟩
  have := part_closed hg hp (C := C) (c := c) (fun y hy k hk hkc => (h2 y hy).2 k hk ((alB_only h0).2 hkc)) hu hx pu px (h1 _ hf)
  have h3 := (h2 _ this).1
  rw [Int.toNat_natCast, ht] at h3
  cases h3
/-- from the first pairs one comes to each node -/
theorem way_any {g : Graph} {part fr : List Int} {to : Nat → Bool} {x a : Nat} (ha : (a : Int) ∈ fr) (hr : Rc (Eg g) a x) (ht : to x = true) : ¬ WyNo g fr to (alB part (-1)) := by
  rintro ⟨C, h1, h2⟩
  obtain ⟨p, n, hw⟩ := hr
  have : ∀ i, i ≤ n → ((p i : Nat) : Int) ∈ C := fun i => by
    induction i with
    | zero => intro _; rw [hw.first]; exact h1 _ ha
    | succ i ih =>
      intro hi
      exact (h2 _ (ih (by omega))).2 _ (by rw [Int.toNat_natCast]; exact hw.step i (by omega)) (by unfold alB; simp)
  have h3 := this n (Nat.le_refl _)
  rw [hw.last] at h3
  have h4 := (h2 _ h3).1
  rw [Int.toNat_natCast, ht] at h4
  cases h4
/-- a round through a part, so far -/
structure RoI (g : Graph) (part : List Int) (n : Nat) (seen : List (List Bool)) (out : List Int) : Prop where
  ne : 0 < out.length
  len : out.length ≤ 1 + seen.length * g.length
  rg : okL g.length out
  pt : ∀ x ∈ out, part.getD x.toNat 0 = part.getD n 0
  st : out.getD 0 0 = (n : Int)
  ed : ∀ i, i + 1 < out.length → out.getD (i + 1) 0 ∈ g.getD (out.getD i 0).toNat []
  all : ∀ S ∈ seen, ∃ x ∈ out, S.getD x.toNat false = true
/-- a round -/
structure RoOK (g : Graph) (n : Nat) (sets : List (List Bool)) (out : List Int) : Prop where
  ne : 0 < out.length
  len : out.length ≤ 1 + (sets.length + 1) * g.length
  rg : okL g.length out
  st : out.getD 0 0 = (n : Int)
  ed : ∀ i, i + 1 < out.length → out.getD (i + 1) 0 ∈ g.getD (out.getD i 0).toNat []
  cl : (n : Int) ∈ g.getD (out.getD (out.length - 1) 0).toNat []
  all : ∀ S ∈ sets, ∃ x ∈ out, S.getD x.toNat false = true
section
variable {g : Graph} {part : List Int} {n : Nat} {seen : List (List Bool)} {out : List Int}
theorem RoI.start (hn : n < g.length) : RoI g part n [] [(n : Int)] :=
  ⟨by simp, by simp, fun x hx => by rw [List.mem_singleton] at hx; subst hx; omega, fun x hx => by rw [List.mem_singleton] at hx; subst hx; simp, rfl, fun i hi => by simp at hi, fun S hS => by cases hS⟩
theorem RoI.skip (h : RoI g part n seen out) {S : List Bool} (hS : ∃ x ∈ out, S.getD x.toNat false = true) : RoI g part n (seen ++ [S]) out :=
  ⟨h.ne, by have := h.len; rw [List.length_append, Nat.add_mul]; omega, h.rg, h.pt, h.st, h.ed, fun S' hS' => by
    rcases List.mem_append.1 hS' with h1 | h1
    · exact h.all S' h1
    · rw [List.mem_singleton] at h1; subst h1; exact hS⟩
theorem getI_app1 {l k : List Int} {i : Nat} (h : i < l.length) : (l ++ k).getD i 0 = l.getD i 0 := getDP_left h
theorem getI_app2 {l k : List Int} {i : Nat} (h : l.length ≤ i) : (l ++ k).getD i 0 = k.getD (i - l.length) 0 := by
  rw [List.getD_eq_getElem?_getD, List.getElem?_append_right h, ← List.getD_eq_getElem?_getD]
theorem getI_drop1 {l : List Int} {i : Nat} : (l.drop 1).getD i 0 = l.getD (i + 1) 0 := by
  rw [List.getD_eq_getElem?_getD, List.getElem?_drop, ← List.getD_eq_getElem?_getD, Nat.add_comm]
theorem wy_pt {fr : List Int} {to : Nat → Bool} {c : Int} {l : List Int} (h0 : 0 ≤ c) (h : WyOK g fr to (alB part c) l) (hf : ∀ x ∈ fr, part.getD x.toNat 0 = c) : ∀ x ∈ l, part.getD x.toNat 0 = c := fun x hx => by
  obtain ⟨i, hi, rfl⟩ := List.mem_iff_getElem.1 hx
  have e : l[i] = l.getD i 0 := by rw [List.getD_eq_getElem?_getD, List.getElem?_eq_getElem hi]; rfl
  rw [e]
  cases i with
  | zero => exact hf _ h.st
  | succ i => exact (alB_only h0).1 (h.ed i hi).2
/-- on to the next set -/
theorem RoI.go (h : RoI g part n seen out) (h0 : 0 ≤ part.getD n 0) {S : List Bool} {l : List Int} (hl : WyOK g [out.getD (out.length - 1) 0] (fun k => S.getD k false) (alB part (part.getD n 0)) l) : RoI g part n (seen ++ [S]) (out ++ l.drop 1) := by
  have hne := h.ne
  have hln := hl.ne
  have hst : l.getD 0 0 = out.getD (out.length - 1) 0 := by simpa using hl.st
  have hom : out.getD (out.length - 1) 0 ∈ out := by rw [List.getD_eq_getElem?_getD, List.getElem?_eq_getElem (by omega)]; exact List.getElem_mem _
  have hlp := wy_pt h0 hl (fun x hx => by rw [List.mem_singleton] at hx; subst hx; exact h.pt _ hom)
  have hdl : (l.drop 1).length = l.length - 1 := List.length_drop
  refine ⟨by rw [List.length_append]; omega, ?_, fun x hx => ?_, fun x hx => ?_, by rw [getI_app1 hne]; exact h.st, fun i hi => ?_, fun S' hS' => ?_⟩
  · have := h.len; have := hl.len
    rw [List.length_append, List.length_append, List.length_drop, Nat.add_mul]; simp; omega
  · rcases List.mem_append.1 hx with hx | hx
    · exact h.rg x hx
    · exact hl.rg x (List.mem_of_mem_drop hx)
  · rcases List.mem_append.1 hx with hx | hx
    · exact h.pt x hx
    · exact hlp x (List.mem_of_mem_drop hx)
  · rw [List.length_append, hdl] at hi
    by_cases e : i + 1 < out.length
    · rw [getI_app1 e, getI_app1 (by omega)]; exact h.ed i e
    · rw [getI_app2 (i := i + 1) (by omega), getI_drop1]
      by_cases e2 : i < out.length
      · obtain rfl : i = out.length - 1 := by omega
        rw [getI_app1 e2, ← hst, show out.length - 1 + 1 - out.length + 1 = 0 + 1 by omega]
        exact (hl.ed 0 (by omega)).1
      · rw [getI_app2 (i := i) (by omega), getI_drop1, show i + 1 - out.length + 1 = (i - out.length + 1) + 1 by omega]
        exact (hl.ed _ (by omega)).1
  · rcases List.mem_append.1 hS' with h1 | h1
    · obtain ⟨x, hx, hs⟩ := h.all S' h1
      exact ⟨x, List.mem_append_left _ hx, hs⟩
    · rw [List.mem_singleton] at h1; subst h1
      by_cases e : l.length = 1
      · refine ⟨_, List.mem_append_left _ hom, ?_⟩
        have := hl.en
        rw [e] at this
        rw [← hst]; exact this
      · refine ⟨l.getD (l.length - 1) 0, List.mem_append_right _ ?_, hl.en⟩
        rw [List.mem_iff_getElem]
        refine ⟨l.length - 2, by omega, ?_⟩
        rw [List.getElem_drop, List.getD_eq_getElem?_getD, List.getElem?_eq_getElem (by omega)]
        simp only [Option.getD_some]
        congr 1
        omega
/-- back to the first -/
theorem RoI.close (h : RoI g part n seen out) {fr : List Int} {al : Nat → Bool} {l : List Int} (hf : ∀ x ∈ fr, x ∈ g.getD (out.getD (out.length - 1) 0).toNat []) (hl : WyOK g fr (fun k => decide (k = n)) al l) : RoOK g n seen (out ++ l.take (l.length - 1)) := by
  have hne := h.ne
  have hln := hl.ne
  have hst := hf _ hl.st
  have htl : (l.take (l.length - 1)).length = l.length - 1 := by rw [List.length_take]; omega
  have hgt : ∀ i, i < l.length - 1 → (l.take (l.length - 1)).getD i 0 = l.getD i 0 := fun i hi => by
    rw [List.getD_eq_getElem?_getD, List.getElem?_take_of_lt hi, ← List.getD_eq_getElem?_getD]
  have hen : l.getD (l.length - 1) 0 = (n : Int) := by
    have h1 := hl.en
    have h2 : 0 ≤ l.getD (l.length - 1) 0 := by
      rw [List.getD_eq_getElem?_getD, List.getElem?_eq_getElem (by omega)]
      exact (hl.rg _ (List.getElem_mem (by omega))).1
    simp only [decide_eq_true_eq] at h1
    omega
  refine ⟨by rw [List.length_append]; omega, ?_, fun x hx => ?_, by rw [getI_app1 hne]; exact h.st, fun i hi => ?_, ?_, fun S hS => ?_⟩
  · have := h.len; have := hl.len
    rw [List.length_append, htl, Nat.add_mul]; omega
  · rcases List.mem_append.1 hx with hx | hx
    · exact h.rg x hx
    · exact hl.rg x (List.mem_of_mem_take hx)
  · rw [List.length_append, htl] at hi
    by_cases e : i + 1 < out.length
    · rw [getI_app1 e, getI_app1 (by omega)]; exact h.ed i e
    · rw [getI_app2 (i := i + 1) (by omega), hgt _ (by omega)]
      by_cases e2 : i < out.length
      · obtain rfl : i = out.length - 1 := by omega
        rw [getI_app1 e2, show out.length - 1 + 1 - out.length = 0 by omega]
        exact hst
      · rw [getI_app2 (i := i) (by omega), hgt _ (by omega), show i + 1 - out.length = (i - out.length) + 1 by omega]
        exact (hl.ed _ (by omega)).1
  · rw [List.length_append, htl]
    by_cases e : l.length = 1
    · rw [getI_app1 (by omega), show out.length + (l.length - 1) - 1 = out.length - 1 by omega]
      rw [← hen, e]; exact hst
    · rw [getI_app2 (by omega), hgt _ (by omega), show out.length + (l.length - 1) - 1 - out.length = l.length - 2 by omega, ← hen]
      have := (hl.ed (l.length - 2) (by omega)).1
      rwa [show l.length - 2 + 1 = l.length - 1 by omega] at this
  · obtain ⟨x, hx, hs⟩ := h.all S hS
    exact ⟨x, List.mem_append_left _ hx, hs⟩
end
end Go.Proofs.Ytllpfgcngokhnaa
/-
  The least way to write a word that goes round: plain part.
-/
set_option linter.unusedVariables false
set_option linter.unusedSimpArgs false
namespace Go.Proofs.Ytllpfgcngokhnaa
open Go.RowKit

/-- d is a period from n on -/
def Per (L : Nat → Nat) (n d : Nat) : Prop := ∀ i, n ≤ i → L (i + d) = L i
theorem Per.later {L : Nat → Nat} {n m d : Nat} (h : Per L n d) (hm : n ≤ m) : Per L m d := fun i hi => h i (by omega)
theorem Per.mul {L : Nat → Nat} {n d : Nat} (h : Per L n d) : ∀ k, Per L n (k * d)
  | 0 => fun i _ => by simp
  | k + 1 => fun i hi => by
    rw [Nat.add_mul, Nat.one_mul, ← Nat.add_assoc, h _ (by omega)]
    exact Per.mul h k i hi
theorem Per.sub {L : Nat → Nat} {n p q : Nat} (hp : Per L n p) (hq : Per L n q) (h : p ≤ q) : Per L n (q - p) := by
  intro i hi
  rw [← hp (i + (q - p)) (by omega)]
  have : i + (q - p) + p = i + q := by omega
  rw [this]
  exact hq i hi
theorem Per.gcd {L : Nat → Nat} {n : Nat} : ∀ (k p q : Nat), p + q ≤ k → Per L n p → Per L n q → Per L n (Nat.gcd p q)
  | 0, p, q, hk, hp, hq => by
    have e1 : p = 0 := by omega
    have e2 : q = 0 := by omega
    subst e1 e2
    exact hp
  | k + 1, p, q, hk, hp, hq => by
    by_cases hp0 : p = 0
    · subst hp0; rw [Nat.gcd_zero_left]; exact hq
    by_cases hq0 : q = 0
    · subst hq0; rw [Nat.gcd_zero_right]; exact hp
    by_cases h : p ≤ q
    · have := Per.gcd k p (q - p) (by omega) hp (hp.sub hq h)
      rwa [Nat.gcd_sub_self_right h] at this
    · have := Per.gcd k (p - q) q (by omega) (hq.sub hp (by omega)) hq
      rwa [Nat.gcd_sub_self_left (by omega)] at this
/-- an eventual period is one from where the word goes round on -/
theorem Per.early {L : Nat → Nat} {n m p d : Nat} (hp : Per L n p) (h0 : 0 < p) (hd : Per L m d) : Per L n d := by
  intro i hi
  have h1 := hp.mul m (i + d) (by omega)
  have h2 := hp.mul m i hi
  have hm : m ≤ m * p := Nat.le_mul_of_pos_right m h0
  have h3 := hd (i + m * p) (by omega)
  have e : i + m * p + d = i + d + m * p := by omega
  rw [e, h1, h2] at h3
  exact h3
/-- the least eventual period -/
def Least (L : Nat → Nat) (p : Nat) : Prop := ∀ d m, 0 < d → Per L m d → p ≤ d

theorem lat_perP {s l : List Nat} (h0 : 0 < l.length) : Per (lat s l) s.length l.length := by
  intro i hi
  unfold lat
  rw [if_neg (by omega), if_neg (by omega)]
  congr 1
  have : i + l.length - s.length = (i - s.length) + l.length := by omega
  rw [this, Nat.add_mod_right]
theorem lat_loopP {s l : List Nat} {j : Nat} (h : j < l.length) : lat s l (s.length + j) = l.getD j 0 := by
  unfold lat
  rw [if_neg (by omega)]
  congr 1
  rw [Nat.add_sub_cancel_left, Nat.mod_eq_of_lt h]
/-- two ways to write one word, both least, are one -/
structure LeastW (L : Nat → Nat) (s l : List Nat) : Prop where
  pos : 0 < l.length
  same : ∀ i, lat s l i = L i
  least : Least L l.length
  tight : ∀ h : 0 < s.length, s[s.length - 1]? ≠ l[l.length - 1]?
theorem leastW_len {L : Nat → Nat} {s l t m : List Nat} (h : LeastW L s l) (k : LeastW L t m) : l.length = m.length := by
  have h1 : Per L s.length l.length := fun i hi => by rw [← h.same, ← h.same]; exact lat_perP h.pos i hi
  have h2 : Per L t.length m.length := fun i hi => by rw [← k.same, ← k.same]; exact lat_perP k.pos i hi
  have a := h.least m.length t.length k.pos h2
  have b := k.least l.length s.length h.pos h1
  omega
theorem leastW_stem {L : Nat → Nat} {s l t m : List Nat} (h : LeastW L s l) (k : LeastW L t m) : t.length ≤ s.length := by
  apply Classical.byContradiction
  intro hlt
  have hl := leastW_len h k
  have hp := h.pos
  have ht : 0 < t.length := by omega
  apply k.tight ht
  have h1 : Per L s.length l.length := fun i hi => by rw [← h.same, ← h.same]; exact lat_perP h.pos i hi
  have e1 := h1 (t.length - 1) (by omega)
  have e2 : lat t m (t.length - 1) = t.getD (t.length - 1) 0 := by unfold lat; rw [if_pos (by omega)]
  have e3 : lat t m (t.length + (m.length - 1)) = m.getD (m.length - 1) 0 := lat_loopP (by omega)
  rw [← k.same, ← k.same, e2, show t.length - 1 + l.length = t.length + (m.length - 1) by omega, e3] at e1
  rw [List.getD_eq_getElem?_getD, List.getD_eq_getElem?_getD, List.getElem?_eq_getElem (by omega), List.getElem?_eq_getElem (by omega)] at e1
  rw [List.getElem?_eq_getElem (by omega), List.getElem?_eq_getElem (by omega)]
  simp only [Option.getD_some] at e1
  rw [e1]
theorem leastW_eq {L : Nat → Nat} {s l t m : List Nat} (h : LeastW L s l) (k : LeastW L t m) : s = t ∧ l = m := by
  have hl := leastW_len h k
  have hs : s.length = t.length := Nat.le_antisymm (leastW_stem k h) (leastW_stem h k)
  constructor
  · apply List.ext_getElem hs
    intro i h1 h2
    have e1 := h.same i
    have e2 := k.same i
    unfold lat at e1 e2
    rw [if_pos h1] at e1
    rw [if_pos h2] at e2
    rw [← e2] at e1
    rw [List.getD_eq_getElem?_getD, List.getD_eq_getElem?_getD, List.getElem?_eq_getElem h1, List.getElem?_eq_getElem h2] at e1
    exact e1
  · apply List.ext_getElem hl
    intro i h1 h2
    have e1 := h.same (s.length + i)
    have e2 := k.same (t.length + i)
    rw [lat_loopP h1] at e1
    rw [lat_loopP h2, ← hs] at e2
    rw [← e2] at e1
    rw [List.getD_eq_getElem?_getD, List.getD_eq_getElem?_getD, List.getElem?_eq_getElem h1, List.getElem?_eq_getElem h2] at e1
    exact e1

/- WHAT least COMPUTES -/
def turnsB (l : List Nat) (n : Nat) : Bool := (List.range l.length).all fun i => decide (i < n) || (l.getD i 0 == l.getD (i - n) 0)
/-- the first n from k on that fits -/
def perGo (l : List Nat) : Nat → Nat → List Nat
  | 0, _ => l
  | f + 1, n => if l.length % n = 0 ∧ turnsB l n = true then l.take n else perGo l f (n + 1)
def perL (l : List Nat) : List Nat := perGo l l.length 1
def rollGo : Nat → List Nat → List Nat → List Nat × List Nat
  | 0, s, l => (s, l)
  | f + 1, s, l => if 0 < s.length ∧ s.getD (s.length - 1) 0 = l.getD (l.length - 1) 0 then rollGo f (s.take (s.length - 1)) (l.getD (l.length - 1) 0 :: l.take (l.length - 1)) else (s, l)
def leastL (s l : List Nat) : List Nat × List Nat := rollGo s.length s (perL l)

theorem turns_per {s l : List Nat} {n : Nat} (hn : 0 < n) (hd : l.length % n = 0) (h0 : 0 < l.length) : turnsB l n = true ↔ Per (lat s l) s.length n := by
  have hnl : n ≤ l.length := Nat.le_of_dvd h0 (Nat.dvd_of_mod_eq_zero hd)
  constructor
  · intro h i hi
    unfold turnsB at h
    rw [List.all_eq_true] at h
    have hget : ∀ j, j < l.length → n ≤ j → l.getD j 0 = l.getD (j - n) 0 := by
      intro j hj hnj
      have := h j (List.mem_range.2 hj)
      simp only [Bool.or_eq_true, decide_eq_true_eq, beq_iff_eq] at this
      rcases this with h1 | h1
      · omega
      · exact h1
    -- by steps of n: a letter is that at the place's rest by n
    have hrest : ∀ j, j < l.length → l.getD j 0 = l.getD (j % n) 0 := by
      intro j
      induction j using Nat.strongRecOn with
      | _ j ih =>
        intro hj
        by_cases hjn : j < n
        · rw [Nat.mod_eq_of_lt hjn]
        · rw [hget j hj (by omega), ih (j - n) (by omega) (by omega), ← Nat.mod_eq_sub_mod (by omega)]
    unfold lat
    rw [if_neg (by omega), if_neg (by omega)]
    have hm1 : (i + n - s.length) % l.length < l.length := Nat.mod_lt _ h0
    have hm2 : (i - s.length) % l.length < l.length := Nat.mod_lt _ h0
    rw [hrest _ hm1, hrest _ hm2]
    congr 1
    have hdv : n ∣ l.length := Nat.dvd_of_mod_eq_zero hd
    rw [Nat.mod_mod_of_dvd _ hdv, Nat.mod_mod_of_dvd _ hdv]
    rw [show i + n - s.length = (i - s.length) + n by omega, Nat.add_mod_right]
  · intro h
    unfold turnsB
    rw [List.all_eq_true]
    intro i hi
    rw [List.mem_range] at hi
    simp only [Bool.or_eq_true, decide_eq_true_eq, beq_iff_eq]
    by_cases hin : i < n
    · exact .inl hin
    · right
      have := h (s.length + (i - n)) (by omega)
      rw [show s.length + (i - n) + n = s.length + i by omega, lat_loopP hi, lat_loopP (by omega)] at this
      exact this
theorem perGo_spec {s l : List Nat} (h0 : 0 < l.length) : ∀ (f n : Nat), 0 < n → n + f = l.length + 1 → (∀ d, 0 < d → d < n → ¬ (l.length % d = 0 ∧ turnsB l d = true)) →
    0 < (perGo l f n).length ∧ (∀ i, lat s (perGo l f n) i = lat s l i) ∧ Least (lat s l) (perGo l f n).length ∧ (perGo l f n).length ≤ l.length
  | 0, n, hn, hf, hno => by
    exfalso
    refine hno l.length h0 (by omega) ⟨Nat.mod_self _, ?_⟩
    rw [turns_per (s := s) h0 (Nat.mod_self _) h0]
    exact lat_perP h0
  | f + 1, n, hn, hf, hno => by
    by_cases hc : l.length % n = 0 ∧ turnsB l n = true
    · have e : perGo l (f + 1) n = l.take n := by rw [perGo, if_pos hc]
      have hper := (turns_per (s := s) hn hc.1 h0).1 hc.2
      have hdv : n ∣ l.length := Nat.dvd_of_mod_eq_zero hc.1
      have hnl : n ≤ l.length := Nat.le_of_dvd h0 hdv
      have hlen : (l.take n).length = n := by rw [List.length_take]; omega
      rw [e, hlen]
      refine ⟨hn, fun i => ?_, fun d m hd hm => ?_, hnl⟩
      · by_cases his : i < s.length
        · unfold lat; rw [if_pos his, if_pos his]
        · have hrest : ∀ q j, lat s l (s.length + (q * n + j)) = lat s l (s.length + j) := by
            intro q j
            have := hper.mul q (s.length + j) (by omega)
            rw [← this]; congr 1; omega
          have hlt : (i - s.length) % n < n := Nat.mod_lt _ hn
          have h1 : lat s (l.take n) i = (l.take n).getD ((i - s.length) % n) 0 := by unfold lat; rw [if_neg his, hlen]
          have h2 := hrest ((i - s.length) / n) ((i - s.length) % n)
          have hdm : (i - s.length) / n * n + (i - s.length) % n = i - s.length := by rw [Nat.mul_comm]; exact Nat.div_add_mod _ _
          rw [hdm, show s.length + (i - s.length) = i by omega, lat_loopP (by omega)] at h2
          rw [h1, h2, List.getD_eq_getElem?_getD, List.getElem?_take_of_lt hlt, ← List.getD_eq_getElem?_getD]
      · have hd' : Per (lat s l) s.length d := (lat_perP h0).early h0 hm
        have hg := Per.gcd _ d n (Nat.le_refl _) hd' hper
        have hgpos : 0 < Nat.gcd d n := Nat.gcd_pos_of_pos_left _ hd
        have hgl : l.length % Nat.gcd d n = 0 := Nat.mod_eq_zero_of_dvd (Nat.dvd_trans (Nat.gcd_dvd_right d n) hdv)
        have hgn : Nat.gcd d n ≤ n := Nat.le_of_dvd hn (Nat.gcd_dvd_right d n)
        have hgd : Nat.gcd d n ≤ d := Nat.le_of_dvd hd (Nat.gcd_dvd_left d n)
        have := hno (Nat.gcd d n) hgpos
        by_cases hlt : Nat.gcd d n < n
        · exact absurd ⟨hgl, (turns_per (s := s) hgpos hgl h0).2 hg⟩ (this hlt)
        · omega
    · have e : perGo l (f + 1) n = perGo l f (n + 1) := by rw [perGo, if_neg hc]
      rw [e]
      refine perGo_spec h0 f (n + 1) (by omega) (by omega) (fun d hd hdn => ?_)
      by_cases hde : d = n
      · subst hde; exact hc
      · exact hno d hd (by omega)
theorem lat_roll {s l : List Nat} (hs : 0 < s.length) (hl : 0 < l.length) (he : s.getD (s.length - 1) 0 = l.getD (l.length - 1) 0) (i : Nat) : lat (s.take (s.length - 1)) (l.getD (l.length - 1) 0 :: l.take (l.length - 1)) i = lat s l i := by
  have hls : (s.take (s.length - 1)).length = s.length - 1 := by rw [List.length_take]; omega
  have hll : (l.getD (l.length - 1) 0 :: l.take (l.length - 1)).length = l.length := by rw [List.length_cons, List.length_take]; omega
  unfold lat
  rw [hls, hll]
  by_cases h1 : i < s.length - 1
  · rw [if_pos h1, if_pos (by omega), List.getD_eq_getElem?_getD, List.getElem?_take_of_lt h1, ← List.getD_eq_getElem?_getD]
  · rw [if_neg h1]
    have hget : ∀ j, j < l.length → (l.getD (l.length - 1) 0 :: l.take (l.length - 1)).getD j 0 = if j = 0 then l.getD (l.length - 1) 0 else l.getD (j - 1) 0 := by
      intro j hj
      cases j with
      | zero => rfl
      | succ j =>
        rw [if_neg (by omega), List.getD_eq_getElem?_getD, List.getElem?_cons_succ, List.getElem?_take_of_lt (by omega), ← List.getD_eq_getElem?_getD]
        rfl
    by_cases h2 : i < s.length
    · have : i = s.length - 1 := by omega
      subst this
      rw [if_pos h2, Nat.sub_self, Nat.zero_mod, hget 0 hl, if_pos rfl, he]
    · rw [if_neg h2, hget _ (Nat.mod_lt _ hl)]
      have e : i - (s.length - 1) = (i - s.length) + 1 := by omega
      rw [e]
      have hm := Nat.mod_lt (i - s.length) hl
      rw [Nat.add_mod]
      by_cases h3 : (i - s.length) % l.length = l.length - 1
      · rw [h3]
        by_cases h1l : l.length = 1
        · rw [h1l]; simp
        · have : (l.length - 1 + 1 % l.length) % l.length = 0 := by rw [Nat.mod_eq_of_lt (show 1 < l.length by omega), show l.length - 1 + 1 = l.length by omega, Nat.mod_self]
          rw [this, if_pos rfl]
      · have h1l : 1 < l.length := by omega
        rw [Nat.mod_eq_of_lt h1l, Nat.mod_eq_of_lt (by omega), if_neg (by omega)]
        rfl
theorem rollGo_spec {L : Nat → Nat} : ∀ (f : Nat) (s l : List Nat), s.length ≤ f → 0 < l.length → (∀ i, lat s l i = L i) → Least L l.length → LeastW L (rollGo f s l).1 (rollGo f s l).2
  | 0, s, l, hf, h0, hs, hl => ⟨h0, hs, hl, fun h => by have h : 0 < s.length := h; omega⟩
  | f + 1, s, l, hf, h0, hs, hl => by
    by_cases hc : 0 < s.length ∧ s.getD (s.length - 1) 0 = l.getD (l.length - 1) 0
    · rw [rollGo, if_pos hc]
      have hll : (l.getD (l.length - 1) 0 :: l.take (l.length - 1)).length = l.length := by rw [List.length_cons, List.length_take]; omega
      refine rollGo_spec f _ _ (by rw [List.length_take]; omega) (by rw [hll]; exact h0) (fun i => ?_) (by rw [hll]; exact hl)
      rw [lat_roll hc.1 h0 hc.2]; exact hs i
    · rw [rollGo, if_neg hc]
      refine ⟨h0, hs, hl, fun h e => hc ⟨h, ?_⟩⟩
      rw [List.getD_eq_getElem?_getD, List.getD_eq_getElem?_getD, e]
theorem leastL_spec {s l : List Nat} (h0 : 0 < l.length) : LeastW (lat s l) (leastL s l).1 (leastL s l).2 := by
  have h := perGo_spec (s := s) h0 l.length 1 (by omega) (by omega) (fun d hd hd1 => by omega)
  exact rollGo_spec s.length s (perL l) (Nat.le_refl _) h.1 h.2.1 h.2.2.1
/-- one word, however it is written, has one least way to write it -/
theorem leastL_eq {s l t m : List Nat} (h0 : 0 < l.length) (h1 : 0 < m.length) (h : ∀ i, lat s l i = lat t m i) : leastL s l = leastL t m := by
  have a := leastL_spec (s := s) h0
  have b := leastL_spec (s := t) h1
  have e : lat s l = lat t m := funext h
  rw [e] at a
  have := leastW_eq a b
  exact Prod.ext this.1 this.2
/-- some letters of the loop are put into the stem -/
theorem lat_unroll {s l : List Nat} (h0 : 0 < l.length) {n : Nat} (hn : n ≤ l.length) (i : Nat) : lat (s ++ l.take n) (l.drop n ++ l.take n) i = lat s l i := by
  have hlen : (l.drop n ++ l.take n).length = l.length := by rw [List.length_append, List.length_drop, List.length_take]; omega
  have hst : (s ++ l.take n).length = s.length + n := by rw [List.length_append, List.length_take]; omega
  unfold lat
  rw [hst, hlen]
  by_cases h1 : i < s.length
  · rw [if_pos h1, if_pos (by omega), List.getD_eq_getElem?_getD, List.getElem?_append_left h1, ← List.getD_eq_getElem?_getD]
  · rw [if_neg h1]
    by_cases h2 : i < s.length + n
    · rw [if_pos h2, List.getD_eq_getElem?_getD, List.getElem?_append_right (by omega), List.getElem?_take_of_lt (by omega), ← List.getD_eq_getElem?_getD, Nat.mod_eq_of_lt (by omega)]
    · rw [if_neg h2]
      have hm := Nat.mod_lt (i - (s.length + n)) h0
      have e : i - s.length = (i - (s.length + n)) + n := by omega
      rw [e]
      generalize i - (s.length + n) = j at *
      have hj : (j + n) % l.length = (j % l.length + n) % l.length := (Nat.mod_add_mod j l.length n).symm
      rw [hj]
      generalize j % l.length = r at *
      by_cases h3 : r < l.length - n
      · rw [List.getD_eq_getElem?_getD, List.getElem?_append_left (by rw [List.length_drop]; exact h3), List.getElem?_drop, ← List.getD_eq_getElem?_getD, Nat.mod_eq_of_lt (by omega), Nat.add_comm]
      · rw [List.getD_eq_getElem?_getD, List.getElem?_append_right (by rw [List.length_drop]; omega), List.length_drop, List.getElem?_take_of_lt (by omega), ← List.getD_eq_getElem?_getD]
        rw [Nat.mod_eq_sub_mod (by omega), Nat.mod_eq_of_lt (by omega)]
        congr 1; omega
end Go.Proofs.Ytllpfgcngokhnaa
/-
  Package world: what Check, Good and Word compute; a path written otherwise. Plain part.
-/
set_option linter.unusedVariables false
set_option linter.unusedSimpArgs false
namespace Go.Proofs.Ytllpfgcngokhnaa
open Go.RowKit

def chkN (n : Nat) (l : List Int) : Bool := decide (l.length = 0) || oddB n l
def chkWd (st : List Int) (nx : List (List Int)) (k : Nat) (fr : List (List Int)) : Int :=
  if nx.length > 600 ∨ fr.length > 80 then 2 else if k ≠ nx.length ∨ oddB nx.length st = true then 1 else if nx.any (chkN nx.length) = true then 1 else if fr.any (oddB nx.length) = true then 1 else 0
theorem chkWd_ok {st : List Int} {nx : List (List Int)} {k : Nat} {fr : List (List Int)} (h : chkWd st nx k fr = 0) : nx.length ≤ 600 ∧ fr.length ≤ 80 ∧ k = nx.length ∧ okL nx.length st ∧ (∀ l ∈ nx, 0 < l.length ∧ okL nx.length l) ∧ ∀ l ∈ fr, okL nx.length l := by
  unfold chkWd at h
  split at h
  · cases h
  split at h
  · cases h
  split at h
  · cases h
  split at h
  · cases h
  rename_i h1 h2 h3 h4
  refine ⟨by omega, by omega, ?_, ?_, ?_, ?_⟩
  · by_cases e : k = nx.length
    · exact e
    · exact absurd (.inl e) h2
  · rw [← oddB_false]
    cases e : oddB nx.length st
    · rfl
    · exact absurd (.inr e) h2
  · intro l hl
    have h3 : nx.any (chkN nx.length) = false := by simpa using h3
    rw [List.any_eq_false] at h3
    have := h3 l hl
    simp only [chkN, Bool.or_eq_true, decide_eq_true_eq, not_or, Bool.not_eq_true] at this
    exact ⟨by omega, oddB_false.1 this.2⟩
  · intro l hl
    have h4 : fr.any (oddB nx.length) = false := by simpa using h4
    rw [List.any_eq_false] at h4
    exact oddB_false.1 (by simpa using h4 l hl)

def toPw (al l : List Int) (i : Nat) : Int := if i + 1 < al.length then al.getD (i + 1) 0 else l.getD 0 0
def stepB (nx : List (List Int)) (al l : List Int) (i : Nat) : Bool := (nx.getD (al.getD i 0).toNat []).contains (toPw al l i)
def goodB (st : List Int) (nx fr : List (List Int)) (al l : List Int) : Bool :=
  st.contains (al.getD 0 0) && (List.range al.length).all (stepB nx al l) && fr.all (fun f => f.any (fun x => l.contains x))
def goodF (st : List Int) (nx : List (List Int)) (k : Nat) (fr : List (List Int)) (s l : List Int) : Bool × Int :=
  if chkWd st nx k fr ≠ 0 then (false, chkWd st nx k fr) else if s.length > 60000 ∨ l.length > 60000 - s.length then (false, 2)
  else if l.length = 0 ∨ oddB nx.length s = true ∨ oddB nx.length l = true then (false, 0) else (goodB st nx fr (s ++ l) l, 0)

/- paths as words -/
theorem int_nat {n : Nat} {l : List Int} (h : okL n l) : (l.map Int.toNat).map Int.ofNat = l := by
  rw [List.map_map]
  conv => rhs; rw [← List.map_id l]
  refine List.map_congr_left fun x hx => ?_
  have := h x hx
  show Int.ofNat x.toNat = x
  have h2 : (x.toNat : Int) = x := Int.toNat_of_nonneg (by omega)
  exact h2
theorem getD_nat {l : List Nat} {i : Nat} (h : i < l.length) : (l.map Int.ofNat).getD i 0 = ((l.getD i 0 : Nat) : Int) := by
  rw [List.getD_eq_getElem?_getD, List.getElem?_map, List.getElem?_eq_getElem h, List.getD_eq_getElem?_getD, List.getElem?_eq_getElem h]; rfl
theorem all_lat {s l : List Nat} {i : Nat} (h : i < (s ++ l).length) : (((s ++ l).map Int.ofNat).getD i 0) = (lat s l i : Int) := by
  rw [getD_nat h]
  unfold lat
  rw [List.length_append] at h
  by_cases h1 : i < s.length
  · rw [if_pos h1, List.getD_eq_getElem?_getD, List.getElem?_append_left h1, ← List.getD_eq_getElem?_getD]
  · rw [if_neg h1, List.getD_eq_getElem?_getD, List.getElem?_append_right (by omega), ← List.getD_eq_getElem?_getD, Nat.mod_eq_of_lt (by omega)]
def edgeB (nx : List (List Int)) (s l : List Nat) (i : Nat) : Bool := (nx.getD (lat s l i) []).contains ((lat s l (i + 1) : Nat) : Int)
theorem stepB_lat {nx : List (List Int)} {s l : List Nat} (h0 : 0 < l.length) {i : Nat} (h : i < (s ++ l).length) : stepB nx ((s ++ l).map Int.ofNat) (l.map Int.ofNat) i = edgeB nx s l i := by
  unfold stepB edgeB
  have e2 : toPw ((s ++ l).map Int.ofNat) (l.map Int.ofNat) i = ((lat s l (i + 1) : Nat) : Int) := by
    unfold toPw
    rw [List.length_map]
    by_cases h1 : i + 1 < (s ++ l).length
    · rw [if_pos h1, all_lat h1]
    · rw [if_neg h1, getD_nat h0]
      have e : i + 1 = s.length + l.length := by rw [List.length_append] at h h1; omega
      rw [e]
      unfold lat
      rw [if_neg (by omega), Nat.add_sub_cancel_left, Nat.mod_self]
  rw [e2, all_lat h]
  rfl
theorem edges_all {nx : List (List Int)} {s l : List Nat} (h0 : 0 < l.length) : (List.range ((s ++ l).map Int.ofNat).length).all (stepB nx ((s ++ l).map Int.ofNat) (l.map Int.ofNat)) = true ↔ ∀ i, edgeB nx s l i = true := by
  rw [List.all_eq_true, List.length_map]
  constructor
  · intro h i
    have hlt := Nat.mod_lt (i - s.length) h0
    have key : ∀ j, j < (s ++ l).length → edgeB nx s l j = true := fun j hj => by rw [← stepB_lat h0 hj]; exact h j (List.mem_range.2 hj)
    rw [List.length_append] at key
    by_cases h1 : i < s.length
    · exact key i (by omega)
    · have hj := key (s.length + (i - s.length) % l.length) (by omega)
      have one : ∀ k, s.length ≤ k → lat s l k = l.getD ((k - s.length) % l.length) 0 := fun k hk => by unfold lat; rw [if_neg (by omega)]
      unfold edgeB at hj ⊢
      rw [one _ (by omega), one _ (by omega)] at hj ⊢
      have e1 : (s.length + (i - s.length) % l.length - s.length) % l.length = (i - s.length) % l.length := by rw [Nat.add_sub_cancel_left, Nat.mod_mod]
      have e2 : (s.length + (i - s.length) % l.length + 1 - s.length) % l.length = (i + 1 - s.length) % l.length := by
        have : s.length + (i - s.length) % l.length + 1 - s.length = (i - s.length) % l.length + 1 := by omega
        rw [this]
        have : i + 1 - s.length = (i - s.length) + 1 := by omega
        rw [this, Nat.mod_add_mod]
      rw [e1, e2] at hj
      exact hj
  · intro h i hi
    rw [stepB_lat h0 (List.mem_range.1 hi)]
    exact h i
theorem toNat_app (s l : List Int) : (s ++ l).map Int.toNat = s.map Int.toNat ++ l.map Int.toNat := List.map_append
/-- a path unrolled goes the same way -/
theorem good_unroll {st : List Int} {nx fr : List (List Int)} {s l : List Int} (hs : okL nx.length s) (hl : okL nx.length l) (h0 : 0 < l.length) {n : Nat} (hn : n ≤ l.length) :
    goodB st nx fr ((s ++ l.take n) ++ (l.drop n ++ l.take n)) (l.drop n ++ l.take n) = goodB st nx fr (s ++ l) l := by
  have es := int_nat hs
  have el := int_nat hl
  generalize s.map Int.toNat = a at es
  generalize l.map Int.toNat = b at el
  subst es el
  rw [List.length_map] at h0 hn
  have h0' : 0 < (b.drop n ++ b.take n).length := by rw [List.length_append, List.length_drop, List.length_take]; omega
  rw [← List.map_take, ← List.map_drop, ← List.map_append, ← List.map_append, ← List.map_append, ← List.map_append]
  have e1 : (((a ++ b.take n) ++ (b.drop n ++ b.take n)).map Int.ofNat).getD 0 0 = ((a ++ b).map Int.ofNat).getD 0 0 := by
    rw [all_lat (by rw [List.length_append]; omega), all_lat (by rw [List.length_append]; omega), lat_unroll h0 hn]
  have e2 : (List.range (((a ++ b.take n) ++ (b.drop n ++ b.take n)).map Int.ofNat).length).all (stepB nx (((a ++ b.take n) ++ (b.drop n ++ b.take n)).map Int.ofNat) ((b.drop n ++ b.take n).map Int.ofNat))
      = (List.range ((a ++ b).map Int.ofNat).length).all (stepB nx ((a ++ b).map Int.ofNat) (b.map Int.ofNat)) := by
    rw [Bool.eq_iff_iff, edges_all h0', edges_all h0]
    have e : ∀ i, edgeB nx (a ++ b.take n) (b.drop n ++ b.take n) i = edgeB nx a b i := fun i => by unfold edgeB; rw [lat_unroll h0 hn, lat_unroll h0 hn]
    constructor
    · intro h i; rw [← e]; exact h i
    · intro h i; rw [e]; exact h i
  have e3 : ∀ x, ((b.drop n ++ b.take n).map Int.ofNat).contains x = (b.map Int.ofNat).contains x := fun x => by
    conv => rhs; rw [← List.take_append_drop n b]
    rw [Bool.eq_iff_iff, List.contains_iff_mem, List.contains_iff_mem, List.map_append, List.map_append, List.mem_append, List.mem_append]
    exact Or.comm
  unfold goodB
  rw [e1, e2]
  simp only [e3]
theorem okL_unroll {n k : Nat} {s l : List Int} (hs : okL k s) (hl : okL k l) : okL k (s ++ l.take n) ∧ okL k (l.drop n ++ l.take n) := by
  have ht : okL k (l.take n) := fun x hx => hl x (List.mem_of_mem_take hx)
  have hd : okL k (l.drop n) := fun x hx => hl x (List.mem_of_mem_drop hx)
  constructor
  · intro x hx
    rcases List.mem_append.1 hx with h | h
    · exact hs x h
    · exact ht x h
  · intro x hx
    rcases List.mem_append.1 hx with h | h
    · exact hd x h
    · exact ht x h
theorem goodF_unroll {st : List Int} {nx : List (List Int)} {k : Nat} {fr : List (List Int)} {s l : List Int} (h0 : 0 < l.length) (h60 : s.length + l.length ≤ 60) {n : Nat} (hn : n ≤ l.length) :
    goodF st nx k fr (s ++ l.take n) (l.drop n ++ l.take n) = goodF st nx k fr s l := by
  have e1 : (s ++ l.take n).length = s.length + n := by rw [List.length_append, List.length_take]; omega
  have e2 : (l.drop n ++ l.take n).length = l.length := by rw [List.length_append, List.length_drop, List.length_take]; omega
  unfold goodF
  by_cases hc : chkWd st nx k fr ≠ 0
  · rw [if_pos hc, if_pos hc]
  rw [if_neg hc, if_neg hc, e1, e2, if_neg (show ¬ (s.length + n > 60000 ∨ l.length > 60000 - (s.length + n)) by omega), if_neg (show ¬ (s.length > 60000 ∨ l.length > 60000 - s.length) by omega)]
  have eo : ∀ m : Nat, (oddB m (s ++ l.take n) = true ∨ oddB m (l.drop n ++ l.take n) = true) ↔ (oddB m s = true ∨ oddB m l = true) := by
    intro m
    have h1 : (oddB m s = false ∧ oddB m l = false) → (oddB m (s ++ l.take n) = false ∧ oddB m (l.drop n ++ l.take n) = false) := by
      rw [oddB_false, oddB_false, oddB_false, oddB_false]
      rintro ⟨a, b⟩; exact okL_unroll a b
    have h2 : (oddB m (s ++ l.take n) = false ∧ oddB m (l.drop n ++ l.take n) = false) → (oddB m s = false ∧ oddB m l = false) := by
      rw [oddB_false, oddB_false, oddB_false, oddB_false]
      rintro ⟨a, b⟩
      refine ⟨fun x hx => a x (List.mem_append_left _ hx), fun x hx => b x ?_⟩
      rw [← List.take_append_drop n l] at hx
      rcases List.mem_append.1 hx with h | h
      · exact List.mem_append_right _ h
      · exact List.mem_append_left _ h
    revert h1 h2
    cases oddB m s <;> cases oddB m l <;> cases oddB m (s ++ l.take n) <;> cases oddB m (l.drop n ++ l.take n) <;> simp
  by_cases h : l.length = 0 ∨ oddB nx.length s = true ∨ oddB nx.length l = true
  · rw [if_pos h, if_pos (h.imp id (eo _).2)]
  · rw [if_neg h, if_neg (fun h' => h (h'.imp id (eo _).1))]
    have hs : okL nx.length s := oddB_false.1 (by cases e : oddB nx.length s; rfl; exact absurd (.inr (.inl e)) h)
    have hl : okL nx.length l := oddB_false.1 (by cases e : oddB nx.length l; rfl; exact absurd (.inr (.inr e)) h)
    rw [good_unroll hs hl h0 hn]

/- words of paths -/
def labL (lb : List Nat) (l : List Int) : List Nat := l.map fun x => lb.getD x.toNat 0
def wordF (st : List Int) (nx : List (List Int)) (lb : List Nat) (fr : List (List Int)) (s l : List Int) : (List Nat × List Nat) × Int :=
  if chkWd st nx lb.length fr ≠ 0 then (([], []), chkWd st nx lb.length fr) else if l.length = 0 ∨ oddB nx.length s = true ∨ oddB nx.length l = true then (([], []), 1)
  else if chkW (labL lb s) (labL lb l) ≠ 0 then (([], []), chkW (labL lb s) (labL lb l)) else ((labL lb s, labL lb l), 0)
theorem wordF_ok {st : List Int} {nx : List (List Int)} {lb : List Nat} {fr : List (List Int)} {s l : List Int} (h : (wordF st nx lb fr s l).2 = 0) :
    (wordF st nx lb fr s l).1 = (labL lb s, labL lb l) ∧ chkW (labL lb s) (labL lb l) = 0 := by
  unfold wordF at h ⊢
  split at h
  · exact absurd h (by assumption)
  split at h
  · cases h
  split at h
  · exact absurd h (by assumption)
  rename_i h1 h2 h3
  rw [if_neg h1, if_neg h2, if_neg h3]
  exact ⟨rfl, by simpa using h3⟩
theorem labL_unroll {lb : List Nat} {s l : List Int} (n : Nat) : labL lb (s ++ l.take n) = labL lb s ++ (labL lb l).take n ∧ labL lb (l.drop n ++ l.take n) = (labL lb l).drop n ++ (labL lb l).take n := by
  unfold labL
  rw [List.map_append, List.map_append, List.map_take, List.map_drop]
  exact ⟨rfl, rfl⟩
end Go.Proofs.Ytllpfgcngokhnaa
/-
  A list of lists while it is built row by row: plain lists.
-/
set_option linter.unusedVariables false
set_option linter.unusedSimpArgs false
namespace Go.Proofs.Ytllpfgcngokhnaa

def gridP {α : Type} (N : Nat) (full : Nat → List α) (x0 : Nat) (part : List α) : List (List α) := (List.range N).map fun x => if x < x0 then full x else if x = x0 then part else []
section
variable {α : Type} {N : Nat} {full : Nat → List α} {x0 : Nat} {part : List α}
theorem gridP_len : (gridP N full x0 part).length = N := by simp [gridP]
theorem gridP_start : gridP N full 0 [] = List.replicate N [] := by
  unfold gridP
  refine List.ext_getElem (by simp) fun i h1 h2 => ?_
  simp
theorem gridP_get (h : x0 < N) : (gridP N full x0 part)[x0]'(by rw [gridP_len]; exact h) = part := by simp [gridP]
theorem gridP_set {part' : List α} (h : x0 < N) : (gridP N full x0 part).set x0 part' = gridP N full x0 part' := by
  refine List.ext_getElem (by simp [gridP_len]) fun i h1 h2 => ?_
  rw [List.getElem_set]
  by_cases e : x0 = i
  · subst e; rw [if_pos rfl, gridP_get h]
  · rw [if_neg e]
    simp only [gridP, List.getElem_map, List.getElem_range]
    split
    · rfl
    · rw [if_neg (Ne.symm e), if_neg (Ne.symm e)]
theorem gridP_next : gridP N full x0 (full x0) = gridP N full (x0 + 1) [] := by
  unfold gridP
  refine List.ext_getElem (by simp) fun i h1 h2 => ?_
  simp only [List.getElem_map, List.getElem_range]
  by_cases h : i < x0
  · rw [if_pos h, if_pos (by omega)]
  · rw [if_neg h]
    by_cases e : i = x0
    · subst e; rw [if_pos rfl, if_pos (by omega)]
    · rw [if_neg e, if_neg (by omega)]
      split <;> rfl
theorem gridP_done : gridP N full N [] = (List.range N).map full := by
  unfold gridP
  refine List.ext_getElem (by simp) fun i h1 h2 => ?_
  simp only [List.getElem_map, List.getElem_range]
  rw [if_pos (by simpa using h1)]
end
/-- of each number below n whether it is in a list -/
def memL (n : Nat) (l : List Int) : List Bool := (List.range n).map fun i : Nat => decide ((i : Int) ∈ l)
theorem memL_len {n : Nat} {l : List Int} : (memL n l).length = n := by simp [memL]
theorem memL_nil {n : Nat} : memL n [] = List.replicate n false := by
  refine List.ext_getElem (by simp [memL]) fun i h1 h2 => ?_
  simp [memL]
theorem memL_get {n : Nat} {l : List Int} {i : Nat} (h : i < n) : (memL n l)[i]'(by rw [memL_len]; exact h) = decide ((i : Int) ∈ l) := by simp [memL]
theorem memL_next {n : Nat} {l : List Int} {i k : Nat} (h : i < l.length) (hk : l[i] = (k : Int)) : (memL n (l.take i)).set k true = memL n (l.take (i + 1)) := by
  refine List.ext_getElem (by simp [memL]) fun j h1 h2 => ?_
  rw [List.getElem_set]
  have hj : j < n := by rw [memL_len] at h2; exact h2
  rw [memL_get hj, memL_get hj, ← List.take_append_getElem h]
  by_cases e : k = j
  · subst e; rw [if_pos rfl]; simp [hk]
  · rw [if_neg e]
    have : ((j : Int) ∈ l.take i ++ [l[i]]) ↔ (j : Int) ∈ l.take i := by
      rw [List.mem_append, List.mem_singleton, hk]
      exact ⟨fun h => h.resolve_right (by omega), .inl⟩
    simp only [this]
end Go.Proofs.Ytllpfgcngokhnaa
/-
  Results that lie in a variable; slices that are read, later on; slices cut with their capacity. Over any program.
-/
set_option linter.unusedVariables false
set_option linter.unusedSimpArgs false
namespace Go.Proofs.Ytllpfgcngokhnaa
open Go.RowKit

theorem results_cell {fn : Func} {a : Nat} {t : TypeId} (h : fn.results = #[.cell a t]) (tmps : Array Value) (P : Program) (w : World) {p : Addr} {v : Value} (ha : tmps.getD a undef = .pointer (some p)) (hl : (loadVar t p).run P w = .ok v w) :
    (results fn tmps).run P w = .ok v w := by
  simp only [Array.getD_eq_getD_getElem?] at ha
  simp [results, h, ha, asAddr, hl]
theorem EX.retC {P : Program} {n : Nat} {σ : Sg} {w : World} {fn : Func} {a b : Nat} {t e : TypeId} {cells : List Value} {k : Nat} {R : Value → World → Prop} (hr : fn.results = #[.cell a t]) (ha : fnd σ a = some (.pointer (some ⟨b, 0, none⟩))) [hc : IsC P t k true] (hb : Blk w b e cells) (hk : lenL cells = k) (h : R (.agg cells.toArray) w) :
    EX (bodyPost P fn fun e w' => ∃ v, e = .returned v ∧ R v w') .ret n σ w := by
  unfold EX; intro ac hac
  refine bodyPost_ret (results_cell hr _ _ _ (hac.slot a _ ha) (v := .agg cells.toArray) ?_) hac.defers ⟨_, rfl, h⟩
  rw [lenL_eq] at hk
  have hld := run_loadCells_list (P := P) w ⟨b, 0, none⟩ cells (fun j u hu => by rw [WideShapes.add_plain, Nat.zero_add]; exact hb.cell hu)
  obtain ⟨i, dd, h1, h2, h3, h4⟩ := hc.ok
  have hagg : (isAgg t).run P w = .ok true w := by
    unfold isAgg
    rw [Sem.run_bind, run_underlying h3 w, ← h4]
    cases dd <;> rfl
  rw [hk] at hld
  simp [loadVar, hagg, sizeOf, typeInfo, h1, h2, hld]
theorem results_cell2 {fn : Func} {a u : Nat} {t : TypeId} (h : fn.results = #[.cell a t, .tmp u]) (tmps : Array Value) (P : Program) (w : World) {p : Addr} {v : Value} (ha : tmps.getD a undef = .pointer (some p)) (hl : (loadVar t p).run P w = .ok v w) :
    (results fn tmps).run P w = .ok (.tuple ⟨[v, tmps.getD u undef]⟩) w := by
  simp only [Array.getD_eq_getD_getElem?] at ha ⊢
  simp [results, h, ha, asAddr, hl]
theorem EX.retC2 {P : Program} {n : Nat} {σ : Sg} {w : World} {fn : Func} {a b u : Nat} {t e : TypeId} {cells : List Value} {k : Nat} {x : Value} {R : Value → World → Prop} (hr : fn.results = #[.cell a t, .tmp u]) (ha : fnd σ a = some (.pointer (some ⟨b, 0, none⟩))) (hu : fnd σ u = some x) [hc : IsC P t k true] (hb : Blk w b e cells) (hk : lenL cells = k) (h : R (.tuple ⟨[.agg cells.toArray, x]⟩) w) :
    EX (bodyPost P fn fun e w' => ∃ v, e = .returned v ∧ R v w') .ret n σ w := by
  unfold EX; intro ac hac
  refine bodyPost_ret (results_cell2 hr _ _ _ (hac.slot a _ ha) (v := .agg cells.toArray) ?_) hac.defers ⟨_, by rw [hac.slot u x hu], h⟩
  rw [lenL_eq] at hk
  have hld := run_loadCells_list (P := P) w ⟨b, 0, none⟩ cells (fun j u hu => by rw [WideShapes.add_plain, Nat.zero_add]; exact hb.cell hu)
  obtain ⟨i, dd, h1, h2, h3, h4⟩ := hc.ok
  have hagg : (isAgg t).run P w = .ok true w := by
    unfold isAgg
    rw [Sem.run_bind, run_underlying h3 w, ← h4]
    cases dd <;> rfl
  rw [hk] at hld
  simp [loadVar, hagg, sizeOf, typeInfo, h1, h2, hld]
theorem Sl.zero {α : Type} [Rep α] (w : World) (F : Nat → Prop) : Sl w F none 0 ([] : List α) := ⟨by simp, by simp [maxLen], fun _ => rfl, fun i hi => absurd hi (by simp)⟩
theorem Sl.up0 {α : Type} [Rep α] {w w' : World} {F : Nat → Prop} {ao : Option Addr} {cap : Nat} {xs : List α} (h : Sl w F ao cap xs) (hE : Ext w w') (hF : ∀ b, F b → b < w.heap.size) : Sl w' F ao cap xs := h.mono (fun b hb => hE.block b (hF b hb)) fun _ h => h
section
variable {P : Program} {Q : Exit → Act → World → Prop} {n : Nat} {σ : Sg} {w : World} {L rest : List Oper} {d : Nat} {ty : TypeId} {pos : String} {af : Array Edge} {g : Option (Nat × Bool)} {t e : TypeId} {α : Type} [Rep α] {F : Nat → Prop}
theorem run_cut3 {ao : Option Addr} {len cap k : Nat} {k1 k2 : IntKind} (w : World) [hs : IsS P t e] [ht : IsT P e α] (h : k ≤ cap) :
    (Instr.sliceAt t (.slice ao len cap) none (some (.int k1 (k : Int))) (some (.int k2 (k : Int)))).run P w = .ok (.slice ao k k) w := by
  have a2 : (k : Int) ≤ (cap : Int) := by omega
  have a3 : (0 : Int) ≤ (k : Int) := by omega
  simp only [Instr.sliceAt, Sem.run_bind, run_underlying hs.ok, Result.andThen_ok, Instr.slice, Instr.sliceBounds]
  simp [run_sizeOf (α := α), Instr.sliceBound, asIntOf, h, Addr.add_zero']
/-- x[:k:k] -/
theorem WL.cut3O {x y z : Operand} {v : Value} {xs : List α} {B : Nat} {k1 k2 : IntKind} {k : Nat} (hg : gd L σ ⟨some d, .slice t x none (some y) (some z), ty, pos, af, g⟩ = some true) (hd : Nat.ble (d + 1) n = true)
    (hx : ev σ x = some v) (hy : ev σ y = some (.int k1 (k : Int))) (hz : ev σ z = some (.int k2 (k : Int))) [hs : IsS P t e] [ht : IsT P e α] (hown : Own w B e F v xs) (hk : k ≤ xs.length)
    (h : ∀ v', Own w B e F v' (xs.take k) → v'.ownBlock = v.ownBlock → WL P L Q rest n ((d, v') :: σ) w) : WL P L Q (⟨some d, .slice t x none (some y) (some z), ty, pos, af, g⟩ :: rest) n σ w := by
  obtain ⟨ao, cap, rfl⟩ := hown.val
  have hle := hown.le rfl
  refine WL.run (v := .slice ao k k) hg hd (fun a ha => ?_) (h _ ?_ (by cases ao <;> rfl))
  · have := run_cut3 (P := P) (t := t) (e := e) (α := α) (ao := ao) (len := xs.length) (cap := cap) (k := k) (k1 := k1) (k2 := k2) w (by omega)
    simp [execOp, ha.ev hx, ha.ev hy, ha.ev hz, this]
  · rcases hown with ⟨h1, rfl⟩ | ⟨g', off, cp, cur, h1, ho⟩
    · obtain ⟨rfl, _, rfl⟩ := Value.slice.inj h1
      have : k = 0 := by simpa using hk
      subst this
      exact .inl ⟨rfl, by simp⟩
    · obtain ⟨rfl, _, rfl⟩ := Value.slice.inj h1
      have hlen : (xs.take k).length = k := by rw [List.length_take]; omega
      have hmul : k * sz α ≤ cap * sz α := Nat.mul_le_mul_right _ (by omega)
      refine .inr ⟨g', off, k, cur, by rw [hlen], ⟨ho.blk, ho.ge, ho.nF, by omega, by have := ho.mx; omega, by have := ho.fit; omega, ?_⟩⟩
      have := ho.el.take k hk
      rw [List.take_take, Nat.min_eq_left (Nat.mul_le_mul_right _ hk)] at this
      rw [hlen]; exact this
end
end Go.Proofs.Ytllpfgcngokhnaa
/-
  watchkeep.unrolled: a word written otherwise.
-/
set_option linter.unusedVariables false
set_option linter.unusedSimpArgs false
namespace Go.Proofs.Ytllpfgcngokhnaa
open Go.RowKit

theorem clone_u64 (w0 : World) {F : Nat → Prop} {ao : Option Addr} {cap : Nat} {xs : List Nat} (hs : Sl w0 F ao cap xs) (hF : ∀ b, F b → b < w0.heap.size) (hb : xs.length * 8 ≤ 140737488355328) :
    Rt Try.prog 107 [.slice ao xs.length cap].toArray w0 fun v w' => Own w' w0.heap.size 53 Non v xs ∧ Ext w0 w' := by
  have hm := hs.len63
  refine Rt.enter1 Try.func107 Try.ntmps107 rfl rfl ?_
  (repeat (first | (apply WL.pure; rfl; rfl; rfl) | (apply WL.nil) | (apply EX.thenN) | (apply CW.seq) | (apply CW.region) | (apply WL.isNil; rfl; rfl; rfl)))
  refine CW.cond rfl (fun h => ?_) (fun h => ?_)
  · (repeat (first | (apply WL.pure; rfl; rfl; rfl) | (apply WL.nil) | (apply EX.thenN) | (apply CW.seq) | (apply CW.region) | (apply CW.ret) | (apply EX.thenR)))
    refine EX.ret1 rfl rfl ⟨?_, Ext.refl _⟩
    have h0 : ao = none := by simpa using h
    have : xs = [] := List.eq_nil_of_length_eq_zero (by have := hs.nil h0; have := hs.le; omega)
    subst this
    exact Own.nil
  · (repeat (first | (apply EX.thenN) | (apply CW.seq) | (apply CW.region) | (apply CW.skip)))
    refine WL.lit0 (α := Nat) rfl rfl (fun w1 ho hg => ?_)
    (repeat (apply WL.pure; rfl; rfl; rfl))
    have hE : Ext w0 w1 := (Below.refl _ _).grown hg (Nat.le_refl _) (fun k h => by cases h)
    refine WL.app (F := Non) rfl rfl rfl rfl ho (hs.up0 hE hF).srcN hE.size (fun _ h => h.elim) (by simp [maxLen]; omega) (by simpa using hb) (fun v w2 ho2 hg2 _ => ?_)
    (repeat (first | (apply WL.pure; rfl; rfl; rfl) | (apply WL.nil) | (apply EX.thenN) | (apply CW.ret)))
    refine EX.ret1 rfl rfl ⟨by simpa using ho2, hE.grown hg2 hE.size ?_⟩
    intro k hk
    exact (ho.lt k hk).1
/-- blocks that are new since w -/
def Fresh (w w' : World) : Nat → Prop := fun b => w.heap.size ≤ b ∧ b < w'.heap.size
end Go.Proofs.Ytllpfgcngokhnaa
/-
  Package auto: odd, Check, Fits, member, product.
-/
set_option linter.unusedVariables false
set_option linter.unusedSimpArgs false
namespace Go.Proofs.Ytllpfgcngokhnaa
open Go.RowKit

abbrev LAuto := List Int × List (List Int) × List Nat × List Nat × List (List Int)
abbrev autoV (a1 : Option Addr) (c1 : Nat) (a2 : Option Addr) (c2 : Nat) (a3 : Option Addr) (c3 : Nat) (a4 : Option Addr) (c4 : Nat) (a5 : Option Addr) (c5 : Nat) (n1 n2 n3 n4 n5 : Nat) : Value := .agg [.slice a1 n1 c1, .slice a2 n2 c2, .slice a3 n3 c3, .slice a4 n4 c4, .slice a5 n5 c5].toArray
/-- the cells of an automaton: what they read as -/
structure AutoAt (w : World) (F : Nat → Prop) (v : Value) (A : LAuto) : Prop where
  ok : ∃ a1 c1 a2 c2 a3 c3 a4 c4 a5 c5, v = autoV a1 c1 a2 c2 a3 c3 a4 c4 a5 c5 A.1.length A.2.1.length A.2.2.1.length A.2.2.2.1.length A.2.2.2.2.length ∧ Sl w F a1 c1 A.1 ∧ Sl w F a2 c2 A.2.1 ∧ Sl w F a3 c3 A.2.2.1 ∧ Sl w F a4 c4 A.2.2.2.1 ∧ Sl w F a5 c5 A.2.2.2.2
theorem Rd.auto {w : World} {F : Nat → Prop} {v : Value} {x : LAuto} (h : Rd w F v x) : AutoAt w F v x := by
  obtain ⟨c1, r1, rfl, h1, k1⟩ := h.pr
  obtain ⟨c2, r2, rfl, h2, k2⟩ := rd_pr k1
  obtain ⟨c3, r3, rfl, h3, k3⟩ := rd_pr k2
  obtain ⟨c4, r4, rfl, h4, h5⟩ := rd_pr k3
  obtain ⟨a1, d1, rfl, s1⟩ := rd_sl h1
  obtain ⟨a2, d2, rfl, s2⟩ := rd_sl h2
  obtain ⟨a3, d3, rfl, s3⟩ := rd_sl h3
  obtain ⟨a4, d4, rfl, s4⟩ := rd_sl h4
  obtain ⟨a5, d5, rfl, s5⟩ := rd_sl h5
  exact ⟨a1, d1, a2, d2, a3, d3, a4, d4, a5, d5, rfl, s1, s2, s3, s4, s5⟩
def chkA (A : LAuto) : Int :=
  if A.2.1.length > 2048 ∨ A.2.2.2.2.length > 80 then 2 else if A.2.2.1.length ≠ A.2.1.length ∨ A.2.2.2.1.length ≠ A.2.1.length ∨ oddB A.2.1.length A.1 = true then 1
  else if A.2.1.any (oddB A.2.1.length) = true ∨ A.2.2.2.2.any (oddB A.2.1.length) = true then 1 else 0
structure OkA (A : LAuto) : Prop where
  n : A.2.1.length ≤ 2048
  f : A.2.2.2.2.length ≤ 80
  mu : A.2.2.1.length = A.2.1.length
  no : A.2.2.2.1.length = A.2.1.length
  st : okL A.2.1.length A.1
  nx : ∀ r ∈ A.2.1, okL A.2.1.length r
  fr : ∀ r ∈ A.2.2.2.2, okL A.2.1.length r
theorem any_odd {n : Nat} {g : List (List Int)} : g.any (oddB n) = false ↔ ∀ r ∈ g, okL n r := by
  rw [List.any_eq_false]
  refine forall_congr' fun r => forall_congr' fun _ => ?_
  rw [← oddB_false, Bool.not_eq_true]
theorem chkA_ok {A : LAuto} (h : chkA A = 0) : OkA A := by
  unfold chkA at h
  split at h
  · cases h
  split at h
  · cases h
  split at h
  · cases h
  rename_i h1 h2 h3
  rw [not_or] at h1 h2 h3
  rw [not_or] at h2
  exact ⟨by omega, by omega, by omega, by omega, oddB_false.1 (by simpa using h2.2.2), any_odd.1 (by simpa using h3.1), any_odd.1 (by simpa using h3.2)⟩
theorem chkA_of {A : LAuto} (h : OkA A) : chkA A = 0 := by
  unfold chkA
  have a := oddB_false.2 h.st; have b := any_odd.2 h.nx; have c := any_odd.2 h.fr; have d := h.mu; have e := h.no
  rw [if_neg (by have := h.n; have := h.f; omega), if_neg (by rw [a]; simp; omega), if_neg (by rw [b, c]; simp)]

theorem aodd1 (n : Nat) (x : Int) (b : Nat) (w : World) (hb : Blk w b 3 [.int .i64 n]) :
    Rt Try.prog 141 [.int .i64 x, .pointer (some ⟨b, 0, none⟩)].toArray w fun v w' => v = .bool (decide (x < 0 ∨ x ≥ n)) ∧ w = w' := by
  refine Rt.enter2 Try.func141 Try.ntmps141 rfl rfl ?_
  (repeat (first | (apply WL.pure; rfl; rfl; rfl) | (apply WL.nil) | (apply EX.thenN) | (apply CW.seq) | (apply CW.region)))
  refine WL.look (s := 6) rfl (fun h => ?_) (fun h => ?_)
  · (repeat (first | (apply WL.pure; rfl; rfl; rfl) | (apply WL.nil) | (apply EX.thenN) | (apply WL.pass; rfl; rfl) | (apply CW.ret)))
    refine EX.ret1 rfl rfl ?_
    simp at h
    simp [h]
  · (repeat (first | (apply WL.pure; rfl; rfl; rfl) | (apply WL.nil) | (apply EX.thenN) | (apply WL.ld; rfl; rfl; rfl; assumption; rfl) | (apply CW.ret)))
    refine EX.ret1 rfl rfl ?_
    simp at h
    simp [Int.not_lt.2 h]
theorem aodd_ok (w0 : World) {lo : Option Addr} {lcap : Nat} {l : List Int} (n : Nat) (hl : Sl w0 (Old w0) lo lcap l) :
    Rt Try.prog 89 [.slice lo l.length lcap, .int .i64 n].toArray w0 fun v w' => v = .bool (oddB n l) ∧ Ext w0 w' := by
  refine Rt.enter2 Try.func89 Try.ntmps89 rfl rfl ?_
  (repeat (first | (apply CW.seq) | (apply CW.region)))
  refine WL.boxB rfl rfl rfl fun w1 hb hE => ?_
  (repeat (first | (apply WL.pure; rfl; rfl; rfl) | (apply WL.nil) | (apply EX.thenN) | (apply CW.seq) | (apply CW.region) | (apply WL.makeFunc; rfl; rfl; rfl; rfl)))
  refine WL.call rfl rfl rfl (containsFunc_int w1 (fun x => decide (x < 0 ∨ x ≥ n)) (hl.up hE) (fun w hw i h => ?_)) ?_
  · refine FnV.mk (Rt.mono (aodd1 n _ _ w (hb.ext hw)) ?_)
    rintro v w' ⟨rfl, rfl⟩
    exact ⟨rfl, Ext.refl _⟩
  · rintro v w' ⟨rfl, hB⟩
    (repeat (first | (apply WL.pure; rfl; rfl; rfl) | (apply WL.nil) | (apply EX.thenN) | (apply CW.ret)))
    exact EX.ret1 rfl rfl ⟨rfl, hE.trans hB⟩
theorem achk1 (w : World) {lo : Option Addr} {lcap : Nat} {l : List Int} (n : Nat) (b : Nat) (hb : Blk w b 3 [.int .i64 n]) (hl : Sl w (Old w) lo lcap l) :
    Rt Try.prog 90 [.slice lo l.length lcap, .pointer (some ⟨b, 0, none⟩)].toArray w fun v w' => v = .bool (oddB n l) ∧ Ext w w' := by
  refine Rt.enter2 Try.func90 Try.ntmps90 rfl rfl ?_
  (repeat (first | (apply WL.pure; rfl; rfl; rfl) | (apply WL.nil) | (apply EX.thenN) | (apply CW.seq) | (apply CW.region) | (apply WL.ld; rfl; rfl; rfl; assumption; rfl)))
  refine WL.call rfl rfl rfl (aodd_ok w n hl) ?_
  rintro _ w' ⟨rfl, hE⟩
  (repeat (first | (apply WL.pure; rfl; rfl; rfl) | (apply WL.nil) | (apply EX.thenN) | (apply CW.ret)))
  exact EX.ret1 rfl rfl ⟨rfl, hE⟩
theorem achk2 (w : World) {lo : Option Addr} {lcap : Nat} {l : List Int} (n : Nat) (b : Nat) (hb : Blk w b 3 [.int .i64 n]) (hl : Sl w (Old w) lo lcap l) :
    Rt Try.prog 91 [.slice lo l.length lcap, .pointer (some ⟨b, 0, none⟩)].toArray w fun v w' => v = .bool (oddB n l) ∧ Ext w w' := by
  refine Rt.enter2 Try.func91 Try.ntmps91 rfl rfl ?_
  (repeat (first | (apply WL.pure; rfl; rfl; rfl) | (apply WL.nil) | (apply EX.thenN) | (apply CW.seq) | (apply CW.region) | (apply WL.ld; rfl; rfl; rfl; assumption; rfl)))
  refine WL.call rfl rfl rfl (aodd_ok w n hl) ?_
  rintro _ w' ⟨rfl, hE⟩
  (repeat (first | (apply WL.pure; rfl; rfl; rfl) | (apply WL.nil) | (apply EX.thenN) | (apply CW.ret)))
  exact EX.ret1 rfl rfl ⟨rfl, hE⟩
theorem aCheck_ok (w0 : World) {v0 : Value} {A : LAuto} (ha : AutoAt w0 (Old w0) v0 A) :
    Rt Try.prog 43 [v0].toArray w0 fun v w' => v = .int .i64 (chkA A) ∧ Ext w0 w' := by
  obtain ⟨a1, c1, a2, c2, a3, c3, a4, c4, a5, c5, rfl, h1, h2, h3, h4, h5⟩ := ha.ok
  obtain ⟨st, nx, mu, no, fr⟩ := A
  dsimp only at *
  have hm2 := h2.len63
  have hm3 := h3.len63
  have hm4 := h4.len63
  have hm5 := h5.len63
  refine Rt.enter1 Try.func43 Try.ntmps43 rfl rfl ?_
  have hE := Ext.refl w0
  (repeat (first | (apply CW.seq) | (apply CW.region)))
  refine WL.boxB rfl rfl rfl fun w1 hb1 e1 => ?_
  have hE := hE.trans e1
  have z1 := e1.size
  have hl1 := hb1.lt
  (repeat (first | (apply WL.pure; rfl; rfl; rfl) | (apply WL.nil) | (apply EX.thenN) | (apply CW.seq) | (apply CW.region) | (apply WL.lenS; rfl; rfl; rfl) | (apply WL.fa; rfl; rfl; rfl) | (apply WL.ld; rfl; rfl; rfl; assumption; rfl)))
  refine WL.alloc rfl rfl (fun w2 hb3 e2 => ?_)
  have hb1 := hb1.ext e2
  have hE := hE.trans e2
  skip
  refine WL.st rfl rfl rfl hb3 rfl rfl (ones_of rfl) (fun w3 hb3 hg3 => ?_)
  have hb1 := hb1.kept hg3 (by simp; omega)
  have hE : Ext w0 w3 := hE.grown hg3 hE.size (fun g hg => by cases hg; exact z1)
  unfold chkA
  dsimp only
  (repeat (first | (apply WL.pure; rfl; rfl; rfl) | (apply WL.nil) | (apply EX.thenN) | (apply CW.seq) | (apply CW.region) | (apply WL.ld; rfl; rfl; rfl; assumption; rfl)))
  (refine WL.lookG rfl rfl (fun h => ?_) (fun h => ?_))
  · (repeat (first | (apply WL.pure; rfl; rfl; rfl) | (apply WL.nil) | (apply EX.thenN) | (apply CW.seq) | (apply CW.region) | (apply WL.pass; rfl; rfl) | (apply CW.condT; rfl) | (apply CW.ret) | (apply EX.thenR)))
    skip
    refine EX.ret1 rfl rfl ⟨?_, hE⟩
    simp at h
    rw [if_pos (.inl (by omega))]
  (repeat (first | (apply WL.pure; rfl; rfl; rfl) | (apply WL.nil) | (apply EX.thenN) | (apply WL.lenS; rfl; rfl; rfl) | (apply WL.fa; rfl; rfl; rfl) | (apply WL.ld; rfl; rfl; rfl; assumption; rfl)))
  refine CW.cond rfl (fun h5' => ?_) (fun h5' => ?_)
  · (repeat (first | (apply WL.pure; rfl; rfl; rfl) | (apply WL.nil) | (apply EX.thenN) | (apply CW.seq) | (apply CW.region) | (apply CW.ret) | (apply EX.thenR)))
    refine EX.ret1 rfl rfl ⟨?_, hE⟩
    simp at h5'
    rw [if_pos (.inr (by omega))]
  simp at h h5'
  rw [if_neg (by omega)]
  clear h h5'
  (repeat (first | (apply WL.pure; rfl; rfl; rfl) | (apply EX.thenN) | (apply CW.seq) | (apply CW.region) | (apply WL.lenS; rfl; rfl; rfl) | (apply WL.fa; rfl; rfl; rfl) | (apply WL.ld; rfl; rfl; rfl; assumption; rfl) | (apply CW.skip)))
  (refine WL.lookG rfl rfl (fun h => ?_) (fun h => ?_))
  · simp at h
    (repeat (first | (apply WL.pure; rfl; rfl; rfl) | (apply WL.nil) | (apply EX.thenN) | (apply CW.seq) | (apply CW.region) | (apply WL.pass; rfl; rfl) | (apply CW.condT; rfl) | (apply CW.ret) | (apply EX.thenR)))
    refine EX.ret1 rfl rfl ⟨?_, hE⟩
    rw [if_pos (.inl (by omega))]
  simp at h
  have h0 := h
  clear h
  (repeat (first | (apply WL.pure; rfl; rfl; rfl) | (apply WL.lenS; rfl; rfl; rfl) | (apply WL.fa; rfl; rfl; rfl) | (apply WL.ld; rfl; rfl; rfl; assumption; rfl)))
  (refine WL.lookG rfl rfl (fun h => ?_) (fun h => ?_))
  · have hx := h
    simp at hx
    (repeat (first | (apply WL.pure; rfl; rfl; rfl) | (apply WL.nil) | (apply EX.thenN) | (apply CW.seq) | (apply CW.region) | (apply WL.pass; rfl; rfl) | (apply CW.condT; rfl) | (apply CW.ret) | (apply EX.thenR)))
    refine EX.ret1 rfl rfl ⟨?_, hE⟩
    rw [if_pos (.inr (.inl (by omega)))]
  have hx := h
  simp at hx
  (repeat (first | (apply WL.fa; rfl; rfl; rfl) | (apply WL.ld; rfl; rfl; rfl; assumption; rfl)))
  refine WL.call rfl rfl rfl (aodd_ok w3 nx.length (h1.up hE)) ?_
  rintro _ w4 ⟨rfl, e4⟩
  have hb1 := hb1.ext e4
  have hb3 := hb3.ext e4
  have hE := hE.trans e4
  (repeat (first | (apply WL.pure; rfl; rfl; rfl) | (apply WL.nil) | (apply EX.thenN)))
  refine CW.cond rfl (fun h7 => ?_) (fun h7 => ?_)
  · (repeat (first | (apply WL.pure; rfl; rfl; rfl) | (apply WL.nil) | (apply EX.thenN) | (apply CW.seq) | (apply CW.region) | (apply CW.ret) | (apply EX.thenR)))
    refine EX.ret1 rfl rfl ⟨?_, hE⟩
    rw [if_pos (.inr (.inr h7))]
  rw [if_neg (by rw [h7]; simp; omega)]
  (repeat (first | (apply EX.thenN) | (apply CW.seq) | (apply CW.region) | (apply WL.makeFunc; rfl; rfl; rfl; rfl) | (apply WL.fa; rfl; rfl; rfl) | (apply WL.ld; rfl; rfl; rfl; assumption; rfl) | (apply CW.skip)))
  refine WL.call rfl rfl rfl (containsFunc_ll w4 (oddB nx.length) (h2.up hE) (fun w hw i hi u hu => ?_)) ?_
  · obtain ⟨lo, lc, rfl, hl⟩ := hu.sl
    exact FnV.mk (Rt.mono (achk1 w nx.length _ (hb3.ext hw) (hl.lift fun b hb => Nat.lt_of_lt_of_le hb hw.size)) fun v w' h => h)
  rintro _ w5 ⟨rfl, e5⟩
  have hb1 := hb1.ext e5
  have hb3 := hb3.ext e5
  have hE := hE.trans e5
  (repeat (apply WL.pure; rfl; rfl; rfl))
  (refine WL.lookG rfl rfl (fun h => ?_) (fun h => ?_))
  · have h8 := h
    (repeat (first | (apply WL.pure; rfl; rfl; rfl) | (apply WL.nil) | (apply EX.thenN) | (apply CW.seq) | (apply CW.region) | (apply WL.pass; rfl; rfl) | (apply CW.condT; rfl) | (apply CW.ret) | (apply EX.thenR)))
    refine EX.ret1 rfl rfl ⟨?_, hE⟩
    rw [if_pos (.inl h8)]
  have h8 := h
  (repeat (first | (apply WL.makeFunc; rfl; rfl; rfl; rfl) | (apply WL.fa; rfl; rfl; rfl) | (apply WL.ld; rfl; rfl; rfl; assumption; rfl)))
  refine WL.call rfl rfl rfl (containsFunc_ll w5 (oddB nx.length) (h5.up hE) (fun w hw i hi u hu => ?_)) ?_
  · obtain ⟨lo, lc, rfl, hl⟩ := hu.sl
    exact FnV.mk (Rt.mono (achk2 w nx.length _ (hb3.ext hw) (hl.lift fun b hb => Nat.lt_of_lt_of_le hb hw.size)) fun v w' h => h)
  rintro _ w6 ⟨rfl, e6⟩
  have hb1 := hb1.ext e6
  have hb3 := hb3.ext e6
  have hE := hE.trans e6
  (repeat (first | (apply WL.pure; rfl; rfl; rfl) | (apply WL.nil) | (apply EX.thenN)))
  refine CW.cond rfl (fun h9 => ?_) (fun h9 => ?_)
  · (repeat (first | (apply WL.pure; rfl; rfl; rfl) | (apply WL.nil) | (apply EX.thenN) | (apply CW.seq) | (apply CW.region) | (apply CW.ret) | (apply EX.thenR)))
    refine EX.ret1 rfl rfl ⟨?_, hE⟩
    rw [if_pos (.inr h9)]
  (repeat (first | (apply WL.pure; rfl; rfl; rfl) | (apply WL.nil) | (apply EX.thenN) | (apply CW.seq) | (apply CW.region) | (apply CW.ret) | (apply CW.skip)))
  refine EX.ret1 rfl rfl ⟨?_, hE⟩
  rw [if_neg (by rw [h8, h9]; simp)]
theorem getDN_at {l : List Nat} {k : Nat} (h : k < l.length) : l.getD k 0 = l[k] := by rw [List.getD_eq_getElem?_getD, List.getElem?_eq_getElem h]; rfl
theorem Fits_ok (w0 : World) {a1 a2 a3 a4 a5 : Option Addr} {c1 c2 c3 c4 c5 n1 n2 n5 : Nat} {mu no : List Nat} (h3 : Sl w0 (Old w0) a3 c3 mu) (h4 : Sl w0 (Old w0) a4 c4 no) (k x : Nat) (hk : k < mu.length) (hk2 : k < no.length) (hx : x < 18446744073709551616) :
    Rt Try.prog 108 [autoV a1 c1 a2 c2 a3 c3 a4 c4 a5 c5 n1 n2 mu.length no.length n5, .int .i64 (k : Int), .int .u64 (x : Int)].toArray w0 fun v w' => v = .bool (fitB mu no k x) ∧ Ext w0 w' := by
  refine Rt.enter3 Try.func108 Try.ntmps108 rfl rfl ?_
  (repeat (first | (apply CW.seq) | (apply CW.region)))
  refine WL.boxB rfl rfl rfl fun w1 hb e1 => ?_
  have h3 := h3.up e1
  have h4 := h4.up e1
  (repeat (first | (apply WL.pure; rfl; rfl; rfl) | (apply QL.pure; rfl; rfl; rfl) | (apply WL.nil) | (apply EX.thenN) | (apply CW.seq) | (apply QL.fa; rfl; rfl; rfl) | (apply QL.ld; rfl; rfl; rfl; assumption; rfl) | (apply CW.draw; exact mixed; kernel_rfl)))
  refine QL.elemN rfl rfl rfl rfl rfl (fun _ h => h) h3 hk (fun _ => rfl) (fun u q hu => ?_)
  obtain ⟨rfl, hu1⟩ := hu.u64
  (repeat (first | (apply QL.pure; rfl; rfl; rfl) | (apply QL.fa; rfl; rfl; rfl) | (apply QL.ld; rfl; rfl; rfl; assumption; rfl)))
  rw [bits_and_u64_nat _ _ hx hu1]
  refine QL.elemN rfl rfl rfl rfl rfl (fun _ h => h) h3 hk (fun _ => rfl) (fun u q' hu => ?_)
  obtain ⟨rfl, _⟩ := hu.u64
  (repeat (apply QL.pure; rfl; rfl; rfl))
  unfold fitB
  rw [getDN_at hk, getDN_at hk2]
  (refine QL.lookG rfl rfl (fun h => ?_) (fun h => ?_))
  · simp only [beq_iff_eq] at h
    have h : x &&& mu[k] = mu[k] := by exact_mod_cast h
    rw [decide_eq_true h, Bool.true_and]
    (repeat (first | (apply QL.pure; rfl; rfl; rfl) | (apply QL.fa; rfl; rfl; rfl) | (apply QL.ld; rfl; rfl; rfl; assumption; rfl)))
    refine QL.elemN rfl rfl rfl rfl rfl (fun _ h => h) h4 hk2 (fun _ => rfl) (fun u q' hu => ?_)
    obtain ⟨rfl, hu2⟩ := hu.u64
    (repeat (apply QL.pure; rfl; rfl; rfl))
    rw [bits_and_u64_nat _ _ hx hu2]
    refine QL.nil (fun w2 e2 => ?_)
    (repeat (first | (apply EX.thenN) | (apply CW.ret)))
    refine EX.ret1 rfl rfl ⟨?_, e1.trans e2⟩
    congr 1
    rw [Bool.eq_iff_iff, beq_iff_eq, decide_eq_true_iff]
    exact_mod_cast Iff.rfl
  · have h : ¬ x &&& mu[k] = mu[k] := by
      intro e; rw [e] at h; simp at h
    rw [decide_eq_false h, Bool.false_and]
    (repeat (first | (apply QL.pure; rfl; rfl; rfl) | (apply QL.pass; rfl; rfl)))
    refine QL.nil (fun w2 e2 => ?_)
    (repeat (first | (apply EX.thenN) | (apply CW.ret)))
    exact EX.ret1 rfl rfl ⟨rfl, e1.trans e2⟩
theorem member_ok (w0 : World) {F : Nat → Prop} {lo : Option Addr} {lc : Nat} {l : List Int} (hl : Sl w0 F lo lc l) (hF : ∀ b, F b → b < w0.heap.size) (n : Nat) (hn : n ≤ 1099511627776) (hok : okL n l) :
    Rt Try.prog 111 [.slice lo l.length lc, .int .i64 (n : Int)].toArray w0 fun v w' => Own w' w0.heap.size 4 Non v (memL n l) ∧ Ext w0 w' := by
  have hm := hl.len63
  refine Rt.enter2 Try.func111 Try.ntmps111 rfl rfl ?_
  (repeat (first | (apply WL.pure; rfl; rfl; rfl) | (apply WL.nil) | (apply EX.thenN) | (apply CW.seq) | (apply CW.region)))
  refine WL.make (α := Bool) rfl rfl rfl rfl (by omega) (by unfold maxLen; omega) (fun w1 ho1 hg1 => ?_)
  have hE1 : Ext w0 w1 := (Below.refl _ _).grown hg1 (Nat.le_refl _) (fun k h => by cases h)
  generalize hsv : Value.slice (some ⟨w0.heap.size, 0, none⟩) n n = sv at *
  rw [← memL_nil] at ho1
  (repeat (first | (apply WL.pure; rfl; rfl; rfl) | (apply WL.nil) | (apply EX.thenN) | (apply CW.seq) | (apply CW.region) | (apply WL.lenS; rfl; rfl; rfl) | (apply CW.block)))
  refine CW.loop (S := Nat) (fun i => [(5, sv), (10, .slice lo l.length lc), (11, .int .i64 l.length), (12, .int .i64 i)])
    (fun i w => i ≤ l.length ∧ Own w w0.heap.size 4 Non sv (memL n (l.take i)) ∧ Ext w0 w) (fun i => l.length - i) 0 (by repeat (first | exact trivial | refine ⟨rfl, ?_⟩)) ⟨by omega, ho1, hE1⟩ ?_
  rintro i w2 ⟨hi, ho, hE⟩
  (repeat (first | (apply WL.pure; rfl; rfl; rfl) | (apply WL.nil) | (apply EX.thenN) | (apply CW.seq) | (apply CW.region)))
  refine CW.cond rfl (fun h => ?_) (fun h => ?_)
  · simp at h
    have hk := hok _ (List.getElem_mem h)
    obtain ⟨k, ek⟩ := Int.eq_ofNat_of_zero_le hk.1
    have hkn : k < (memL n (l.take i)).length := by rw [memL_len]; omega
    (repeat (first | (apply EX.thenN) | (apply CW.seq) | (apply CW.region) | (apply CW.block) | (apply CW.skip)))
    refine WL.elemI rfl rfl rfl rfl rfl (hl.up0 hE hF) h ek (fun _ => rfl) (fun q => ?_)
    (repeat (first | (apply WL.pure; rfl; rfl; rfl) | (apply WL.nil) | (apply EX.thenN) | (apply CW.region)))
    refine WL.setN (u := .bool true) (yv := true) rfl rfl rfl rfl ho hkn (fun _ => rfl) (fun _ => rfl) (Rd.mkBool _ _ _) (fun w3 q2 ho3 hg3 => ?_)
    rw [memL_next h ek] at ho3
    have hE3 : Ext w0 w3 := hE.grown hg3 hE.size (fun b hb => (ho.lt b hb).1)
    (repeat (first | (apply WL.add; rfl; rfl; rfl; rfl; omega; omega) | (apply WL.pure; rfl; rfl; rfl) | (apply WL.nil) | (apply EX.thenN) | (apply CW.region) | (apply EX.inN)))
    exact EX.back (i + 1) (by repeat (first | exact trivial | refine ⟨rfl, ?_⟩)) ⟨h, ho3, hE3⟩ (by omega)
  · simp at h
    obtain rfl : i = l.length := by omega
    rw [List.take_length] at ho
    (repeat (first | (apply WL.pure; rfl; rfl; rfl) | (apply WL.nil) | (apply EX.thenN) | (apply CW.seq) | (apply CW.region) | (apply CW.exit) | (apply EX.thenX) | (apply EX.inX) | (apply CW.ret)))
    exact EX.ret1 rfl rfl ⟨ho, hE⟩
end Go.Proofs.Ytllpfgcngokhnaa
