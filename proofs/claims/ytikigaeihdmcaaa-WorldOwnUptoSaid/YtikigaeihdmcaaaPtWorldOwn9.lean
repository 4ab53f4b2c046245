import Derived.Test.YtikigaeihdmcaaaPtWorldOwn8
/-
  Formulas of all ways: what they mean in a world. Plain law, no program in sight.
-/
set_option linter.unusedVariables false
set_option linter.unusedSimpArgs false
namespace Go.Proofs.Ytikigaeihdmcaaa

open Classical in
/-- of each of n states whether it is so -/
noncomputable def boolsN (n : Nat) (P : Nat → Prop) : List Bool := (List.range n).map fun i => decide (P i)
theorem boolsN_len {n : Nat} {P : Nat → Prop} : (boolsN n P).length = n := by simp [boolsN]
theorem boolsN_iff {n i : Nat} {P : Nat → Prop} (h : i < n) : (boolsN n P).getD i false = true ↔ P i := by
  unfold boolsN; rw [List.getD_eq_getElem?_getD, List.getElem?_map, List.getElem?_range h]; simp
theorem boolsN_congr {n : Nat} {P Q : Nat → Prop} (h : ∀ i, i < n → (P i ↔ Q i)) : boolsN n P = boolsN n Q := by
  refine List.ext_getElem (by rw [boolsN_len, boolsN_len]) fun i h1 h2 => ?_
  have hi : i < n := by rw [boolsN_len] at h1; exact h1
  rw [Bool.eq_iff_iff, ← wgetB h1, ← wgetB h2, boolsN_iff hi, boolsN_iff hi]
  exact h i hi
theorem boolsN_of {n : Nat} {P : Nat → Prop} {l : List Bool} (hl : l.length = n) (h : ∀ i, i < n → (l.getD i false = true ↔ P i)) : l = boolsN n P := by
  refine List.ext_getElem (by rw [boolsN_len]; exact hl) fun i h1 h2 => ?_
  have hi : i < n := by omega
  rw [Bool.eq_iff_iff, ← wgetB h1, ← wgetB h2, boolsN_iff hi]
  exact h i hi

/-- a fair way begins there -/
def fairP (nx fr : Graph) (n : Nat) : Prop := ∃ r, r 0 = n ∧ Way8 (Eg nx) (setPs fr) r
/-- .. one along which all is so -/
def egP (nx fr : Graph) (A : Nat → Prop) (n : Nat) : Prop := ∃ r, r 0 = n ∧ Way8 (Eg nx) (setPs fr) r ∧ ∀ i, A (r i)
inductive EuP (E : Nat → Nat → Prop) (A B : Nat → Prop) : Nat → Prop
  | here {n : Nat} : B n → EuP E A B n
  | step {n m : Nat} : A n → E n m → EuP E A B m → EuP E A B n
def euP (nx fr : Graph) (A B : Nat → Prop) : Nat → Prop := EuP (Eg nx) A fun n => B n ∧ fairP nx fr n
def exP (nx fr : Graph) (A : Nat → Prop) (n : Nat) : Prop := ∃ m, Eg nx n m ∧ A m ∧ fairP nx fr m
def auP (nx fr : Graph) (A B : Nat → Prop) (n : Nat) : Prop := ¬ (euP nx fr (fun i => ¬ B i) (fun i => ¬ A i ∧ ¬ B i) n ∨ egP nx fr (fun i => ¬ B i) n)

theorem Way8.tail {E : Nat → Nat → Prop} {Ps : List (Nat → Prop)} {r : Nat → Nat} (h : Way8 E Ps r) : Way8 E Ps fun i => r (i + 1) :=
  ⟨fun i => h.1 (i + 1), fun P hP i => by
    obtain ⟨j, hj, hp⟩ := h.2 P hP (i + 1)
    exact ⟨j - 1, by omega, by show P (r (j - 1 + 1)); rw [show j - 1 + 1 = j by omega]; exact hp⟩⟩
theorem Way8.drop {E : Nat → Nat → Prop} {Ps : List (Nat → Prop)} {r : Nat → Nat} (h : Way8 E Ps r) : ∀ k, Way8 E Ps fun i => r (i + k)
  | 0 => h
  | k + 1 => by
    have := (Way8.drop h k).tail
    rw [show (fun i => r (i + (k + 1))) = fun i => (fun j => r (j + k)) (i + 1) from funext fun i => by show r _ = r _; congr 1; omega]
    exact this
def consW (n : Nat) (r : Nat → Nat) : Nat → Nat := fun i => match i with | 0 => n | i + 1 => r i
theorem Way8.cons {E : Nat → Nat → Prop} {Ps : List (Nat → Prop)} {r : Nat → Nat} {n : Nat} (h : Way8 E Ps r) (he : E n (r 0)) : Way8 E Ps (consW n r) :=
  ⟨fun i => by
    cases i with
    | zero => exact he
    | succ i => exact h.1 i, fun P hP i => by
    obtain ⟨j, hj, hp⟩ := h.2 P hP i
    exact ⟨j + 1, by omega, hp⟩⟩
section
variable {nx fr : Graph} {A B : Nat → Prop}
theorem fairP_step {n : Nat} : fairP nx fr n ↔ ∃ m, Eg nx n m ∧ fairP nx fr m := by
  constructor
  · rintro ⟨r, rfl, h⟩
    exact ⟨r 1, h.1 0, _, rfl, h.tail⟩
  · rintro ⟨m, he, r, rfl, h⟩
    exact ⟨_, rfl, h.cons he⟩
theorem egP.fair {n : Nat} (h : egP nx fr A n) : fairP nx fr n := by
  obtain ⟨r, h0, h, _⟩ := h
  exact ⟨r, h0, h⟩
theorem euP.fair {n : Nat} (h : euP nx fr A B n) : fairP nx fr n := by
  unfold euP at h
  induction h with
  | here h => exact h.2
  | step h1 h2 h3 ih => exact fairP_step.2 ⟨_, h2, ih⟩
theorem EuP.congr {E : Nat → Nat → Prop} {A' B' : Nat → Prop} {N : Nat} (hE : ∀ u v, E u v → v < N) (hA : ∀ i, i < N → (A i → A' i)) (hB : ∀ i, i < N → (B i → B' i)) {n : Nat} (h : EuP E A B n) : n < N → EuP E A' B' n := by
  induction h with
  | here h => exact fun hn => .here (hB _ hn h)
  | step h1 h2 h3 ih => exact fun hn => .step (hA _ hn h1) h2 (ih (hE _ _ h2))
theorem Way8.lt {r : Nat → Nat} (hok : okG nx) (h : Way8 (Eg nx) (setPs fr) r) (i : Nat) : r i < nx.length := by
  cases i with
  | zero => exact (h.1 0).lt1
  | succ i => exact (h.1 i).lt hok
theorem within_egP (hok : okG nx) : withinB nx (boolsN nx.length A) fr = boolsN nx.length (egP nx fr A) := by
  refine boolsN_of withinB_len fun n hn => ?_
  rw [withinB_iff hn]
  constructor
  · rintro ⟨r, h0, h1, h2⟩
    have h3 := fun i => inG_edge.1 (h1 i)
    exact ⟨r, h0, ⟨fun i => (h3 i).1, h2⟩, fun i => (boolsN_iff (h3 i).1.lt1).1 (h3 i).2.1⟩
  · rintro ⟨r, h0, h, ha⟩
    exact ⟨r, h0, fun i => inG_edge.2 ⟨h.1 i, (boolsN_iff (h.lt hok i)).2 (ha i), (boolsN_iff (h.lt hok (i + 1))).2 (ha (i + 1))⟩, h.2⟩
theorem all_fairP (hok : okG nx) : allB nx fr = boolsN nx.length (fairP nx fr) := boolsN_of withinB_len fun n hn => allB_iff hok hn
end

/- FORMULAS -/
def ctlK (nx : Graph) (lb : List Nat) (fr : Graph) (k n : Int) (ks : List (Nat → Prop)) : Nat → Prop :=
  if k = 1 then fun _ => True
  else if k = 3 then fun i => lb.getD i 0 >>> n.toNat &&& 1 = 1
  else if k = 4 then fun i => ¬ ks.getD 0 (fun _ => False) i
  else if k = 5 then fun i => ks.getD 0 (fun _ => False) i ∧ ks.getD 1 (fun _ => False) i
  else if k = 6 then fun i => ks.getD 0 (fun _ => False) i ∨ ks.getD 1 (fun _ => False) i
  else if k = 7 then exP nx fr (ks.getD 0 (fun _ => False))
  else if k = 8 then euP nx fr (fun _ => True) (ks.getD 0 (fun _ => False))
  else if k = 9 then egP nx fr (ks.getD 0 (fun _ => False))
  else if k = 10 then euP nx fr (ks.getD 0 (fun _ => False)) (ks.getD 1 (fun _ => False))
  else if k = 11 then fun i => ¬ exP nx fr (fun j => ¬ ks.getD 0 (fun _ => False) j) i
  else if k = 12 then fun i => ¬ egP nx fr (fun j => ¬ ks.getD 0 (fun _ => False) j) i
  else if k = 13 then fun i => ¬ euP nx fr (fun _ => True) (fun j => ¬ ks.getD 0 (fun _ => False) j) i
  else if k = 14 then auP nx fr (ks.getD 0 (fun _ => False)) (ks.getD 1 (fun _ => False))
  else fun _ => False
mutual
def ctlF (nx : Graph) (lb : List Nat) (fr : Graph) : Ltl → Nat → Prop
  | .mk k n kids => ctlK nx lb fr k n (ctlFs nx lb fr kids)
def ctlFs (nx : Graph) (lb : List Nat) (fr : Graph) : List Ltl → List (Nat → Prop)
  | [] => []
  | x :: r => ctlF nx lb fr x :: ctlFs nx lb fr r
end
/- LAWS -/
section
variable {nx fr : Graph} {lb : List Nat} {f g : Ltl}
theorem euP_none {A B : Nat → Prop} (h : ∀ n, ¬ B n) {n : Nat} : ¬ euP nx fr A B n := by
  intro hn
  unfold euP at hn
  induction hn with
  | here hb => exact h _ hb.1
  | step _ _ _ ih => exact ih
end

/- WHAT A FAIR WAY SHOWS -/
section
variable {nx fr : Graph} {lb : List Nat} {f : Ltl} {r : Nat → Nat}
end

/- TWINS -/
structure Twin (N : Nat) (nx nx' : Graph) (lb lb' : List Nat) (fr fr' : Graph) : Prop where
  n : nx.length = N
  ok : okG nx
  n' : nx'.length = 2 * N
  ok' : okG nx'
  lab : ∀ k, k < 2 * N → lb'.getD k 0 = lb.getD (k % N) 0
  to : ∀ k m, Eg nx' k m → Eg nx (k % N) (m % N)
  fro : ∀ k t, k < 2 * N → Eg nx (k % N) t → ∃ m, Eg nx' k m ∧ m % N = t
  fl : fr'.length = fr.length
  fs : ∀ j x, x < 2 * N → ((x : Int) ∈ fr'.getD j [] ↔ ((x % N : Nat) : Int) ∈ fr.getD j [])
theorem setPs_iff {fr : Graph} {Q : (Nat → Prop) → Prop} : (∀ P ∈ setPs fr, Q P) ↔ ∀ j, j < fr.length → Q fun x => (x : Int) ∈ fr.getD j [] := by
  constructor
  · intro h j hj
    refine h _ (List.mem_map.2 ⟨fr[j], List.getElem_mem hj, ?_⟩)
    funext x
    rw [wgetDG hj]
  · intro h P hP
    obtain ⟨F, hF, rfl⟩ := List.mem_map.1 hP
    obtain ⟨j, hj, rfl⟩ := List.mem_iff_getElem.1 hF
    have := h j hj
    simp only [wgetDG hj] at this
    exact this
section
variable {N : Nat} {nx nx' fr fr' : Graph} {lb lb' : List Nat}
theorem Twin.down (h : Twin N nx nx' lb lb' fr fr') {r : Nat → Nat} (hr : Way8 (Eg nx') (setPs fr') r) : Way8 (Eg nx) (setPs fr) fun i => r i % N := by
  have hlt : ∀ i, r i < 2 * N := fun i => by rw [← h.n']; exact hr.lt h.ok' i
  refine ⟨fun i => h.to _ _ (hr.1 i), setPs_iff.2 fun j hj i => ?_⟩
  obtain ⟨k, hk, hp⟩ := setPs_iff.1 hr.2 j (by rw [h.fl]; exact hj) i
  exact ⟨k, hk, (h.fs j _ (hlt k)).1 hp⟩
open Classical in
theorem Twin.up (h : Twin N nx nx' lb lb' fr fr') {r : Nat → Nat} (hr : Way8 (Eg nx) (setPs fr) r) {k : Nat} (hk : k < 2 * N) (h0 : r 0 = k % N) : ∃ r', r' 0 = k ∧ Way8 (Eg nx') (setPs fr') r' ∧ ∀ i, r' i % N = r i := by
  let nxt : Nat → Nat → Nat := fun i x => if hx : x < 2 * N ∧ x % N = r i then Classical.choose (h.fro x (r (i + 1)) hx.1 (by rw [hx.2]; exact hr.1 i)) else 0
  have hnxt : ∀ i x, x < 2 * N → x % N = r i → Eg nx' x (nxt i x) ∧ nxt i x % N = r (i + 1) := by
    intro i x h1 h2
    have hx : x < 2 * N ∧ x % N = r i := ⟨h1, h2⟩
    show Eg nx' x (if hx : x < 2 * N ∧ x % N = r i then _ else 0) ∧ _
    rw [dif_pos hx]
    have := Classical.choose_spec (h.fro x (r (i + 1)) hx.1 (by rw [hx.2]; exact hr.1 i))
    refine ⟨this.1, ?_⟩
    show (if hx : x < 2 * N ∧ x % N = r i then _ else 0) % N = _
    rw [dif_pos hx]
    exact this.2
  let r' : Nat → Nat := fun i => Nat.rec (motive := fun _ => Nat) k (fun i x => nxt i x) i
  have hinv : ∀ i, r' i < 2 * N ∧ r' i % N = r i := by
    intro i
    induction i with
    | zero => exact ⟨hk, h0.symm⟩
    | succ i ih =>
      have h1 := hnxt i (r' i) ih.1 ih.2
      refine ⟨?_, h1.2⟩
      have := h1.1.lt h.ok'
      rw [h.n'] at this
      exact this
  have hstep : ∀ i, Eg nx' (r' i) (r' (i + 1)) := fun i => (hnxt i (r' i) (hinv i).1 (hinv i).2).1
  refine ⟨r', rfl, ⟨hstep, setPs_iff.2 fun j hj i => ?_⟩, fun i => (hinv i).2⟩
  obtain ⟨m, hm, hp⟩ := setPs_iff.1 hr.2 j (by rw [← h.fl]; exact hj) i
  exact ⟨m, hm, (h.fs j _ (hinv m).1).2 (by rw [(hinv m).2]; exact hp)⟩
variable {A A' B B' : Nat → Prop}
theorem Twin.fair (h : Twin N nx nx' lb lb' fr fr') {k : Nat} (hk : k < 2 * N) : fairP nx' fr' k ↔ fairP nx fr (k % N) := by
  constructor
  · rintro ⟨r, rfl, hr⟩; exact ⟨_, rfl, h.down hr⟩
  · rintro ⟨r, h0, hr⟩
    obtain ⟨r', h1, h2, _⟩ := h.up hr hk h0
    exact ⟨r', h1, h2⟩
theorem Twin.ex (h : Twin N nx nx' lb lb' fr fr') (hA : ∀ k, k < 2 * N → (A' k ↔ A (k % N))) {k : Nat} (hk : k < 2 * N) : exP nx' fr' A' k ↔ exP nx fr A (k % N) := by
  constructor
  · rintro ⟨m, h1, h2, h3⟩
    have hm : m < 2 * N := by rw [← h.n']; exact h1.lt h.ok'
    exact ⟨m % N, h.to _ _ h1, (hA m hm).1 h2, (h.fair hm).1 h3⟩
  · rintro ⟨t, h1, h2, h3⟩
    obtain ⟨m, h4, rfl⟩ := h.fro k t hk h1
    have hm : m < 2 * N := by rw [← h.n']; exact h4.lt h.ok'
    exact ⟨m, h4, (hA m hm).2 h2, (h.fair hm).2 h3⟩
end
end Go.Proofs.Ytikigaeihdmcaaa

/-
  Package label: ways that are shown: plain.
-/
set_option linter.unusedVariables false
set_option linter.unusedSimpArgs false
namespace Go.Proofs.Ytikigaeihdmcaaa
open Go.RowKit

/-- where something is to be come to, a way is found -/
theorem way_found {g : Graph} {f : List Int} {to : List Bool} (hg : okG g) (hl : g.length ≤ 20000) (hf : okL g.length f) (ht : to.length = g.length) (hr : ∃ n, n < g.length ∧ Rch g f n ∧ to.getD n false = true) :
    0 < (wayF g f to).1.length ∧ Short g f to (wayF g f to).1 (wayF g f to).2.1 := by
  have h0 : (wayF g f to).2.2 = 0 := by
    unfold wayF
    rw [if_neg (fun h => h (chkG_of hg hl)), if_neg (by
      rintro (h | h)
      · rw [oddB_false.2 hf] at h; cases h
      · exact h ht)]
    split <;> rfl
  have hs := (wayF_ok h0).2.2.2.2
  refine ⟨?_, hs⟩
  have h1 := hs.come.2 hr
  rw [hs.len] at h1
  exact of_decide_eq_true h1
/-- rows that are let through -/
def thrG (nx : Graph) (th to : List Bool) : Graph := (List.range nx.length).map fun k => if (th.getD k false && !to.getD k false) = true then nx.getD k [] else []
section
variable {nx : Graph} {th to : List Bool}
theorem thrG_len : (thrG nx th to).length = nx.length := by unfold thrG; rw [List.length_map, List.length_range]
theorem thrG_get {k : Nat} (h : k < nx.length) : (thrG nx th to).getD k [] = if (th.getD k false && !to.getD k false) = true then nx.getD k [] else [] := by
  unfold thrG
  rw [List.getD_eq_getElem?_getD, List.getElem?_map, List.getElem?_range h]; rfl
theorem okL_row {n : Nat} {g : Graph} (h : ∀ r ∈ g, okL n r) {k : Nat} : okL n (g.getD k []) := by
  by_cases e : k < g.length
  · rw [List.getD_eq_getElem?_getD, List.getElem?_eq_getElem e]; exact h _ (List.getElem_mem e)
  · rw [List.getD_eq_getElem?_getD, List.getElem?_eq_none (by omega)]; exact fun x hx => by cases hx
theorem thrG_ok (h : okG nx) : okG (thrG nx th to) := by
  intro r hr
  rw [thrG_len]
  obtain ⟨k, _, rfl⟩ := List.mem_map.1 hr
  split
  · exact okL_row h
  · exact fun x hx => by cases hx
/-- through some to others: it is come to -/
theorem thr_reach {A B : Nat → Prop} (hok : okG nx) {n : Nat} (hn : n < nx.length) (h : EuP (Eg nx) A B n) (hA : ∀ k, k < nx.length → A k → th.getD k false = true) (hB : ∀ k, k < nx.length → B k → to.getD k false = true) :
    ∃ m, m < nx.length ∧ Rc (Eg (thrG nx th to)) n m ∧ to.getD m false = true := by
  induction h with
  | here hb => exact ⟨_, hn, Rc.refl _, hB _ hn hb⟩
  | step ha he _ ih =>
    rename_i n m _
    by_cases hto : to.getD n false = true
    · exact ⟨n, hn, Rc.refl _, hto⟩
    obtain ⟨q, hq, hr, ht⟩ := ih (he.lt hok)
    refine ⟨q, hq, (Rc.one ?_).trans hr, ht⟩
    show ((m : Nat) : Int) ∈ (thrG nx th to).getD n []
    rw [thrG_get hn, if_pos (by rw [hA n hn ha, Bool.not_eq_true _ |>.mp hto]; rfl)]
    exact he
end
/-- a part whose states one may go round fairly -/
structure GoodPt (g : Graph) (part : List Int) (fr : Graph) (m : Nat) : Prop where
  lt : m < g.length
  edge : ∃ u, u < g.length ∧ part.getD u 0 = part.getD m 0 ∧ ∃ t ∈ g.getD u [], part.getD t.toNat 0 = part.getD m 0
  sets : ∀ F ∈ fr, ∃ x ∈ F, part.getD x.toNat 0 = part.getD m 0
/-- where a fair way goes, a good state is come to -/
theorem lasso_good {g fr : Graph} {part : List Int} (hg : okG g) (hP : PartsOK g part) {r : Nat → Nat} (hr : Way8 (Eg g) (setPs fr) r) (h0 : r 0 < g.length) : ∃ v i, r i = v ∧ Rc (Eg g) (r 0) v ∧ GoodPt g part fr v := by
  have hN : ∀ i, r i < g.length := fun i => by
    cases i with
    | zero => exact h0
    | succ i => exact (hr.1 i).lt hg
  obtain ⟨v, h1, h2, i, h3⟩ := way8_core hN hr
  have hv : v < g.length := h3 ▸ hN i
  refine ⟨v, i, h3, h1, hv, ?_, fun F hF => ?_⟩
  · obtain ⟨u, he, hb⟩ := h2.1
    have hu := he.lt hg
    refine ⟨v, hv, rfl, (u : Int), he, ?_⟩
    rw [Int.toNat_natCast]
    exact (hP.same u v hu hv).2 ⟨(rch1 hg).2 hb, (rch1 hg).2 (Rc.one he)⟩
  · obtain ⟨x, hx, hvx, hxv⟩ := h2.2 _ (List.mem_map_of_mem hF)
    refine ⟨(x : Int), hx, ?_⟩
    rw [Int.toNat_natCast]
    have hxl : x < g.length := by
      obtain ⟨p, k, hw⟩ := hvx
      cases k with
      | zero => rw [← hw.last, hw.first]; exact hv
      | succ k => rw [← hw.last]; exact (hw.step k (by omega)).lt hg
    exact (hP.same x v hxl hv).2 ⟨(rch1 hg).2 hxv, (rch1 hg).2 hvx⟩
/-- the part of m, with its edges -/
def rndG (g : Graph) (part : List Int) (m : Nat) : Graph := (List.range g.length).map fun k => (g.getD k []).filter fun t => decide (part.getD k 0 = part.getD m 0) && decide (part.getD t.toNat 0 = part.getD m 0)
section
variable {g : Graph} {part : List Int} {m : Nat}
theorem rndG_len : (rndG g part m).length = g.length := by unfold rndG; rw [List.length_map, List.length_range]
theorem rndG_get {k : Nat} (h : k < g.length) : (rndG g part m).getD k [] = (g.getD k []).filter fun t => decide (part.getD k 0 = part.getD m 0) && decide (part.getD t.toNat 0 = part.getD m 0) := by
  unfold rndG
  rw [List.getD_eq_getElem?_getD, List.getElem?_map, List.getElem?_range h]; rfl
theorem rndG_ok (h : okG g) : okG (rndG g part m) := by
  intro r hr
  rw [rndG_len]
  obtain ⟨k, _, rfl⟩ := List.mem_map.1 hr
  exact fun x hx => okL_row h x (List.mem_filter.1 hx).1
theorem rndG_mem {k : Nat} {t : Int} (hk : k < g.length) : t ∈ (rndG g part m).getD k [] ↔ t ∈ g.getD k [] ∧ part.getD k 0 = part.getD m 0 ∧ part.getD t.toNat 0 = part.getD m 0 := by
  rw [rndG_get hk, List.mem_filter]; simp
open Classical in
/-- within the part all is come to -/
theorem rnd_reach (hg : okG g) (hP : PartsOK g part) {u v : Nat} (hu : u < g.length) (hv : v < g.length) (pu : part.getD u 0 = part.getD m 0) (pv : part.getD v 0 = part.getD m 0) : Rc (Eg (rndG g part m)) u v := by
  have h := part_closed hg hP (C := ((List.range g.length).filter fun x => decide (part.getD x 0 = part.getD m 0 ∧ Rc (Eg (rndG g part m)) u x)).map fun x : Nat => (x : Int)) (c := part.getD m 0) (fun x hx k hk hpk => ?_) hu hv pu pv ?_
  · obtain ⟨x, hx, e⟩ := List.mem_map.1 h
    obtain rfl : x = v := by omega
    exact (of_decide_eq_true (List.mem_filter.1 hx).2).2
  · obtain ⟨y, hy, rfl⟩ := List.mem_map.1 hx
    obtain ⟨hy1, hy2⟩ := List.mem_filter.1 hy
    have hy2 := of_decide_eq_true hy2
    have hyl := List.mem_range.1 hy1
    rw [Int.toNat_natCast] at hk
    have hkr := okL_row hg k hk
    refine List.mem_map.2 ⟨k.toNat, List.mem_filter.2 ⟨List.mem_range.2 (by omega), decide_eq_true ⟨hpk, hy2.2.trans (Rc.one ?_)⟩⟩, by omega⟩
    show ((k.toNat : Nat) : Int) ∈ (rndG g part m).getD y []
    rw [show ((k.toNat : Nat) : Int) = k by omega, rndG_mem hyl]
    exact ⟨hk, hy2.1, hpk⟩
  · exact List.mem_map.2 ⟨u, List.mem_filter.2 ⟨List.mem_range.2 hu, decide_eq_true ⟨pu, Rc.refl _⟩⟩, rfl⟩
/-- a round so far -/
structure RndI (g : Graph) (part : List Int) (m : Nat) (i : Nat) (out : List Int) : Prop where
  ne : 0 < out.length
  rg : ∀ x ∈ out, (0 ≤ x ∧ x < (g.length : Int)) ∧ part.getD x.toNat 0 = part.getD m 0
  len : out.length ≤ 1 + i * (g.length + 1)
theorem RndI.start (hm : m < g.length) : RndI g part m 0 [(m : Int)] := ⟨by simp, fun x hx => by
  rw [List.mem_singleton] at hx; subst hx; exact ⟨⟨by omega, by omega⟩, by simp⟩, by simp⟩
theorem RndI.skip {i : Nat} {out : List Int} (h : RndI g part m i out) : RndI g part m (i + 1) out := ⟨h.ne, h.rg, by have := h.len; rw [Nat.add_mul]; omega⟩
theorem RndI.last {i : Nat} {out : List Int} (h : RndI g part m i out) : ∃ x : Nat, out[out.length - 1]? = some (x : Int) ∧ x < g.length ∧ part.getD x 0 = part.getD m 0 := by
  have hl : out.length - 1 < out.length := by have := h.ne; omega
  have h1 := h.rg _ (List.getElem_mem hl)
  refine ⟨out[out.length - 1].toNat, ?_, by omega, h1.2⟩
  rw [List.getElem?_eq_getElem hl]
  congr 1; omega
/-- a way in the part stays in it -/
theorem rnd_in (hg : okG g) {f l : List Int} {to : List Bool} {is : Bool} (hs : Short (rndG g part m) f to l is) (hf : ∀ x ∈ f, part.getD x.toNat 0 = part.getD m 0) : ∀ x ∈ l, (0 ≤ x ∧ x < (g.length : Int)) ∧ part.getD x.toNat 0 = part.getD m 0 := by
  intro x hx
  obtain ⟨i, hi, rfl⟩ := List.mem_iff_getElem.1 hx
  have h1 := hs.inR i hi
  rw [rndG_len] at h1
  refine ⟨h1, ?_⟩
  cases i with
  | zero => exact hf _ (hs.first hi)
  | succ i =>
    have h2 : l[i + 1] ∈ (rndG g part m).getD l[i].toNat [] := hs.edge (i + 1) hi (by omega)
    have h3 := hs.inR i (by omega)
    rw [rndG_len] at h3
    exact ((rndG_mem (by omega)).1 h2).2.2
/-- the set that is still to be met is come to -/
theorem rnd_set (hg : okG g) (hP : PartsOK g part) {fr : Graph} (hG : GoodPt g part fr m) {F : List Int} (hF : F ∈ fr) (hFl : okL g.length F) {x : Nat} (hx : x < g.length) (px : part.getD x 0 = part.getD m 0) {to : List Bool}
    (hto : ∀ y ∈ F, part.getD y.toNat 0 = part.getD m 0 → to.getD y.toNat false = true) : ∃ n, n < (rndG g part m).length ∧ Rch (rndG g part m) [(x : Int)] n ∧ to.getD n false = true := by
  obtain ⟨y, hy, hyp⟩ := hG.sets F hF
  have hyl := hFl y hy
  exact ⟨y.toNat, by rw [rndG_len]; omega, (rch1 (rndG_ok hg)).2 (rnd_reach hg hP hx (by omega) px hyp), hto y hy hyp⟩
/-- back to the first -/
theorem rnd_back (hg : okG g) (hP : PartsOK g part) {fr : Graph} (hG : GoodPt g part fr m) {x : Nat} (hx : x < g.length) (px : part.getD x 0 = part.getD m 0) {to : List Bool} (hto : to.getD m false = true) :
    ∃ n, n < (rndG g part m).length ∧ Rch (rndG g part m) ((rndG g part m).getD x []) n ∧ to.getD n false = true := by
  obtain ⟨u, hu, pu, t, ht, pt⟩ := hG.edge
  have htl := okL_row hg t ht
  have hE : Eg (rndG g part m) u t.toNat := by
    show ((t.toNat : Nat) : Int) ∈ _
    rw [show ((t.toNat : Nat) : Int) = t by omega, rndG_mem hu]
    exact ⟨ht, pu, pt⟩
  have hback := rnd_reach hg hP (by omega) hG.lt pt rfl
  refine ⟨m, by rw [rndG_len]; exact hG.lt, ?_, hto⟩
  have hr : ∃ s : Nat, (s : Int) ∈ (rndG g part m).getD x [] ∧ Rc (Eg (rndG g part m)) s m := by
    obtain ⟨p, k, hw⟩ := rnd_reach hg hP hx hu px pu
    cases k with
    | zero =>
      obtain rfl : x = u := by rw [← hw.first, ← hw.last]
      exact ⟨t.toNat, hE, hback⟩
    | succ k =>
      refine ⟨p 1, by have := hw.step 0 (by omega); rw [hw.first] at this; exact this, ?_⟩
      refine Rc.trans ⟨fun i => p (i + 1), k, rfl, hw.last, fun i hi => hw.step (i + 1) (by omega)⟩ ((Rc.one hE).trans hback)
  rw [rch_rc (rndG_ok hg) (fun y hy => (okL_row (rndG_ok hg) y hy).1)]
  exact hr
end
end Go.Proofs.Ytikigaeihdmcaaa

/-
  Package label: each, not, both, ex: walked.
-/
set_option linter.unusedVariables false
set_option linter.unusedSimpArgs false
namespace Go.Proofs.Ytikigaeihdmcaaa
open Go.RowKit

/-- a labeler of a world -/
def LabAt (w : World) (b : Nat) (nx : Graph) (lb : List Nat) (fr : Graph) : Prop :=
  ∃ (a1 : Option Addr) (c1 n1 : Nat) (a2 : Option Addr) (c2 : Nat) (a3 : Option Addr) (c3 : Nat) (a4 : Option Addr) (c4 : Nat) (ao : Option Addr) (ac : Nat) (bo : Option Addr) (bc : Nat),
    Blk w b 69 [.slice a1 n1 c1, .slice a2 nx.length c2, .slice a3 lb.length c3, .slice a4 fr.length c4, .slice ao (boolsN nx.length (fairP nx fr)).length ac, .slice bo (turnL nx).length bc] ∧
    Sl w (Old w) a2 c2 nx ∧ Sl w (Old w) a3 c3 lb ∧ Sl w (Old w) a4 c4 fr ∧ Sl w (Old w) ao ac (boolsN nx.length (fairP nx fr)) ∧ Sl w (Old w) bo bc (turnL nx)
theorem LabAt.up {w w' : World} {b : Nat} {nx fr : Graph} {lb : List Nat} (h : LabAt w b nx lb fr) (hE : Ext w w') : LabAt w' b nx lb fr := by
  obtain ⟨a1, c1, n1, a2, c2, a3, c3, a4, c4, ao, ac, bo, bc, hb, h2, h3, h4, h5, h6⟩ := h
  exact ⟨a1, c1, n1, a2, c2, a3, c3, a4, c4, ao, ac, bo, bc, hb.ext hE, h2.up hE, h3.up hE, h4.up hE, h5.up hE, h6.up hE⟩
/-- a world that passes -/
structure WOk (nx : Graph) (fr : Graph) : Prop where
  n : nx.length ≤ 600
  g : okG nx
  f : ∀ F ∈ fr, okL nx.length F
  e : edges nx ≤ 8589934592
abbrev labP (b : Nat) : Value := .pointer (some ⟨b, 0, none⟩)
theorem each_ok (w0 : World) {b : Nat} {nx fr : Graph} {lb : List Nat} (hL : LabAt w0 b nx lb fr) (hn : nx.length ≤ 600) {fv : Value} {P : Nat → Prop}
    (hf : ∀ (w : World) (n : Nat), Ext w0 w → n < nx.length → FnV Try.prog fv [.int .i64 (n : Int)] w fun v w' => ∃ c : Bool, v = .bool c ∧ (c = true ↔ P n) ∧ Ext w w') :
    Rt Try.prog 35 [labP b, fv].toArray w0 fun v w' => Own w' w0.heap.size 4 Non v (boolsN nx.length P) ∧ Ext w0 w' := by
  obtain ⟨a1, c1, n1, a2, c2, a3, c3, a4, c4, ao, ac, bo, bc, hb, h2, h3, h4, h5, h6⟩ := hL
  refine Rt.enter2 Try.func35 Try.ntmps35 rfl rfl ?_
  (repeat (first | (apply WL.pure; rfl; rfl; rfl) | (apply WL.nil) | (apply EX.thenN) | (apply CW.seq) | (apply CW.region) | (apply WL.lenS; rfl; rfl; rfl) | (apply WL.fa; rfl; rfl; rfl) | (apply WL.nck; rfl; rfl; rfl) | (apply WL.ld; rfl; rfl; rfl; assumption; rfl)))
  refine WL.make (α := Bool) rfl rfl rfl rfl (by omega) (by unfold maxLen; omega) (fun w3 ho3 hg3 => ?_)
  have e3 : Ext w0 w3 := (Below.refl _ _).grown hg3 (Nat.le_refl _) (fun k h => by cases h)
  generalize hsv : Value.slice (some ⟨w0.heap.size, 0, none⟩) nx.length nx.length = sv at *
  have hlv : ∃ ao cap, sv = .slice ao nx.length cap := ⟨_, _, hsv.symm⟩
  (repeat (first | (apply WL.pure; rfl; rfl; rfl) | (apply WL.nil) | (apply EX.thenN) | (apply CW.seq) | (apply CW.region) | (apply CW.block) | (refine WL.lenO rfl rfl rfl (by assumption) ?_)))
  rw [List.length_replicate]
  refine CW.loop (S := Nat × List Bool) (fun s => [(1, fv), (5, sv), (15, .int .i64 nx.length), (16, .int .i64 s.1)])
    (fun s w => s.1 ≤ nx.length ∧ Own w w0.heap.size 4 Non sv s.2 ∧ s.2.length = nx.length ∧ (∀ c, c < s.1 → (s.2.getD c false = true ↔ P c)) ∧ Ext w0 w) (fun s => nx.length - s.1) (0, List.replicate nx.length false) (by repeat (first | exact trivial | refine ⟨rfl, ?_⟩)) ⟨Nat.zero_le _, ho3, by simp, fun c hc => absurd hc (by dsimp only; omega), e3⟩ ?_
  rintro ⟨i, o⟩ w4 ⟨hi, ho, hil, hin, e4⟩
  dsimp only at hi ho hil hin ⊢
  (repeat (first | (apply WL.pure; rfl; rfl; rfl) | (apply WL.nil) | (apply EX.thenN) | (apply CW.seq) | (apply CW.region)))
  refine CW.cond rfl (fun h => ?_) (fun h => ?_)
  · have hi' : i < nx.length := by simp at h; omega
    (repeat (first | (apply WL.pure; rfl; rfl; rfl) | (apply WL.nil) | (apply EX.thenN) | (apply CW.seq) | (apply CW.region) | (apply CW.block) | (apply CW.skip)))
    refine WL.callF rfl rfl rfl rfl (hf w4 i e4 hi') ?_
    rintro _ w5 ⟨c, rfl, hc, e5⟩
    skip
    refine WL.setN (u := .bool c) (yv := c) rfl rfl rfl rfl (ho.extN e5) (show i < o.length by omega) (fun _ => rfl) (fun _ => rfl) (Rd.mkBool _ _ _) (fun w6 q2 ho6 hg6 => ?_)
    have e6 : Ext w0 w6 := (e4.trans e5).grown hg6 (e4.trans e5).size (fun b hb => (ho.lt b hb).1)
    (repeat (first | (apply WL.add; rfl; rfl; rfl; rfl; omega; omega) | (apply WL.pure; rfl; rfl; rfl) | (apply WL.nil) | (apply EX.thenN) | (apply CW.region) | (apply EX.inN)))
    refine EX.back (i + 1, o.set i c) (by repeat (first | exact trivial | refine ⟨rfl, ?_⟩)) ⟨hi', ho6, by simpa using hil, fun k hk => ?_, e6⟩ (by dsimp only; omega)
    dsimp only at hk ⊢
    rw [getD_set (by omega)]
    by_cases e : i = k
    · subst e; rw [if_pos rfl]; exact hc
    · rw [if_neg e]; exact hin k (by omega)
  obtain rfl : i = nx.length := by simp at h; omega
  rw [boolsN_of hil hin] at ho
  (repeat (first | (apply WL.pure; rfl; rfl; rfl) | (apply WL.nil) | (apply EX.thenN) | (apply CW.seq) | (apply CW.region) | (apply CW.exit) | (apply EX.thenX) | (apply EX.inX) | (apply CW.ret)))
  exact EX.ret1 rfl rfl ⟨ho, e4⟩
theorem lnot1 (w : World) {bb x : Nat} {ao : Option Addr} {ac : Nat} {l : List Bool} (hb : Blk w bb 34 [.slice ao l.length ac]) (hl : Sl w (Old w) ao ac l) (hx : x < l.length) :
    Rt Try.prog 55 [.int .i64 (x : Int), .pointer (some ⟨bb, 0, none⟩)].toArray w fun v w' => v = .bool (!l.getD x false) ∧ Ext w w' := by
  refine Rt.enter2 Try.func55 Try.ntmps55 rfl rfl ?_
  (repeat (first | (apply WL.pure; rfl; rfl; rfl) | (apply WL.nil) | (apply EX.thenN) | (apply CW.seq) | (apply CW.region) | (apply WL.ld; rfl; rfl; rfl; assumption; rfl)))
  refine WL.elemB rfl rfl rfl rfl rfl hl hx (wgetB hx).symm (fun _ => rfl) (fun q => ?_)
  (repeat (first | (apply WL.pure; rfl; rfl; rfl) | (apply WL.nil) | (apply EX.thenN) | (apply CW.ret)))
  exact EX.ret1 rfl rfl ⟨rfl, Ext.refl _⟩
theorem not_notB {c : Bool} {P : Prop} (h : c = true ↔ P) : (!c) = true ↔ ¬ P := by
  rw [← h]; cases c <;> simp
theorem lnot_ok (w0 : World) {b : Nat} {nx fr : Graph} {lb : List Nat} (hL : LabAt w0 b nx lb fr) (hn : nx.length ≤ 600) {ao : Option Addr} {ac : Nat} {P : Nat → Prop} (ha : Sl w0 (Old w0) ao ac (boolsN nx.length P)) :
    Rt Try.prog 38 [labP b, .slice ao (boolsN nx.length P).length ac].toArray w0 fun v w' => Own w' w0.heap.size 4 Non v (boolsN nx.length fun i => ¬ P i) ∧ Ext w0 w' := by
  refine Rt.enter2 Try.func38 Try.ntmps38 rfl rfl ?_
  (repeat (first | (apply CW.seq) | (apply CW.region)))
  refine WL.boxB rfl rfl rfl fun w1 hb1 e1 => ?_
  have hlt := hb1.lt
  (repeat (first | (apply WL.pure; rfl; rfl; rfl) | (apply WL.nil) | (apply EX.thenN) | (apply CW.seq) | (apply CW.region) | (apply WL.makeFunc; rfl; rfl; rfl; rfl)))
  refine WL.call rfl rfl rfl (each_ok w1 (P := fun i => ¬ P i) (hL.up e1) hn (fun w n hE hn => FnV.mk (f := 55) (Rt.mono (lnot1 w (hb1.ext hE) (ha.up (e1.trans hE)) (show n < _ by rw [boolsN_len]; exact hn)) (fun v w' hv => ⟨_, hv.1, not_notB (boolsN_iff hn), hv.2⟩)))) ?_
  rintro _ w2 ⟨ho, e2⟩
  (repeat (first | (apply WL.pure; rfl; rfl; rfl) | (apply WL.nil) | (apply EX.thenN) | (apply CW.ret)))
  exact EX.ret1 rfl rfl ⟨ho.low e1.size, e1.trans e2⟩
theorem lboth1 (w : World) {b1 b2 x : Nat} {ao bo : Option Addr} {ac bc : Nat} {l k : List Bool} (hb1 : Blk w b1 34 [.slice ao l.length ac]) (hb2 : Blk w b2 34 [.slice bo k.length bc]) (hl : Sl w (Old w) ao ac l) (hk : Sl w (Old w) bo bc k) (hx : x < l.length) (hx2 : x < k.length) :
    Rt Try.prog 56 [.int .i64 (x : Int), .pointer (some ⟨b1, 0, none⟩), .pointer (some ⟨b2, 0, none⟩)].toArray w fun v w' => v = .bool (l.getD x false && k.getD x false) ∧ Ext w w' := by
  refine Rt.enter3 Try.func56 Try.ntmps56 rfl rfl ?_
  (repeat (first | (apply WL.pure; rfl; rfl; rfl) | (apply WL.nil) | (apply EX.thenN) | (apply CW.seq) | (apply CW.region) | (apply WL.ld; rfl; rfl; rfl; assumption; rfl)))
  refine WL.elemB rfl rfl rfl rfl rfl hl hx (wgetB hx).symm (fun _ => rfl) (fun q => ?_)
  generalize l.getD x false = c
  cases c with
  | false =>
    (repeat (first | (apply WL.pure; rfl; rfl; rfl) | (apply WL.nil) | (apply EX.thenN) | (apply WL.pass; rfl; rfl) | (apply CW.ret)))
    exact EX.ret1 rfl rfl ⟨rfl, Ext.refl _⟩
  | true =>
    (repeat (first | (apply WL.pure; rfl; rfl; rfl) | (apply WL.ld; rfl; rfl; rfl; assumption; rfl)))
    refine WL.elemB rfl rfl rfl rfl rfl hk hx2 (wgetB hx2).symm (fun _ => rfl) (fun q2 => ?_)
    (repeat (first | (apply WL.pure; rfl; rfl; rfl) | (apply WL.nil) | (apply EX.thenN) | (apply CW.ret)))
    exact EX.ret1 rfl rfl ⟨rfl, Ext.refl _⟩
theorem and_andB {c d : Bool} {P Q : Prop} (h : c = true ↔ P) (k : d = true ↔ Q) : (c && d) = true ↔ P ∧ Q := by
  rw [← h, ← k]; cases c <;> cases d <;> simp
theorem lboth_ok (w0 : World) {b : Nat} {nx fr : Graph} {lb : List Nat} (hL : LabAt w0 b nx lb fr) (hn : nx.length ≤ 600) {ao bo : Option Addr} {ac bc : Nat} {P Q : Nat → Prop} (ha : Sl w0 (Old w0) ao ac (boolsN nx.length P)) (hb : Sl w0 (Old w0) bo bc (boolsN nx.length Q)) :
    Rt Try.prog 39 [labP b, .slice ao (boolsN nx.length P).length ac, .slice bo (boolsN nx.length Q).length bc].toArray w0 fun v w' => Own w' w0.heap.size 4 Non v (boolsN nx.length fun i => P i ∧ Q i) ∧ Ext w0 w' := by
  refine Rt.enter3 Try.func39 Try.ntmps39 rfl rfl ?_
  (repeat (first | (apply CW.seq) | (apply CW.region)))
  refine WL.boxB rfl rfl rfl fun w1 hb1 e1 => ?_
  skip
  refine WL.boxB rfl rfl rfl fun w2 hb2 e2 => ?_
  have hb1 := hb1.ext e2
  have hE := e1.trans e2
  (repeat (first | (apply WL.pure; rfl; rfl; rfl) | (apply WL.nil) | (apply EX.thenN) | (apply CW.seq) | (apply CW.region) | (apply WL.makeFunc; rfl; rfl; rfl; rfl)))
  refine WL.call rfl rfl rfl (each_ok w2 (P := fun i => P i ∧ Q i) (hL.up hE) hn (fun w n hE2 hn => FnV.mk (f := 56) (Rt.mono (lboth1 w (hb1.ext hE2) (hb2.ext hE2) (ha.up (hE.trans hE2)) (hb.up (hE.trans hE2)) (show n < _ by rw [boolsN_len]; exact hn) (show n < _ by rw [boolsN_len]; exact hn)) (fun v w' hv => ⟨_, hv.1, and_andB (boolsN_iff hn) (boolsN_iff hn), hv.2⟩)))) ?_
  rintro _ w3 ⟨ho, e3⟩
  (repeat (first | (apply WL.pure; rfl; rfl; rfl) | (apply WL.nil) | (apply EX.thenN) | (apply CW.ret)))
  exact EX.ret1 rfl rfl ⟨ho.low hE.size, hE.trans e3⟩
theorem lex1 (w : World) {b b1 b2 x : Nat} {nx fr : Graph} {lb : List Nat} (hL : LabAt w b nx lb fr) (hok : okG nx) {ao : Option Addr} {ac : Nat} {P : Nat → Prop} (hb1 : Blk w b1 56 [labP b]) (hb2 : Blk w b2 34 [.slice ao (boolsN nx.length P).length ac])
    (hl : Sl w (Old w) ao ac (boolsN nx.length P)) (hx : x < nx.length) :
    Rt Try.prog 57 [.int .i64 (x : Int), .pointer (some ⟨b1, 0, none⟩), .pointer (some ⟨b2, 0, none⟩)].toArray w fun v w' => ∃ c : Bool, v = .bool c ∧ (c = true ↔ exP nx fr P x) ∧ Ext w w' := by
  obtain ⟨a1, c1, n1, a2, c2, a3, c3, a4, c4, fo, fc, bo, bc, hb, h2, h3, h4, h5, h6⟩ := hL
  have hrow := okG_row hok x
  rw [wgetDG hx] at hrow
  have hmem : ∀ m : Nat, Eg nx x m ↔ (m : Int) ∈ nx[x] := fun m => by unfold Eg; rw [wgetDG hx]
  refine Rt.enter3 Try.func57 Try.ntmps57 rfl rfl ?_
  (repeat (first | (apply WL.pure; rfl; rfl; rfl) | (apply WL.nil) | (apply EX.thenN) | (apply CW.seq) | (apply CW.region) | (apply WL.fa; rfl; rfl; rfl) | (apply WL.nck; rfl; rfl; rfl) | (apply WL.ld; rfl; rfl; rfl; assumption; rfl)))
  refine WL.elemN rfl rfl rfl rfl rfl h2 hx (fun _ => rfl) (fun u q hu => ?_)
  obtain ⟨ro, rc, rfl, hr⟩ := hu.sl
  have hrl := hr.len63
  generalize nx[x] = row at *
  (repeat (first | (apply WL.pure; rfl; rfl; rfl) | (apply WL.nil) | (apply EX.thenN) | (apply WL.lenS; rfl; rfl; rfl) | (apply CW.block)))
  refine CW.loop (S := Nat) (fun i => [(1, .pointer (some ⟨b1, 0, none⟩)), (2, .pointer (some ⟨b2, 0, none⟩)), (14, .slice ro row.length rc), (15, .int .i64 row.length), (16, .int .i64 i)])
    (fun i w' => w' = w ∧ i ≤ row.length ∧ ∀ m : Nat, (m : Int) ∈ row.take i → ¬ (P m ∧ fairP nx fr m)) (fun i => row.length - i) 0 (by repeat (first | exact trivial | refine ⟨rfl, ?_⟩)) ⟨rfl, Nat.zero_le _, fun m hm => by simp at hm⟩ ?_
  rintro i w' ⟨rfl, hi, hno⟩
  (repeat (first | (apply WL.pure; rfl; rfl; rfl) | (apply WL.nil) | (apply EX.thenN) | (apply CW.seq) | (apply CW.region)))
  refine CW.cond rfl (fun h => ?_) (fun h => ?_)
  · have hi' : i < row.length := by simp at h; omega
    obtain ⟨k, hk⟩ : ∃ k : Nat, row[i] = (k : Int) := ⟨(row[i]).toNat, by have := hrow _ (List.getElem_mem hi'); omega⟩
    have hkn : k < nx.length := by have := hrow _ (List.getElem_mem hi'); omega
    have htk : row.take (i + 1) = row.take i ++ [(k : Int)] := by rw [List.take_add_one, List.getElem?_eq_getElem hi', hk]; rfl
    have hin : (k : Int) ∈ row := hk ▸ List.getElem_mem hi'
    have bP := boolsN_iff (P := P) hkn
    have bF := boolsN_iff (P := fairP nx fr) hkn
    (repeat (first | (apply EX.thenN) | (apply CW.seq) | (apply CW.region) | (apply CW.block) | (apply CW.skip)))
    refine WL.elemI rfl rfl rfl rfl rfl hr hi' hk (fun _ => rfl) (fun q => ?_)
    (repeat (first | (apply WL.pure; rfl; rfl; rfl) | (apply WL.nil) | (apply EX.thenN) | (apply CW.seq) | (apply CW.region) | (apply WL.ld; rfl; rfl; rfl; assumption; rfl)))
    refine WL.elemB rfl rfl rfl rfl rfl hl (show k < _ by rw [boolsN_len]; exact hkn) (wgetB _).symm (fun _ => rfl) (fun q2 => ?_)
    generalize (boolsN nx.length P).getD k false = c at *
    cases c with
    | false =>
      (repeat (first | (apply WL.add; rfl; rfl; rfl; rfl; omega; omega) | (apply WL.pure; rfl; rfl; rfl) | (apply WL.nil) | (apply EX.thenN) | (apply CW.region) | (apply WL.pass; rfl; rfl) | (apply EX.inN) | (apply CW.condF; rfl) | (apply CW.skip)))
      refine EX.back (i + 1) (by repeat (first | exact trivial | refine ⟨rfl, ?_⟩)) ⟨rfl, hi', fun m hm => ?_⟩ (by omega)
      rw [htk] at hm
      rcases List.mem_append.1 hm with hm | hm
      · exact hno m hm
      · have : m = k := by have := List.mem_singleton.1 hm; omega
        subst this
        exact fun h => by have := bP.2 h.1; cases this
    | true =>
      (repeat (first | (apply WL.pure; rfl; rfl; rfl) | (apply WL.fa; rfl; rfl; rfl) | (apply WL.nck; rfl; rfl; rfl) | (apply WL.ld; rfl; rfl; rfl; assumption; rfl)))
      refine WL.elemB rfl rfl rfl rfl rfl h5 (show k < _ by rw [boolsN_len]; exact hkn) (wgetB _).symm (fun _ => rfl) (fun q3 => ?_)
      generalize (boolsN nx.length (fairP nx fr)).getD k false = c at *
      cases c with
      | false =>
        (repeat (first | (apply WL.add; rfl; rfl; rfl; rfl; omega; omega) | (apply WL.pure; rfl; rfl; rfl) | (apply WL.nil) | (apply EX.thenN) | (apply CW.region) | (apply EX.inN) | (apply CW.condF; rfl) | (apply CW.skip)))
        refine EX.back (i + 1) (by repeat (first | exact trivial | refine ⟨rfl, ?_⟩)) ⟨rfl, hi', fun m hm => ?_⟩ (by omega)
        rw [htk] at hm
        rcases List.mem_append.1 hm with hm | hm
        · exact hno m hm
        · have : m = k := by have := List.mem_singleton.1 hm; omega
          subst this
          exact fun h => by have := bF.2 h.2; cases this
      | true =>
        (repeat (first | (apply WL.pure; rfl; rfl; rfl) | (apply WL.nil) | (apply EX.thenN) | (apply CW.seq) | (apply CW.region) | (apply CW.condT; rfl) | (apply CW.ret) | (apply EX.thenR) | (apply EX.inR)))
        exact EX.ret1 rfl rfl ⟨_, rfl, ⟨fun _ => ⟨k, (hmem k).2 hin, bP.1 rfl, bF.1 rfl⟩, fun _ => rfl⟩, Ext.refl _⟩
  · obtain rfl : i = row.length := by simp at h; omega
    rw [List.take_length] at hno
    (repeat (first | (apply WL.pure; rfl; rfl; rfl) | (apply WL.nil) | (apply EX.thenN) | (apply CW.seq) | (apply CW.region) | (apply CW.exit) | (apply EX.thenX) | (apply EX.inX) | (apply CW.ret)))
    refine EX.ret1 rfl rfl ⟨_, rfl, ⟨(fun h => by cases h), fun ⟨m, h1, h2⟩ => absurd h2 (hno m ((hmem m).1 h1))⟩, Ext.refl _⟩
theorem lex_ok (w0 : World) {b : Nat} {nx fr : Graph} {lb : List Nat} (hL : LabAt w0 b nx lb fr) (hok : okG nx) (hn : nx.length ≤ 600) {ao : Option Addr} {ac : Nat} {P : Nat → Prop} (ha : Sl w0 (Old w0) ao ac (boolsN nx.length P)) :
    Rt Try.prog 41 [labP b, .slice ao (boolsN nx.length P).length ac].toArray w0 fun v w' => Own w' w0.heap.size 4 Non v (boolsN nx.length (exP nx fr P)) ∧ Ext w0 w' := by
  refine Rt.enter2 Try.func41 Try.ntmps41 rfl rfl ?_
  (repeat (first | (apply CW.seq) | (apply CW.region)))
  refine WL.boxB rfl rfl rfl fun w1 hb1 e1 => ?_
  skip
  refine WL.boxB rfl rfl rfl fun w2 hb2 e2 => ?_
  have hb1 := hb1.ext e2
  have hE := e1.trans e2
  (repeat (first | (apply WL.pure; rfl; rfl; rfl) | (apply WL.nil) | (apply EX.thenN) | (apply CW.seq) | (apply CW.region) | (apply WL.makeFunc; rfl; rfl; rfl; rfl) | (apply WL.ld; rfl; rfl; rfl; assumption; rfl)))
  refine WL.call rfl rfl rfl (each_ok w2 (P := exP nx fr P) (hL.up hE) hn (fun w n hE2 hn => FnV.mk (f := 57) (lex1 w (hL.up (hE.trans hE2)) hok (hb1.ext hE2) (hb2.ext hE2) (ha.up (hE.trans hE2)) hn))) ?_
  rintro _ w3 ⟨ho, e3⟩
  (repeat (first | (apply WL.pure; rfl; rfl; rfl) | (apply WL.nil) | (apply EX.thenN) | (apply CW.ret)))
  exact EX.ret1 rfl rfl ⟨ho.low hE.size, hE.trans e3⟩
end Go.Proofs.Ytikigaeihdmcaaa

/-
  Package scc: Way.
-/
set_option linter.unusedVariables false
set_option linter.unusedSimpArgs false
namespace Go.Proofs.Ytikigaeihdmcaaa
open Go.RowKit

theorem dAt_at {d : List Int} {k : Nat} (h : k < d.length) : dAt d (k : Int) = d[k] := by unfold dAt; rw [Int.toNat_natCast, getD_at h]
theorem wayPick_next (d : List Int) (l : List Int) (j : Nat) (h : j < l.length) : wayPick d (l.take (j + 1)) = if pickB d (wayPick d (l.take j)) l[j] then l[j] else wayPick d (l.take j) := by
  unfold wayPick; rw [List.take_succ_eq_append_getElem h, List.foldl_append]; rfl
theorem wayNext_next (d : List Int) (a : Int) (l : List Int) (j : Nat) (h : j < l.length) : wayNext d a (l.take (j + 1)) = if nextB d a (wayNext d a (l.take j)) l[j] then l[j] else wayNext d a (l.take j) := by
  unfold wayNext; rw [List.take_succ_eq_append_getElem h, List.foldl_append]; rfl
theorem wayPick_in (d : List Int) (l : List Int) : wayPick d l = -1 ∨ wayPick d l ∈ l := by
  have key : ∀ (l : List Int) (a : Int), l.foldl (fun at' n => if pickB d at' n then n else at') a = a ∨ l.foldl (fun at' n => if pickB d at' n then n else at') a ∈ l := by
    intro l
    induction l with
    | nil => intro a; exact .inl rfl
    | cons x l ih =>
      intro a
      rcases ih (if pickB d a x then x else a) with h | h
      · rw [List.foldl_cons, h]
        split
        · exact .inr (by simp)
        · exact .inl rfl
      · exact .inr (List.mem_cons_of_mem _ h)
  exact key l (-1)
theorem Way_ok (w0 : World) {ao fo lo : Option Addr} {cap fc lc : Nat} {g : List (List Int)} {f : List Int} {to : List Bool} (hs : Sl w0 (Old w0) ao cap g) (hf : Sl w0 (Old w0) fo fc f) (ht : Sl w0 (Old w0) lo lc to) :
    Rt Try.prog 60 [.slice ao g.length cap, .slice fo f.length fc, .slice lo to.length lc].toArray w0 fun r w' => ∃ v, r = .tuple ⟨[v, .bool (wayF g f to).2.1, .int .i64 (wayF g f to).2.2]⟩ ∧ Own w' w0.heap.size 3 Non v (wayF g f to).1 ∧ Ext w0 w' := by
  have hgl := hs.len63
  have hfl := hf.len63
  have htl := ht.len63
  refine Rt.enter3 Try.func60 Try.ntmps60 rfl rfl ?_
  (repeat (first | (apply WL.pure; rfl; rfl; rfl) | (apply WL.nil) | (apply EX.thenN) | (apply CW.seq) | (apply CW.region)))
  refine WL.call rfl rfl rfl (chk_ok w0 hs) ?_
  rintro v w1 ⟨rfl, hE1⟩
  (repeat (first | (apply WL.pure; rfl; rfl; rfl) | (apply WL.nil) | (apply EX.thenN) | (apply CW.seq) | (apply CW.region)))
  refine CW.cond rfl (fun h => ?_) (fun h => ?_)
  · have hc : chkG g ≠ 0 := by simpa using h
    (repeat (first | (apply WL.pure; rfl; rfl; rfl) | (apply WL.nil) | (apply EX.thenN) | (apply CW.seq) | (apply CW.region) | (apply CW.ret) | (apply EX.thenR)))
    exact EX.ret3 rfl rfl rfl rfl ⟨.slice none 0 0, by rw [wayF, if_pos hc], by rw [wayF, if_pos hc]; exact Own.nil, hE1⟩
  have hc : chkG g = 0 := by simpa using h
  obtain ⟨hg, hg2⟩ := chkG_ok hc
  (repeat (first | (apply WL.pure; rfl; rfl; rfl) | (apply EX.thenN) | (apply CW.seq) | (apply CW.region) | (apply CW.skip)))
  refine WL.call rfl rfl rfl (odd_ok w1 (hs.up hE1) (hf.up hE1)) ?_
  rintro v w2 ⟨rfl, hE2⟩
  have hE2 := hE1.trans hE2
  refine WL.pure rfl rfl rfl ?_
  have hodd : oddB g.length f = true ∨ to.length ≠ g.length → wayF g f to = ([], false, 1) := fun h => by rw [wayF, if_neg (by simp [hc]), if_pos h]
  (refine WL.lookG rfl rfl (fun h => ?_) (fun h => ?_))
  · (repeat (first | (apply WL.pure; rfl; rfl; rfl) | (apply WL.nil) | (apply EX.thenN) | (apply CW.seq) | (apply CW.region) | (apply WL.pass; rfl; rfl) | (apply CW.condT; rfl) | (apply CW.ret) | (apply EX.thenR)))
    exact EX.ret3 rfl rfl rfl rfl ⟨.slice none 0 0, by rw [hodd (.inl h)], by rw [hodd (.inl h)]; exact Own.nil, hE2⟩
  (repeat (first | (apply WL.pure; rfl; rfl; rfl) | (apply WL.nil) | (apply EX.thenN) | (apply WL.lenS; rfl; rfl; rfl)))
  refine CW.cond rfl (fun h1 => ?_) (fun h1 => ?_)
  · have h1 : to.length ≠ g.length := by simp at h1; omega
    (repeat (first | (apply WL.pure; rfl; rfl; rfl) | (apply WL.nil) | (apply EX.thenN) | (apply CW.seq) | (apply CW.region) | (apply CW.ret) | (apply EX.thenR)))
    exact EX.ret3 rfl rfl rfl rfl ⟨.slice none 0 0, by rw [hodd (.inr h1)], by rw [hodd (.inr h1)]; exact Own.nil, hE2⟩
  have htg : to.length = g.length := by simp at h1; omega
  have hof : okL g.length f := oddB_false.1 h
  have eW : wayF g f to = if wayPick (farL g to) f < 0 then ([], false, 0) else (wayGo g (farL g to) g.length (wayPick (farL g to) f), true, 0) := by
    rw [wayF, if_neg (by simp [hc]), if_neg (by simp [h, htg])]
  clear hodd
  have hI := farL_inv htg
  (repeat (first | (apply WL.pure; rfl; rfl; rfl) | (apply EX.thenN) | (apply CW.seq) | (apply CW.region) | (apply CW.skip)))
  refine WL.call rfl rfl rfl (far_ok w2 (hs.up hE2) (ht.up hE2) (fun _ h => h) hg (by omega) htg) ?_
  rintro dv w3 ⟨hod, hE3⟩
  have hE3 := hE2.trans hE3
  obtain ⟨dO, dc, rfl, hd⟩ := hod.oldN.sl
  generalize hfa : farL g to = d at *
  have hdl : d.length = g.length := hI.len
  (repeat (first | (apply WL.pure; rfl; rfl; rfl) | (apply WL.nil) | (apply EX.thenN) | (apply CW.seq) | (apply CW.region) | (apply WL.lenS; rfl; rfl; rfl) | (apply CW.block)))
  refine CW.loop (S := Nat) (fun j => [(0, .slice ao g.length cap), (10, .slice dO d.length dc), (11, .int .i64 (wayPick d (f.take j))), (36, .slice fo f.length fc), (37, .int .i64 f.length), (38, .int .i64 j)])
    (fun j w => j ≤ f.length ∧ Ext w3 w) (fun j => f.length - j) 0 (by repeat (first | exact trivial | refine ⟨rfl, ?_⟩)) ⟨by omega, Ext.refl _⟩ ?_
  rintro j w ⟨hj, hE⟩
  (repeat (first | (apply WL.pure; rfl; rfl; rfl) | (apply WL.nil) | (apply EX.thenN) | (apply CW.seq) | (apply CW.region)))
  refine CW.cond rfl (fun hlt => ?_) (fun hlt => ?_)
  · simp at hlt
    have hx := hof _ (List.getElem_mem hlt)
    obtain ⟨n, en⟩ := Int.eq_ofNat_of_zero_le hx.1
    have hnd : n < d.length := by omega
    have hpn := wayPick_next d f j hlt
    rw [en] at hpn
    have hpin := wayPick_in d (f.take j)
    generalize hp : wayPick d (f.take j) = p at *
    have hpr : p = -1 ∨ ∃ a : Nat, p = (a : Int) ∧ a < d.length := by
      rcases hpin with h | h
      · exact .inl h
      · have := hof _ (List.mem_of_mem_take h)
        obtain ⟨a, ea⟩ := Int.eq_ofNat_of_zero_le this.1
        exact .inr ⟨a, ea, by omega⟩
    have hdw := hd.up hE
    (repeat (first | (apply EX.thenN) | (apply CW.seq) | (apply CW.region) | (apply CW.block) | (apply CW.skip)))
    refine WL.elemI rfl rfl rfl rfl rfl ((hf.at hE3).mono (fun b hb => hE.block b (Nat.lt_of_lt_of_le hb hE3.size)) fun _ h => h) hlt en (fun _ => rfl) (fun q => ?_)
    (repeat (apply WL.pure; rfl; rfl; rfl))
    apply WL.nil
    apply EX.thenN
    refine CW.cutE [(0, .slice ao g.length cap), (10, .slice dO d.length dc), (11, .int .i64 p), (13, .int .i64 n), (36, .slice fo f.length fc), (37, .int .i64 f.length), (38, .int .i64 j), (77, .bool (pickB d p n))] ?_ ?_
    · (repeat (first | (apply QL.pure; rfl; rfl; rfl) | (apply CW.draw; exact mixed; kernel_rfl)))
      refine QL.elemI rfl rfl rfl rfl rfl (fun _ h => h) hdw hnd rfl (fun _ => rfl) (fun q => ?_)
      (repeat (apply QL.pure; rfl; rfl; rfl))
      (refine QL.lookG rfl rfl (fun h => ?_) (fun h => ?_))
      rotate_left
      · have e : pickB d p n = false := by unfold pickB; rw [dAt_at hnd]; simp at h; simp; omega
        (repeat (first | (apply QL.pure; rfl; rfl; rfl) | (apply QL.pass; rfl; rfl)))
        refine QL.nil (fun w4 hE4 => ?_)
        rw [e]
        exact EX.cutE (by repeat (first | exact trivial | refine ⟨rfl, ?_⟩)) hE4
      have h0 : 0 ≤ d[n] := by simpa using h
      (repeat (apply QL.pure; rfl; rfl; rfl))
      (refine QL.lookG rfl rfl (fun h => ?_) (fun h => ?_))
      · have e : pickB d p n = true := by unfold pickB; rw [dAt_at hnd]; simp at h; simp [h, h0]
        (repeat (first | (apply QL.pure; rfl; rfl; rfl) | (apply QL.pass; rfl; rfl)))
        refine QL.nil (fun w4 hE4 => ?_)
        rw [e]
        exact EX.cutE (by repeat (first | exact trivial | refine ⟨rfl, ?_⟩)) hE4
      have hp0 : ¬ p < 0 := by simpa using h
      obtain ⟨a, rfl, had⟩ : ∃ a : Nat, p = (a : Int) ∧ a < d.length := by
        rcases hpr with h | h
        · omega
        · exact h
      have eP : pickB d a n = (decide (d[n] < d[a]) || (decide (d[n] = d[a]) && decide ((n : Int) < a))) := by
        unfold pickB; rw [dAt_at hnd, dAt_at had]; simp [h0, hp0]
      (repeat (apply QL.pure; rfl; rfl; rfl))
      refine QL.elemI rfl rfl rfl rfl rfl (fun _ h => h) hdw hnd rfl (fun _ => rfl) (fun q => ?_)
      (repeat (apply QL.pure; rfl; rfl; rfl))
      refine QL.elemI rfl rfl rfl rfl rfl (fun _ h => h) hdw had rfl (fun _ => rfl) (fun q => ?_)
      (repeat (apply QL.pure; rfl; rfl; rfl))
      (refine QL.lookG rfl rfl (fun h => ?_) (fun h => ?_))
      · have h3 : d[n] < d[a] := by simpa using h
        (repeat (first | (apply QL.pure; rfl; rfl; rfl) | (apply QL.pass; rfl; rfl)))
        refine QL.nil (fun w4 hE4 => ?_)
        rw [eP]
        simp only [h3, decide_true, Bool.true_or]
        exact EX.cutE (by repeat (first | exact trivial | refine ⟨rfl, ?_⟩)) hE4
      have h3 : ¬ d[n] < d[a] := by simpa using h
      (repeat (apply QL.pure; rfl; rfl; rfl))
      refine QL.elemI rfl rfl rfl rfl rfl (fun _ h => h) hdw hnd rfl (fun _ => rfl) (fun q => ?_)
      (repeat (apply QL.pure; rfl; rfl; rfl))
      refine QL.elemI rfl rfl rfl rfl rfl (fun _ h => h) hdw had rfl (fun _ => rfl) (fun q => ?_)
      (repeat (apply QL.pure; rfl; rfl; rfl))
      (refine QL.lookG rfl rfl (fun h => ?_) (fun h => ?_))
      · have h4 : d[n] = d[a] := by simpa using h
        (repeat (apply QL.pure; rfl; rfl; rfl))
        refine QL.nil (fun w4 hE4 => ?_)
        rw [eP]
        simp only [h4, decide_true, Bool.true_and, Int.lt_irrefl, decide_false, Bool.false_or]
        exact EX.cutE (by repeat (first | exact trivial | refine ⟨rfl, ?_⟩)) hE4
      · have h4 : ¬ d[n] = d[a] := by simpa using h
        (repeat (first | (apply QL.pure; rfl; rfl; rfl) | (apply QL.pass; rfl; rfl)))
        refine QL.nil (fun w4 hE4 => ?_)
        rw [eP]
        simp only [h3, h4, decide_false, Bool.false_and, Bool.false_or]
        exact EX.cutE (by repeat (first | exact trivial | refine ⟨rfl, ?_⟩)) hE4
    · rintro w4 hE4
      refine CW.cond rfl (fun h2 => ?_) (fun h2 => ?_)
      · rw [if_pos h2] at hpn
        (repeat (first | (apply WL.add; rfl; rfl; rfl; rfl; omega; omega) | (apply WL.pure; rfl; rfl; rfl) | (apply WL.nil) | (apply EX.thenN) | (apply CW.region) | (apply EX.inN)))
        refine EX.back (j + 1) ?_ ⟨hlt, hE.trans hE4⟩ (by omega)
        rw [hpn]
        exact (by repeat (first | exact trivial | refine ⟨rfl, ?_⟩))
      · rw [if_neg (by simp [h2])] at hpn
        (repeat (first | (apply WL.add; rfl; rfl; rfl; rfl; omega; omega) | (apply WL.pure; rfl; rfl; rfl) | (apply WL.nil) | (apply EX.thenN) | (apply CW.region) | (apply EX.inN) | (apply CW.skip)))
        refine EX.back (j + 1) ?_ ⟨hlt, hE.trans hE4⟩ (by omega)
        rw [hpn]
        exact (by repeat (first | exact trivial | refine ⟨rfl, ?_⟩))
  simp at hlt
  have : j = f.length := by omega
  subst this
  rw [List.take_length]
  have hps := pick_spec (d := d) f (fun x hx => (hof x hx).1)
  generalize hp : wayPick d f = p at *
  (repeat (first | (apply WL.pure; rfl; rfl; rfl) | (apply WL.nil) | (apply EX.thenN) | (apply CW.seq) | (apply CW.region) | (apply CW.exit) | (apply EX.thenX) | (apply EX.inX)))
  refine CW.cond rfl (fun h2 => ?_) (fun h2 => ?_)
  · have h2 : p < 0 := by simpa using h2
    rw [if_pos h2] at eW
    (repeat (first | (apply WL.pure; rfl; rfl; rfl) | (apply WL.nil) | (apply EX.thenN) | (apply CW.seq) | (apply CW.region) | (apply CW.ret) | (apply EX.thenR)))
    exact EX.ret3 rfl rfl rfl rfl ⟨.slice none 0 0, by rw [eW], by rw [eW]; exact Own.nil, hE3.trans hE⟩
  have h2 : ¬ p < 0 := by simpa using h2
  rw [if_neg h2] at eW
  have hpf : p ∈ f ∧ 0 ≤ dAt d p := by
    rcases hps with h | h
    · omega
    · exact h
  have hpr := hof p hpf.1
  rw [eW]
  dsimp only
  (repeat (first | (apply WL.pure; rfl; rfl; rfl) | (apply EX.thenN) | (apply CW.seq) | (apply CW.region) | (apply CW.skip)))
  refine WL.lit (F := Non) (ys := [p]) rfl rfl rfl rfl rfl (.cons (Rd.mkInt _ _ _) .nil) (by show 1 * 1 ≤ 16777216; decide) (fun _ h => h.elim) (fun w4 ho4 hg4 => ?_)
  have hE4 : Ext w3 w4 := hE.grown hg4 hE.size (fun k h => by cases h)
  (repeat (first | (apply WL.pure; rfl; rfl; rfl) | (apply WL.nil) | (apply EX.thenN) | (apply CW.seq) | (apply CW.block)))
  refine CW.loop (S := Int × List Int × Value) (fun s => [(0, .slice ao g.length cap), (10, .slice dO d.length dc), (11, .int .i64 s.1), (14, s.2.2)])
    (fun s w => (0 ≤ s.1 ∧ s.1 < g.length) ∧ 0 ≤ dAt d s.1 ∧ (s.2.1.length : Int) + dAt d s.1 ≤ g.length ∧ (∃ pre fu, s.2.1 = pre ++ [s.1] ∧ wayGo g d g.length p = pre ++ wayGo g d fu s.1 ∧ dAt d s.1 ≤ (fu : Nat)) ∧ Own w w3.heap.size 3 Non s.2.2 s.2.1 ∧ Ext w3 w) (fun s => (dAt d s.1).toNat) (p, [p], _) (by repeat (first | exact trivial | refine ⟨rfl, ?_⟩)) ⟨hpr, hpf.2, ?_, ⟨[], g.length, rfl, rfl, ?_⟩, ho4.low hE.size, hE4⟩ ?_
  · obtain ⟨pn, rfl⟩ := Int.eq_ofNat_of_zero_le hpr.1
    have hpd : pn < d.length := by omega
    have := hI.le pn hpd
    rw [dAt_at hpd]; simp; omega
  · obtain ⟨pn, rfl⟩ := Int.eq_ofNat_of_zero_le hpr.1
    have hpd : pn < d.length := by omega
    have := hI.le pn hpd
    rw [dAt_at hpd]; omega
  rintro ⟨a, out, ov⟩ w5 ⟨har, h0, hm, ⟨pre, fu, hout, hgo, hfu⟩, how, hE5⟩
  dsimp only at har h0 hm hout how hfu hgo
  obtain ⟨an, rfl⟩ := Int.eq_ofNat_of_zero_le har.1
  have had : an < d.length := by omega
  rw [dAt_at had] at h0 hm hfu
  (repeat (first | (apply WL.pure; rfl; rfl; rfl) | (apply CW.seq) | (apply CW.region)))
  refine WL.elemI rfl rfl rfl rfl rfl (hd.up hE5) had rfl (fun _ => rfl) (fun q => ?_)
  (repeat (first | (apply WL.pure; rfl; rfl; rfl) | (apply WL.nil) | (apply EX.thenN)))
  refine CW.cond rfl (fun h3 => ?_) (fun h3 => ?_)
  · have h3 : 0 < d[an] := by simpa using h3
    have hang : an < g.length := by omega
    have hwn := way_next (a := (an : Int)) (by rw [hfa]; exact hI) hg har (by rw [hfa, dAt_at had]; exact h3)
    rw [hfa, Int.toNat_natCast, dAt_at had] at hwn
    have erow : g.getD an [] = g[an] := by rw [List.getD_eq_getElem?_getD, List.getElem?_eq_getElem hang]; rfl
    rw [erow] at hwn
    have hE05 := hE3.trans hE5
    (repeat (first | (apply WL.pure; rfl; rfl; rfl) | (apply WL.nil) | (apply EX.thenN) | (apply CW.seq) | (apply CW.region) | (apply CW.block) | (apply CW.skip)))
    refine WL.elemN rfl rfl rfl rfl rfl (hs.at hE05) hang (fun _ => rfl) (fun u q hu => ?_)
    obtain ⟨ro, rc, rfl, hrow⟩ := hu.sl
    have hrl := hrow.len63
    generalize hrw : g[an] = row at *
    have hrok : okL g.length row := by rw [← hrw]; exact hg _ (List.getElem_mem hang)
    (repeat (first | (apply WL.pure; rfl; rfl; rfl) | (apply WL.nil) | (apply EX.thenN) | (apply WL.lenS; rfl; rfl; rfl) | (apply CW.block)))
    refine CW.loop (S := Nat) (fun j => [(0, .slice ao g.length cap), (10, .slice dO d.length dc), (11, .int .i64 an), (14, ov), (15, .int .i64 (wayNext d an (row.take j))), (92, .slice ro row.length rc), (93, .int .i64 row.length), (94, .int .i64 j)])
      (fun j w => j ≤ row.length ∧ Ext w5 w) (fun j => row.length - j) 0 (by repeat (first | exact trivial | refine ⟨rfl, ?_⟩)) ⟨by omega, Ext.refl _⟩ ?_
    rintro j w6 ⟨hj, hE6⟩
    (repeat (first | (apply WL.pure; rfl; rfl; rfl) | (apply WL.nil) | (apply EX.thenN) | (apply CW.seq) | (apply CW.region)))
    refine CW.cond rfl (fun hlt => ?_) (fun hlt => ?_)
    · simp at hlt
      have hx := hrok _ (List.getElem_mem hlt)
      obtain ⟨n, en⟩ := Int.eq_ofNat_of_zero_le hx.1
      have hnd : n < d.length := by omega
      have hpn := wayNext_next d an row j hlt
      rw [en] at hpn
      generalize hp : wayNext d an (row.take j) = nx at *
      have hdw := hd.up (hE5.trans hE6)
      have hdr := hI.le an had
      (repeat (first | (apply EX.thenN) | (apply CW.seq) | (apply CW.region) | (apply CW.block) | (apply CW.skip)))
      refine WL.elemI rfl rfl rfl rfl rfl (hrow.mono (fun b hb => hE6.block b (Nat.lt_of_lt_of_le hb hE05.size)) fun _ h => h) hlt en (fun _ => rfl) (fun q => ?_)
      (repeat (apply WL.pure; rfl; rfl; rfl))
      apply WL.nil
      apply EX.thenN
      refine CW.cutE [(0, .slice ao g.length cap), (10, .slice dO d.length dc), (11, .int .i64 an), (14, ov), (15, .int .i64 nx), (17, .int .i64 n), (92, .slice ro row.length rc), (93, .int .i64 row.length), (94, .int .i64 j), (116, .bool (nextB d an nx n))] ?_ ?_
      · (repeat (first | (apply QL.pure; rfl; rfl; rfl) | (apply CW.draw; exact mixed; kernel_rfl)))
        refine QL.elemI rfl rfl rfl rfl rfl (fun _ h => h) hdw hnd rfl (fun _ => rfl) (fun q => ?_)
        (repeat (apply QL.pure; rfl; rfl; rfl))
        refine QL.elemI rfl rfl rfl rfl rfl (fun _ h => h) hdw had rfl (fun _ => rfl) (fun q => ?_)
        (repeat (first | (apply QL.sub'; rfl; rfl; rfl; rfl; omega; omega) | (apply QL.pure; rfl; rfl; rfl)))
        have eP : nextB d an nx n = (decide (d[n] = d[an] - 1) && (decide (nx < 0) || decide ((n : Int) < nx))) := by
          unfold nextB; rw [dAt_at hnd, dAt_at had]
        (refine QL.lookG rfl rfl (fun h => ?_) (fun h => ?_))
        rotate_left
        · have h : ¬ d[n] = d[an] - 1 := by simpa using h
          (repeat (first | (apply QL.pure; rfl; rfl; rfl) | (apply QL.pass; rfl; rfl)))
          refine QL.nil (fun w4 hE4 => ?_)
          rw [eP]
          simp only [h, decide_false, Bool.false_and]
          exact EX.cutE (by repeat (first | exact trivial | refine ⟨rfl, ?_⟩)) hE4
        have h4 : d[n] = d[an] - 1 := by simpa using h
        (repeat (apply QL.pure; rfl; rfl; rfl))
        (refine QL.lookG rfl rfl (fun h => ?_) (fun h => ?_))
        · have h5 : nx < 0 := by simpa using h
          (repeat (first | (apply QL.pure; rfl; rfl; rfl) | (apply QL.pass; rfl; rfl)))
          refine QL.nil (fun w4 hE4 => ?_)
          rw [eP]
          simp only [h4, h5, decide_true, Bool.true_and, Bool.true_or]
          exact EX.cutE (by repeat (first | exact trivial | refine ⟨rfl, ?_⟩)) hE4
        · have h5 : ¬ nx < 0 := by simpa using h
          (repeat (apply QL.pure; rfl; rfl; rfl))
          refine QL.nil (fun w4 hE4 => ?_)
          rw [eP]
          simp only [h4, h5, decide_true, decide_false, Bool.true_and, Bool.false_or]
          exact EX.cutE (by repeat (first | exact trivial | refine ⟨rfl, ?_⟩)) hE4
      · rintro w7 hE7
        refine CW.cond rfl (fun h2 => ?_) (fun h2 => ?_)
        · rw [if_pos h2] at hpn
          (repeat (first | (apply WL.add; rfl; rfl; rfl; rfl; omega; omega) | (apply WL.pure; rfl; rfl; rfl) | (apply WL.nil) | (apply EX.thenN) | (apply CW.region) | (apply EX.inN)))
          refine EX.back (j + 1) ?_ ⟨hlt, hE6.trans hE7⟩ (by omega)
          rw [hpn]
          exact (by repeat (first | exact trivial | refine ⟨rfl, ?_⟩))
        · rw [if_neg (by simp [h2])] at hpn
          (repeat (first | (apply WL.add; rfl; rfl; rfl; rfl; omega; omega) | (apply WL.pure; rfl; rfl; rfl) | (apply WL.nil) | (apply EX.thenN) | (apply CW.region) | (apply EX.inN) | (apply CW.skip)))
          refine EX.back (j + 1) ?_ ⟨hlt, hE6.trans hE7⟩ (by omega)
          rw [hpn]
          exact (by repeat (first | exact trivial | refine ⟨rfl, ?_⟩))
    simp at hlt
    have : j = row.length := by omega
    subst this
    rw [List.take_length]
    generalize hx : wayNext d an row = x at *
    have hE06 := hE5.trans hE6
    have how6 := how.extN hE6
    (repeat (first | (apply WL.pure; rfl; rfl; rfl) | (apply WL.nil) | (apply EX.thenN) | (apply CW.seq) | (apply CW.region) | (apply CW.exit) | (apply EX.thenX) | (apply EX.inX)))
    refine WL.app1 (F := Non) (yv := x) rfl rfl (fun _ => rfl) rfl rfl (fun _ => rfl) how6 (Rd.mkInt _ _ _) hE06.size (fun _ h => h.elim) (by decide) (by unfold maxLen; omega) (by omega) (fun v' w7 p ho7 hg7 hnb => ?_)
    have hE7 : Ext w3 w7 := hE06.grown hg7 hE06.size (fun b hb => (how6.lt b hb).1)
    (repeat (first | (apply WL.pure; rfl; rfl; rfl) | (apply WL.nil) | (apply EX.inN)))
    refine EX.back (x, out ++ [x], v') (by repeat (first | exact trivial | refine ⟨rfl, ?_⟩)) ⟨hwn.2.2, by dsimp only; rw [hwn.2.1]; omega, by dsimp only; rw [hwn.2.1, List.length_append]; simp; omega, ⟨out, fu - 1, rfl, ?_, ?_⟩, ho7, hE7⟩ ?_
    · cases fu with
      | zero => omega
      | succ fu =>
        rw [hgo, wayGo, if_pos (by rw [dAt_at had]; exact h3), Int.toNat_natCast, erow, hx, hout]
        simp
    · dsimp only; rw [hwn.2.1]; omega
    · dsimp only; rw [hwn.2.1, dAt_at had]; omega
  · have h3 : ¬ 0 < d[an] := by simpa using h3
    (repeat (first | (apply WL.pure; rfl; rfl; rfl) | (apply WL.nil) | (apply EX.thenN) | (apply CW.seq) | (apply CW.region) | (apply CW.exit) | (apply EX.thenX) | (apply EX.inX) | (apply CW.ret)))
    refine EX.ret3 rfl rfl rfl rfl ⟨ov, rfl, ?_, hE3.trans hE5⟩
    have e : wayGo g d fu an = [(an : Int)] := by
      cases fu with
      | zero => rfl
      | succ fu => rw [wayGo, if_neg (by rw [dAt_at had]; exact h3)]
    rw [hgo, e, ← hout]
    exact how.low hE3.size
end Go.Proofs.Ytikigaeihdmcaaa

/-
  Package label: good: walked.
-/
set_option linter.unusedVariables false
set_option linter.unusedSimpArgs false
namespace Go.Proofs.Ytikigaeihdmcaaa
open Go.RowKit

section
variable {P : Program} {Q : Exit → Act → World → Prop} {n : Nat} {σ : Sg} {w wc : World} {L : List Oper} {S : World → Prop} {rest : List (Nat × Bool)} {i j d d' : Nat} {ty : TypeId} {pos : String} {af : Array Edge} {g : Option (Nat × Bool)} {ty' : TypeId} {pos' : String} {af' : Array Edge} {g' : Option (Nat × Bool)} {t e : TypeId} {x ix : Operand}
variable {α : Type} [Rep α]
/-- an element of an owned row, read in a drawn region -/
theorem HL.elemOw {v : Value} {B : Nat} {xs : List α} {k : Nat} {kd : IntKind} (hSE : ∀ w1, S w1 → Ext w w1)
    (ho1 : nthO L i = some ⟨some d, .indexAddr t x ix, ty, pos, af, g⟩) (ho2 : nthO L j = some ⟨some d', .load e (.tmp d), ty', pos', af', g'⟩)
    (hg : gd L σ ⟨some d, .indexAddr t x ix, ty, pos, af, g⟩ = some true) (hd : Nat.ble (d + 1) n = true) (hd' : Nat.ble (d' + 1) n = true)
    (hx : ev σ x = some v) (hi : ev σ ix = some (.int kd (k : Int))) [hs : IsS P t e] [ht : IsT P e α] (hown : Own w B e Non v xs) (h1 : k < xs.length)
    (hg' : ∀ p, gd L ((d, .pointer p) :: σ) ⟨some d', .load e (.tmp d), ty', pos', af', g'⟩ = some true)
    (h : ∀ u p, Rd w (Old w) u xs[k] → HL P L S Q rest n ((d', u) :: (d, .pointer p) :: σ) wc) :
    HL P L S Q ((i, true) :: (j, true) :: rest) n σ wc := by
  obtain ⟨ao, cap, rfl, hsl⟩ := hown.oldN.sl
  exact HL.elemN hSE ho1 ho2 hg hd hd' hx hi (fun _ h => h) hsl h1 hg' h
end
instance iWit1 : IsF Try.prog 59 := ⟨_, Try.func59, rfl, by decide⟩
instance iWit2 : IsF Try.prog 70 := ⟨_, Try.func70, rfl, by decide⟩
instance iWit3 : IsF Try.prog 71 := ⟨_, Try.func71, rfl, by decide⟩
theorem lg1 (w : World) (b b' : Nat) {po : Option Addr} {pc : Nat} {part : List Int} {to n : Nat} (hb : Blk w b 22 [.slice po part.length pc]) (hb' : Blk w b' 3 [.int .i64 (n : Int)]) (hp : Sl w (Old w) po pc part) (ht : to < part.length) (hn : n < part.length) :
    Rt Try.prog 70 [.int .i64 (to : Int), .pointer (some ⟨b, 0, none⟩), .pointer (some ⟨b', 0, none⟩)].toArray w fun v w' => v = .bool (part.getD to 0 == part.getD n 0) ∧ Ext w w' := by
  refine Rt.enter3 Try.func70 Try.ntmps70 rfl rfl ?_
  (repeat (first | (apply WL.pure; rfl; rfl; rfl) | (apply QL.pure; rfl; rfl; rfl) | (apply WL.nil) | (apply EX.thenN) | (apply CW.seq) | (apply CW.region) | (apply QL.ld; rfl; rfl; rfl; assumption; rfl) | (apply CW.draw; exact mixed; kernel_rfl)))
  refine QL.elemI rfl rfl rfl rfl rfl (fun _ h => h) hp ht (wgetDI ht).symm (fun _ => rfl) (fun q => ?_)
  (repeat (apply QL.ld; rfl; rfl; rfl; assumption; rfl))
  refine QL.elemI rfl rfl rfl rfl rfl (fun _ h => h) hp hn (wgetDI hn).symm (fun _ => rfl) (fun q => ?_)
  (repeat (apply QL.pure; rfl; rfl; rfl))
  refine QL.nil (fun w1 e1 => ?_)
  (repeat (first | (apply EX.thenN) | (apply CW.ret)))
  exact EX.ret1 rfl rfl ⟨rfl, e1⟩
theorem lg2 (w : World) (b1 b2 b3 : Nat) {io oo po : Option Addr} {ic oc pc : Nat} {inn ok : List Bool} {part : List Int} {k c : Nat} (hb1 : Blk w b1 34 [.slice io inn.length ic]) (hb2 : Blk w b2 34 [.slice oo ok.length oc]) (hb3 : Blk w b3 22 [.slice po part.length pc])
    (hin : Sl w (Old w) io ic inn) (hok : Sl w (Old w) oo oc ok) (hp : Sl w (Old w) po pc part) (hk : k < inn.length) (hkp : k < part.length) (hc : part.getD k 0 = (c : Int)) (hcl : c < ok.length) :
    Rt Try.prog 71 [.int .i64 (k : Int), .pointer (some ⟨b1, 0, none⟩), .pointer (some ⟨b2, 0, none⟩), .pointer (some ⟨b3, 0, none⟩)].toArray w fun v w' => v = .bool (inn.getD k false && ok.getD c false) ∧ Ext w w' := by
  have hpk : part[k] = (c : Int) := by rw [← wgetDI hkp]; exact hc
  refine Rt.enter4 Try.func71 Try.ntmps71 rfl rfl ?_
  (repeat (first | (apply WL.pure; rfl; rfl; rfl) | (apply QL.pure; rfl; rfl; rfl) | (apply WL.nil) | (apply EX.thenN) | (apply CW.seq) | (apply CW.region) | (apply QL.ld; rfl; rfl; rfl; assumption; rfl) | (apply CW.draw; exact mixed; kernel_rfl)))
  refine QL.elemB rfl rfl rfl rfl rfl (fun _ h => h) hin hk (wgetB hk).symm (fun _ => rfl) (fun q => ?_)
  cases inn.getD k false with
  | false =>
    (repeat (first | (apply QL.pure; rfl; rfl; rfl) | (apply QL.pass; rfl; rfl)))
    refine QL.nil (fun w1 e1 => ?_)
    (repeat (first | (apply EX.thenN) | (apply CW.ret)))
    exact EX.ret1 rfl rfl ⟨rfl, e1⟩
  | true =>
    (repeat (first | (apply QL.pure; rfl; rfl; rfl) | (apply QL.ld; rfl; rfl; rfl; assumption; rfl)))
    refine QL.elemI rfl rfl rfl rfl rfl (fun _ h => h) hp hkp hpk (fun _ => rfl) (fun q => ?_)
    skip
    refine QL.elemB rfl rfl rfl rfl rfl (fun _ h => h) hok hcl (wgetB hcl).symm (fun _ => rfl) (fun q => ?_)
    (repeat (apply QL.pure; rfl; rfl; rfl))
    refine QL.nil (fun w1 e1 => ?_)
    (repeat (first | (apply EX.thenN) | (apply CW.ret)))
    exact EX.ret1 rfl rfl ⟨rfl, e1⟩
set_option maxHeartbeats 2000000 in
theorem lgood_ok (w0 : World) {b : Nat} {nx fr : Graph} {lb : List Nat} (hL : LabAt w0 b nx lb fr) {go po io : Option Addr} {gc pc ic : Nat} {g : Graph} {part : List Int} {inn : List Bool} (hs : Sl w0 (Old w0) go gc g) (hp : Sl w0 (Old w0) po pc part) (hin : Sl w0 (Old w0) io ic inn)
    (hg : okG g) (hpt : PartsOK g part) (hgl : g.length = nx.length) (hn6 : nx.length ≤ 600) (hsets : ∀ F ∈ fr, okL g.length F) (hil : inn.length = nx.length) :
    Rt Try.prog 59 [labP b, .slice go g.length gc, .slice po part.length pc, .slice io inn.length ic].toArray w0 fun v w' => Own w' w0.heap.size 4 Non v (boolsN nx.length fun k => inn.getD k false = true ∧ GoodPt g part fr k) ∧ Ext w0 w' := by
  have hL0 := hL
  obtain ⟨a1, c1, n1, a2, c2, a3, c3, a4, c4, ao, ac, bo, bc, hblk, h2, h3, h4, h5, h6⟩ := hL
  clear h2 h3 h5 h6
  have hpl := hpt.len
  have hms := h4.len63
  have hlb := hblk.lt
  refine Rt.enter4 Try.func59 Try.ntmps59 rfl rfl ?_
  have hpc : ∀ n, n < part.length → ∃ c0 : Nat, c0 < g.length ∧ part.getD n 0 = (c0 : Int) := fun n hn => by
    have h0 := hpt.ge n hn; have h1 := hpt.lt n hn
    obtain ⟨c0, hc0⟩ := Int.eq_ofNat_of_zero_le h0
    exact ⟨c0, by omega, hc0⟩
  (repeat (first | (apply CW.seq) | (apply CW.region)))
  refine WL.boxB rfl rfl rfl fun w1 hb6 hE1 => ?_
  have l6 := hb6.lt
  skip
  refine WL.boxB rfl rfl rfl fun w2 hb7 e2 => ?_
  have hb6 := hb6.ext e2
  have l7 := hb7.lt
  have hE2 := hE1.trans e2
  have y2 := hE2.size
  (repeat (first | (apply WL.pure; rfl; rfl; rfl) | (apply WL.nil) | (apply EX.thenN) | (apply CW.seq) | (apply CW.region) | (apply WL.lenS; rfl; rfl; rfl)))
  refine WL.make (α := Bool) rfl rfl rfl rfl (by omega) (by unfold maxLen; omega) (fun w3 ho3 hg3 => ?_)
  have e3 : Ext w2 w3 := (Below.refl _ _).grown hg3 (Nat.le_refl _) (fun k h => by cases h)
  have y3 := e3.size
  have l3 : w2.heap.size < w3.heap.size := (ho3.lt _ rfl).2.1
  skip
  refine WL.alloc rfl rfl (fun w4 hb9 e4 => ?_)
  skip
  refine WL.st rfl rfl rfl hb9 rfl rfl (ones_of rfl) (fun w5 hb9 hg5 => ?_)
  generalize hsv : Value.slice (some ⟨w2.heap.size, 0, none⟩) g.length g.length = sv at *
  have hsvb : sv.ownBlock = some w2.heap.size := by rw [← hsv]; rfl
  have e5 : Ext w3 w5 := e4.grown hg5 e4.size (fun g hg => by cases hg; exact Nat.le_refl _)
  have ho5 := ho3.extN e5
  have e25 := e3.trans e5
  have l9 := hb9.lt
  generalize hb9n : w3.heap.size = b9 at *
  clear ho3 hg3 e3 e4 e5 hg5
  (repeat (first | (apply WL.pure; rfl; rfl; rfl) | (apply WL.nil) | (apply EX.thenN) | (apply CW.seq) | (apply CW.region) | (apply WL.lenS; rfl; rfl; rfl) | (apply CW.block)))
  refine CW.loop (S := Nat × List Bool) (fun s => [(0, labP b), (1, .slice go g.length gc), (6, .pointer (some ⟨w0.heap.size, 0, none⟩)), (7, .pointer (some ⟨w1.heap.size, 0, none⟩)), (9, .pointer (some ⟨b9, 0, none⟩)), (21, .slice go g.length gc), (22, .int .i64 g.length), (23, .int .i64 s.1)])
    (fun s w => s.1 ≤ g.length ∧ Own w w2.heap.size 4 Non sv s.2 ∧ s.2.length = g.length ∧ (∀ c, c < g.length → (s.2.getD c false = true ↔ prtP g part s.1 c)) ∧ Blk w b9 34 [sv] ∧ Ext w2 w) (fun s => g.length - s.1) (0, List.replicate g.length false) (by repeat (first | exact trivial | refine ⟨rfl, ?_⟩))
    ⟨Nat.zero_le _, ho5, by simp, fun c hc => by dsimp only; rw [getD_rep]; unfold prtP; simp, hb9, e25⟩ ?_
  clear ho5 hb9 e25 l9
  rintro ⟨n, out⟩ w ⟨hn, ho, hol, hr, hb9, e⟩
  dsimp only at hn ho hol hr hb9 e ⊢
  have hE := hE2.trans e
  have yw := e.size
  (repeat (first | (apply WL.pure; rfl; rfl; rfl) | (apply WL.nil) | (apply EX.thenN) | (apply CW.seq) | (apply CW.region)))
  refine CW.cond rfl (fun h => ?_) (fun h => ?_)
  · have hn' : n < g.length := by simp at h; omega
    clear h
    have erow : g.getD n [] = g[n] := wgetDG hn'
    have hnp : n < part.length := by omega
    obtain ⟨c0, hc0l, hc0⟩ := hpc n hnp
    have hpn : part[n] = (c0 : Int) := by rw [← wgetDI hnp]; exact hc0
    (repeat (first | (apply WL.pure; rfl; rfl; rfl) | (apply EX.thenN) | (apply CW.seq) | (apply CW.region) | (apply CW.block) | (apply CW.skip)))
    refine WL.elemN rfl rfl rfl rfl rfl (hs.at hE) hn' (fun _ => rfl) (fun u q hu => ?_)
    obtain ⟨ro, rc, rfl, hrow⟩ := hu.sl
    have hrl := hrow.len63
    skip
    refine WL.alloc rfl rfl (fun x3 hb10 e3 => ?_)
    have z3 := hb10.lt
    skip
    refine WL.st rfl rfl rfl hb10 rfl rfl (ones_of rfl) (fun x4 hb10 hg4 => ?_)
    have e4 : Ext w x4 := e3.grown hg4 e3.size (fun g hg => by cases hg; exact Nat.le_refl _)
    have hE4 := hE.trans e4
    have ee4 := e.trans e4
    have ho := ho.extN e4
    have hb9 := hb9.ext e4
    (repeat (first | (apply WL.pure; rfl; rfl; rfl) | (apply WL.nil) | (apply EX.thenN) | (apply CW.seq) | (apply CW.region) | (apply WL.makeFunc; rfl; rfl; rfl; rfl)))
    refine WL.call rfl rfl rfl (containsFunc_int x4 (fun x => part.getD x.toNat 0 == part.getD n 0) (hrow.mono (fun b hb => (hE4.block b hb).trans (hE.block b hb).symm) (fun b hb => Nat.lt_of_lt_of_le hb hE4.size)) (fun w5 hw i hi => ?_)) ?_
    · have hto := hg _ (List.getElem_mem hn') _ (List.getElem_mem hi)
      obtain ⟨to, eto⟩ := Int.eq_ofNat_of_zero_le hto.1
      rw [eto, Int.toNat_natCast]
      exact FnV.mk (cs := [_, _]) (lg1 w5 _ _ (hb6.ext (ee4.trans hw)) (hb10.ext hw) (hp.up (hE4.trans hw)) (by omega) hnp)
    rintro _ x5 ⟨rfl, e5⟩
    have hb10 := hb10.ext e5
    have hb9 := hb9.ext e5
    have ho := ho.extN e5
    have hE5 := hE4.trans e5
    have ee5 := ee4.trans e5
    have hany : (g[n].any fun x => part.getD x.toNat 0 == part.getD n 0) = true ↔ ∃ to ∈ g.getD n [], part.getD to.toNat 0 = part.getD n 0 := by
      rw [List.any_eq_true, erow]; simp
    (repeat (first | (apply WL.nil) | (apply EX.thenN)))
    refine CW.cond rfl (fun h2 => ?_) (fun h2 => ?_)
    · have hD : Ext x5 (drew x5) := Ext.drew x5
      have hb6d := hb6.ext (ee5.trans hD)
      have hb9d := hb9.ext hD
      have hb10d := hb10.ext hD
      have hod := ho.extN hD
      have hpd := hp.up (hE5.trans hD)
      have hSE : ∀ x, (fun x : World => Ext (drew x5) x) x → Ext (drew x5) x := fun _ h => h
      skip
      refine CW.drawE (fun x : World => Ext (drew x5) x) [(0, true), (1, true), (2, true), (3, true), (4, true), (5, true)] 6 mixed (by kernel_rfl) (Ext.refl _) ?_
      (repeat (refine HL.ld (by assumption) rfl rfl rfl rfl (by assumption) rfl ?_))
      refine HL.elemN (k := n) hSE rfl rfl rfl rfl rfl rfl rfl (fun _ h => h) hpd hnp (fun _ => rfl) (fun u q hu => ?_)
      obtain rfl := hu.int
      rw [hpn]
      skip
      refine HL.setTail (yv := true) rfl rfl rfl rfl rfl rfl hod (show c0 < out.length by omega) (fun _ => rfl) (fun _ => rfl) (Rd.mkBool _ _ _) (fun x6 q2 ho6 hg6 => ?_)
      have ee6 : Ext w2 x6 := (ee5.trans hD).grown hg6 (ee5.trans hD).size (fun b hb => (hod.lt b hb).1)
      have hb96 := hb9d.kept hg6 (fun e => by rw [hsvb] at e; have := Option.some.inj e; omega)
      (repeat (first | (apply WL.add; rfl; rfl; rfl; rfl; omega; omega) | (apply WL.pure; rfl; rfl; rfl) | (apply WL.nil) | (apply EX.thenN) | (apply CW.region) | (apply EX.inN)))
      refine EX.back (n + 1, out.set c0 true) (by repeat (first | exact trivial | refine ⟨rfl, ?_⟩)) ⟨hn', ho6, by simpa using hol, fun c hc => ?_, hb96, ee6⟩ (by dsimp only; omega)
      dsimp only
      rw [getD_set (by omega), prtP_next, ← hany]
      by_cases e : c0 = c
      · subst e
        rw [if_pos rfl]
        exact ⟨fun _ => .inr ⟨hc0, h2⟩, fun _ => rfl⟩
      · rw [if_neg e, hr c hc]
        exact ⟨.inl, fun h => h.resolve_right (fun ⟨h1, _⟩ => e (by have := hc0.symm.trans h1; omega))⟩
    · (repeat (first | (apply WL.add; rfl; rfl; rfl; rfl; omega; omega) | (apply WL.pure; rfl; rfl; rfl) | (apply WL.nil) | (apply EX.thenN) | (apply CW.region) | (apply EX.inN) | (apply CW.skip)))
      refine EX.back (n + 1, out) (by repeat (first | exact trivial | refine ⟨rfl, ?_⟩)) ⟨hn', ho, hol, fun c hc => ?_, hb9, ee5⟩ (by dsimp only; omega)
      dsimp only
      rw [hr c hc, prtP_next, ← hany, h2]
      simp
  obtain rfl : n = g.length := by simp at h; omega
  clear h hn
  have hblkw := hblk.ext hE
  (repeat (first | (apply WL.pure; rfl; rfl; rfl) | (apply WL.nil) | (apply EX.thenN) | (apply CW.seq) | (apply CW.region) | (apply WL.lenS; rfl; rfl; rfl) | (apply WL.fa; rfl; rfl; rfl) | (apply WL.nck; rfl; rfl; rfl) | (apply WL.ld; rfl; rfl; rfl; assumption; rfl) | (apply CW.block) | (apply CW.exit) | (apply EX.thenX) | (apply EX.inX)))
  refine CW.loop (S := Nat × List Bool) (fun s => [(0, labP b), (1, .slice go g.length gc), (6, .pointer (some ⟨w0.heap.size, 0, none⟩)), (7, .pointer (some ⟨w1.heap.size, 0, none⟩)), (9, .pointer (some ⟨b9, 0, none⟩)), (42, .slice a4 fr.length c4), (43, .int .i64 fr.length), (44, .int .i64 s.1)])
    (fun s w => s.1 ≤ fr.length ∧ Own w w2.heap.size 4 Non sv s.2 ∧ s.2.length = g.length ∧ (∀ c, c < g.length → (s.2.getD c false = true ↔ prtP g part g.length c ∧ ∀ F ∈ fr.take s.1, ∃ x ∈ F, part.getD x.toNat 0 = c)) ∧ Blk w b9 34 [sv] ∧ Ext w2 w) (fun s => fr.length - s.1) (0, out) (by repeat (first | exact trivial | refine ⟨rfl, ?_⟩))
    ⟨Nat.zero_le _, ho, hol, fun c hc => by dsimp only; rw [hr c hc]; simp, hb9, e⟩ ?_
  clear hr ho hol hE hb9 e hblkw yw
  rintro ⟨f, out⟩ w3 ⟨hf, ho, hol, hr, hb9, e3⟩
  dsimp only at hf ho hol hr hb9 e3 ⊢
  have hE := hE2.trans e3
  (repeat (first | (apply WL.pure; rfl; rfl; rfl) | (apply WL.nil) | (apply EX.thenN) | (apply CW.seq) | (apply CW.region)))
  refine CW.cond rfl (fun h => ?_) (fun h => ?_)
  · have hf' : f < fr.length := by simp at h; omega
    have hFok := hsets _ (List.getElem_mem hf')
    (repeat (first | (apply EX.thenN) | (apply CW.seq) | (apply CW.region) | (apply CW.block) | (apply CW.skip)))
    refine WL.elemN rfl rfl rfl rfl rfl (h4.at hE) hf' (fun _ => rfl) (fun u q hu => ?_)
    obtain ⟨Fo, Fc, rfl, hF⟩ := hu.sl
    have hFl := hF.len63
    (repeat (first | (apply WL.pure; rfl; rfl; rfl) | (apply WL.nil) | (apply EX.thenN) | (apply CW.seq) | (apply CW.region) | (apply WL.lenS; rfl; rfl; rfl)))
    refine WL.make (α := Bool) rfl rfl rfl rfl (by omega) (by unfold maxLen; omega) (fun w4 ho4 hg4 => ?_)
    have e4 : Ext w3 w4 := (Below.refl _ _).grown hg4 (Nat.le_refl _) (fun k h => by cases h)
    have hslt : ∀ b, sv.ownBlock = some b → b < w3.heap.size := fun b hb => (ho.lt b hb).2.1
    have l9 := hb9.lt
    generalize hhv : Value.slice (some ⟨w3.heap.size, 0, none⟩) g.length g.length = hv at *
    have hhb : hv.ownBlock = some w3.heap.size := by rw [← hhv]; rfl
    (repeat (first | (apply WL.pure; rfl; rfl; rfl) | (apply WL.nil) | (apply EX.thenN) | (apply CW.seq) | (apply CW.region) | (apply WL.lenS; rfl; rfl; rfl) | (apply CW.block)))
    refine CW.loop (S := Nat × List Bool) (fun s => [(0, labP b), (1, .slice go g.length gc), (6, .pointer (some ⟨w0.heap.size, 0, none⟩)), (7, .pointer (some ⟨w1.heap.size, 0, none⟩)), (9, .pointer (some ⟨b9, 0, none⟩)), (14, hv), (42, .slice a4 fr.length c4), (43, .int .i64 fr.length), (44, .int .i64 f), (51, .slice Fo fr[f].length Fc), (52, .int .i64 fr[f].length), (53, .int .i64 s.1)])
      (fun s w => s.1 ≤ fr[f].length ∧ Own w w3.heap.size 4 Non hv s.2 ∧ s.2.length = g.length ∧ (∀ c, c < g.length → (s.2.getD c false = true ↔ ∃ x ∈ fr[f].take s.1, part.getD x.toNat 0 = c)) ∧ Ext w3 w) (fun s => fr[f].length - s.1) (0, List.replicate g.length false) (by repeat (first | exact trivial | refine ⟨rfl, ?_⟩))
      ⟨Nat.zero_le _, ho4, by simp, fun c hc => by dsimp only; rw [getD_rep]; simp, e4⟩ ?_
    rintro ⟨i, has⟩ w5 ⟨hi, hoh, hhl, hhas, e5⟩
    dsimp only at hi hoh hhl hhas ⊢
    have hE5 := hE.trans e5
    have hb65 := hb6.ext (e3.trans e5)
    (repeat (first | (apply WL.pure; rfl; rfl; rfl) | (apply WL.nil) | (apply EX.thenN) | (apply CW.seq) | (apply CW.region)))
    refine CW.cond rfl (fun h => ?_) (fun h => ?_)
    · have hi' : i < fr[f].length := by simp at h; omega
      have hto := hFok _ (List.getElem_mem hi')
      obtain ⟨x, ex⟩ := Int.eq_ofNat_of_zero_le hto.1
      have hxp : x < part.length := by omega
      obtain ⟨c0, hc0l, hc0⟩ := hpc x hxp
      have hpx : part[x] = (c0 : Int) := by rw [← wgetDI hxp]; exact hc0
      have hF5 : Sl w5 (Old w0) Fo Fc fr[f] := hF.mono (fun b hb => (hE5.block b hb).trans (hE.block b hb).symm) (fun _ h => h)
      (repeat (first | (apply EX.thenN) | (apply CW.seq) | (apply CW.region) | (apply CW.block) | (apply CW.skip)))
      refine WL.elemI rfl rfl rfl rfl rfl hF5 hi' ex (fun _ => rfl) (fun q => ?_)
      (repeat (first | (apply WL.pure; rfl; rfl; rfl) | (apply WL.nil) | (apply EX.thenN) | (apply CW.region) | (apply WL.ld; rfl; rfl; rfl; assumption; rfl)))
      refine WL.elemI rfl rfl rfl rfl rfl (hp.at hE5) hxp hpx (fun _ => rfl) (fun q => ?_)
      skip
      refine WL.setN (u := .bool true) (yv := true) rfl rfl rfl rfl hoh (show c0 < has.length by omega) (fun _ => rfl) (fun _ => rfl) (Rd.mkBool _ _ _) (fun w6 q2 ho6 hg6 => ?_)
      have e6 : Ext w3 w6 := e5.grown hg6 e5.size (fun b hb => (hoh.lt b hb).1)
      (repeat (first | (apply WL.add; rfl; rfl; rfl; rfl; omega; omega) | (apply WL.pure; rfl; rfl; rfl) | (apply WL.nil) | (apply EX.thenN) | (apply CW.region) | (apply EX.inN)))
      refine EX.back (i + 1, has.set c0 true) (by repeat (first | exact trivial | refine ⟨rfl, ?_⟩)) ⟨hi', ho6, by simpa using hhl, fun c hc => ?_, e6⟩ (by dsimp only; omega)
      dsimp only
      rw [getD_set (by omega), ← List.take_append_getElem hi', ex]
      by_cases e : c0 = c
      · subst e
        rw [if_pos rfl]
        exact ⟨fun _ => ⟨(x : Int), by simp, by simpa using hc0⟩, fun _ => rfl⟩
      · rw [if_neg e, hhas c hc]
        constructor
        · rintro ⟨y, h1, h2⟩; exact ⟨y, List.mem_append.2 (.inl h1), h2⟩
        · rintro ⟨y, h1, h2⟩
          rcases List.mem_append.1 h1 with h1 | h1
          · exact ⟨y, h1, h2⟩
          · rw [List.mem_singleton] at h1; subst h1
            rw [Int.toNat_natCast, hc0] at h2; omega
    · obtain rfl : i = fr[f].length := by simp at h; omega
      rw [List.take_length] at hhas
      have ho5 := ho.extN e5
      have hb95 := hb9.ext e5
      obtain ⟨so, sc, hsve⟩ : ∃ so sc, sv = .slice so out.length sc := ho.val
      have hb95' : Blk w5 b9 34 [.slice so out.length sc] := by rw [← hsve]; exact hb95
      (repeat (first | (apply WL.pure; rfl; rfl; rfl) | (apply WL.nil) | (apply EX.thenN) | (apply CW.seq) | (apply CW.region) | (apply WL.lenS; rfl; rfl; rfl) | (apply WL.ld; rfl; rfl; rfl; assumption; rfl) | (apply CW.block) | (apply CW.exit) | (apply EX.thenX) | (apply EX.inX)))
      rw [hsve]
      skip
      rw [← hsve]
      refine CW.loop (S := Nat × List Bool) (fun s => [(0, labP b), (1, .slice go g.length gc), (6, .pointer (some ⟨w0.heap.size, 0, none⟩)), (7, .pointer (some ⟨w1.heap.size, 0, none⟩)), (9, .pointer (some ⟨b9, 0, none⟩)), (14, hv), (42, .slice a4 fr.length c4), (43, .int .i64 fr.length), (44, .int .i64 f), (65, .int .i64 g.length), (66, .int .i64 s.1)])
        (fun s w => s.1 ≤ g.length ∧ Own w w2.heap.size 4 Non sv s.2 ∧ s.2.length = g.length ∧ (∀ c, c < g.length → s.2.getD c false = if c < s.1 then out.getD c false && has.getD c false else out.getD c false) ∧ Own w w3.heap.size 4 Non hv has ∧ Blk w b9 34 [sv] ∧ Ext w2 w) (fun s => g.length - s.1) (0, out) ?_
        ⟨Nat.zero_le _, ho5, hol, fun c hc => by dsimp only; rw [if_neg (by omega)], hoh, hb95, e3.trans e5⟩ ?_
      · rw [hol]; exact (by repeat (first | exact trivial | refine ⟨rfl, ?_⟩))
      clear hb95'
      rintro ⟨k, gd'⟩ w14 ⟨hk, hg14, hgl14, hgd14, hoh, hb914, e14⟩
      dsimp only at hk hg14 hgl14 hgd14 hoh hb914 e14 ⊢
      (repeat (first | (apply WL.pure; rfl; rfl; rfl) | (apply WL.nil) | (apply EX.thenN) | (apply CW.seq) | (apply CW.region)))
      refine CW.cond rfl (fun h => ?_) (fun h => ?_)
      · have hk' : k < g.length := by simp at h; omega
        have hkg : k < gd'.length := by omega
        have hkh : k < has.length := by omega
        have hgk : gd'[k] = out.getD k false := by rw [← wgetB hkg, hgd14 k hk', if_neg (by omega)]
        have hst : ∀ b : Bool, b = (out.getD k false && has.getD k false) → ∀ c, c < g.length → (gd'.set k b).getD c false = if c < k + 1 then out.getD c false && has.getD c false else out.getD c false := by
          intro b hb c hc
          rw [getD_set hkg]
          by_cases e : k = c
          · subst e; rw [if_pos rfl, if_pos (by omega), hb]
          · rw [if_neg e, hgd14 c hc]
            by_cases h1 : c < k
            · rw [if_pos h1, if_pos (by omega)]
            · rw [if_neg h1, if_neg (by omega)]
        have hD : Ext w14 (drew w14) := Ext.drew w14
        have hb9d := hb914.ext hD
        have hg14d := hg14.extN hD
        have hohd := hoh.extN hD
        have e14d := e14.trans hD
        have hSE : ∀ x, (fun x : World => Ext (drew w14) x) x → Ext (drew w14) x := fun _ h => h
        have hl9 := hb9d.lt
        (repeat (first | (apply WL.pure; rfl; rfl; rfl) | (apply WL.nil) | (apply EX.thenN) | (apply CW.seq) | (apply CW.region) | (apply CW.block) | (apply CW.skip)))
        refine CW.drawE (fun x : World => Ext (drew w14) x) [(0, true), (1, true), (2, true), (3, true), (4, true), (5, true), (6, true), (7, true), (8, true), (9, true), (10, true), (11, true), (12, true)] 13 mixed (by kernel_rfl) (Ext.refl _) ?_
        (repeat (first | (apply HL.pure; rfl; rfl; rfl; rfl) | (refine HL.ld (by assumption) rfl rfl rfl rfl (by assumption) rfl ?_)))
        refine HL.elemOw (k := k) hSE rfl rfl rfl rfl rfl rfl rfl hg14d hkg (fun _ => rfl) (fun u q hu => ?_)
        obtain rfl := hu.bool
        rw [hgk]
        by_cases hgt : out.getD k false = true
        · rw [hgt]
          (repeat (apply HL.pure; rfl; rfl; rfl; rfl))
          refine HL.elemOw (k := k) hSE rfl rfl rfl rfl rfl rfl rfl hohd hkh (fun _ => rfl) (fun u q hu => ?_)
          obtain rfl := hu.bool
          (repeat (apply HL.pure; rfl; rfl; rfl; rfl))
          refine HL.setTail (yv := has[k]) rfl rfl rfl rfl rfl rfl hg14d hkg (fun _ => rfl) (fun _ => rfl) (Rd.mkBool _ _ _) (fun w15 q ho15 hg15 => ?_)
          have e15 : Ext w2 w15 := e14d.grown hg15 e14d.size (fun b hb => (hg14.lt b hb).1)
          have hoh15 := hohd.keptN hg15 (fun g hg e => by rw [hhb] at hg; cases hg; exact absurd (hslt _ e.symm) (Nat.lt_irrefl _))
          have hb915 := hb9d.kept hg15 (fun e => by rw [hsvb] at e; have := Option.some.inj e; omega)
          (repeat (first | (apply WL.add; rfl; rfl; rfl; rfl; omega; omega) | (apply WL.pure; rfl; rfl; rfl) | (apply WL.nil) | (apply EX.thenN) | (apply CW.region) | (apply EX.inN)))
          exact EX.back (k + 1, gd'.set k has[k]) (by repeat (first | exact trivial | refine ⟨rfl, ?_⟩)) ⟨hk', ho15, by simpa using hgl14, hst _ (by rw [hgt, wgetB hkh]; rfl), hoh15, hb915, e15⟩ (by dsimp only; omega)
        · have hgt : out.getD k false = false := by simpa using hgt
          rw [hgt]
          (repeat (first | (apply HL.pure; rfl; rfl; rfl; rfl) | (apply HL.pass; rfl; rfl; rfl)))
          refine HL.setTail (yv := false) rfl rfl rfl rfl rfl rfl hg14d hkg (fun _ => rfl) (fun _ => rfl) (Rd.mkBool _ _ _) (fun w15 q ho15 hg15 => ?_)
          have e15 : Ext w2 w15 := e14d.grown hg15 e14d.size (fun b hb => (hg14.lt b hb).1)
          have hoh15 := hohd.keptN hg15 (fun g hg e => by rw [hhb] at hg; cases hg; exact absurd (hslt _ e.symm) (Nat.lt_irrefl _))
          have hb915 := hb9d.kept hg15 (fun e => by rw [hsvb] at e; have := Option.some.inj e; omega)
          (repeat (first | (apply WL.add; rfl; rfl; rfl; rfl; omega; omega) | (apply WL.pure; rfl; rfl; rfl) | (apply WL.nil) | (apply EX.thenN) | (apply CW.region) | (apply EX.inN)))
          exact EX.back (k + 1, gd'.set k false) (by repeat (first | exact trivial | refine ⟨rfl, ?_⟩)) ⟨hk', ho15, by simpa using hgl14, hst _ (by rw [hgt]; rfl), hoh15, hb915, e15⟩ (by dsimp only; omega)
      · obtain rfl : k = g.length := by simp at h; omega
        (repeat (first | (apply WL.add; rfl; rfl; rfl; rfl; omega; omega) | (apply WL.pure; rfl; rfl; rfl) | (apply WL.nil) | (apply EX.thenN) | (apply CW.region) | (apply EX.inN) | (apply CW.exit) | (apply EX.thenX) | (apply EX.inX)))
        refine EX.back (f + 1, gd') (by repeat (first | exact trivial | refine ⟨rfl, ?_⟩)) ⟨hf', hg14, hgl14, fun c hc => ?_, hb914, e14⟩ (by dsimp only; omega)
        dsimp only
        rw [hgd14 c hc, if_pos hc, Bool.and_eq_true, hr c hc, hhas c hc, ← List.take_append_getElem hf', and_assoc]
        refine and_congr Iff.rfl ⟨fun ⟨h1, h2⟩ F hF => ?_, fun h1 => ⟨fun F hF => h1 F (List.mem_append.2 (.inl hF)), h1 fr[f] (List.mem_append.2 (.inr (by simp)))⟩⟩
        rcases List.mem_append.1 hF with hF | hF
        · exact h1 F hF
        · rw [List.mem_singleton] at hF; subst hF; exact h2
  obtain rfl : f = fr.length := by simp at h; omega
  rw [List.take_length] at hr
  have y3' := hE.size
  obtain ⟨so, sc, rfl, hos⟩ := ho.oldN.sl
  have hb7' := hb7.ext e3
  have hb6' := hb6.ext e3
  (repeat (first | (apply WL.pure; rfl; rfl; rfl) | (apply EX.thenN) | (apply CW.seq) | (apply CW.region) | (apply WL.makeFunc; rfl; rfl; rfl; rfl) | (apply CW.exit) | (apply EX.thenX) | (apply EX.inX)))
  refine WL.call rfl rfl rfl (each_ok w3 (hL0.up hE) hn6 (P := fun k => inn.getD k false = true ∧ GoodPt g part fr k) (fun x k hx hk => ?_)) ?_
  · have hkp : k < part.length := by omega
    obtain ⟨c0, hc0l, hc0⟩ := hpc k hkp
    refine FnV.mk (cs := [_, _, _]) (Calls.mono (lg2 x _ _ _ (hb7'.ext hx) (hb9.ext hx) (hb6'.ext hx) (hin.up (hE.trans hx)) (hos.up hx) (hp.up (hE.trans hx)) (by omega) hkp hc0 (by omega)) ?_)
    rintro e w' ⟨v, rfl, rfl, hE'⟩
    refine ⟨_, rfl, _, rfl, ?_, hE'⟩
    rw [Bool.and_eq_true, hr c0 hc0l]
    refine and_congr Iff.rfl ⟨fun ⟨⟨u, hu, pu, t, ht, pt⟩, hs⟩ => ⟨by omega, ⟨u, hu, by rw [pu, hc0], t, ht, by rw [pt, hc0]⟩, fun F hF => by obtain ⟨x, hx, px⟩ := hs F hF; exact ⟨x, hx, by rw [px, hc0]⟩⟩, fun hG => ?_⟩
    obtain ⟨u, hu, pu, t, ht, pt⟩ := hG.edge
    exact ⟨⟨u, hu, by rw [pu, hc0], t, ht, by rw [pt, hc0]⟩, fun F hF => by obtain ⟨x, hx, px⟩ := hG.sets F hF; exact ⟨x, hx, by rw [px, hc0]⟩⟩
  rintro v w4 ⟨hov, e4⟩
  (repeat (first | (apply WL.pure; rfl; rfl; rfl) | (apply WL.nil) | (apply EX.thenN) | (apply CW.ret)))
  exact EX.ret1 rfl rfl ⟨hov.low y3', hE.trans e4⟩
end Go.Proofs.Ytikigaeihdmcaaa

