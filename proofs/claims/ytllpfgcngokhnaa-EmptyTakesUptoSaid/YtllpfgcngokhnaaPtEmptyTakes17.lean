import Derived.Test.YtllpfgcngokhnaaPtEmptyTakes16
/-
  One fair set in place of many (Choueka): plain lists, no program in sight.
-/
set_option linter.unusedVariables false
set_option linter.unusedSimpArgs false
namespace Go.Proofs.Ytllpfgcngokhnaa

/-- which set is waited for next -/
def oneK (fr : List (List Int)) (p : Pr2) : Int := if 0 < fr.length ∧ p.1 ∈ fr.getD p.2.toNat [] then (p.2 + 1) % fr.length else p.2
def oneNext (A : LAuto2) (p : Pr2) : List Pr2 := (A.2.1.getD p.1.toNat []).map fun x => (x, oneK A.2.2.2.2 p)
def oneStart (A : LAuto2) : List Pr2 := A.1.map fun x => (x, 0)
def onePs (A : LAuto2) : List Pr2 := (madeE (oneNext A) (oneStart A)).1
def oneFair (fr : List (List Int)) (ps : List Pr2) : List Int := ((List.range ps.length).filter fun i => decide ((ps.getD i (0, 0)).2 = 0) && (decide (fr.length = 0) || decide ((ps.getD i (0, 0)).1 ∈ fr.getD 0 []))).map fun i : Nat => (i : Int)
def oneL (A : LAuto2) : LAuto2 :=
  (madeS (oneStart A), (madeE (oneNext A) (oneStart A)).2.2, (onePs A).map (fun p => A.2.2.1.getD p.1.toNat 0), (onePs A).map (fun p => A.2.2.2.1.getD p.1.toNat 0), [oneFair A.2.2.2.2 (onePs A)])
theorem oneFair_mem {fr : List (List Int)} {ps : List Pr2} {i : Nat} : (i : Int) ∈ oneFair fr ps ↔ i < ps.length ∧ (ps.getD i (0, 0)).2 = 0 ∧ (fr.length = 0 ∨ (ps.getD i (0, 0)).1 ∈ fr.getD 0 []) := by
  unfold oneFair
  rw [List.mem_map]
  constructor
  · rintro ⟨j, hj, e⟩
    obtain rfl : j = i := by omega
    obtain ⟨h1, h2⟩ := List.mem_filter.1 hj
    simp only [Bool.and_eq_true, Bool.or_eq_true, decide_eq_true_eq] at h2
    exact ⟨List.mem_range.1 h1, h2⟩
  · rintro ⟨h1, h2⟩
    exact ⟨i, List.mem_filter.2 ⟨List.mem_range.2 h1, by simpa using h2⟩, rfl⟩
theorem oneNext_mem {A : LAuto2} {p x : Pr2} : x ∈ oneNext A p ↔ x.1 ∈ A.2.1.getD p.1.toNat [] ∧ x.2 = oneK A.2.2.2.2 p := by
  unfold oneNext
  rw [List.mem_map]
  constructor
  · rintro ⟨y, hy, rfl⟩; exact ⟨hy, rfl⟩
  · rintro ⟨h1, h2⟩; exact ⟨x.1, h1, by rw [← h2]⟩
theorem oneStart_mem {A : LAuto2} {x : Pr2} : x ∈ oneStart A ↔ x.1 ∈ A.1 ∧ x.2 = 0 := by
  unfold oneStart
  rw [List.mem_map]
  constructor
  · rintro ⟨y, hy, rfl⟩; exact ⟨hy, rfl⟩
  · rintro ⟨h1, h2⟩; exact ⟨x.1, h1, by rw [← h2]⟩
/- COUNTING -/
section
variable {fr : List (List Int)} {q : Nat → Pr2}
theorem one_pass (hq : ∀ i, (q (i + 1)).2 = oneK fr (q i)) {t : Nat} (ht : t < fr.length) : ∀ (d a : Nat), 1 ≤ (q a).2 → (q a).2 ≤ t → (q (a + d)).2 = 0 → ∃ j, a ≤ j ∧ (q j).1 ∈ fr.getD t []
  | 0, a, h1, _, h0 => by rw [Nat.add_zero] at h0; omega
  | d + 1, a, h1, h2, h0 => by
    have hn := hq a
    unfold oneK at hn
    by_cases hin : (q a).1 ∈ fr.getD (q a).2.toNat []
    · by_cases e : (q a).2 = t
      · exact ⟨a, Nat.le_refl _, by rw [e, Int.toNat_natCast] at hin; exact hin⟩
      · rw [if_pos ⟨by omega, hin⟩, Int.emod_eq_of_lt (by omega) (by omega)] at hn
        obtain ⟨j, hj, hm⟩ := one_pass hq ht d (a + 1) (by omega) (by omega) (by rw [show a + 1 + d = a + (d + 1) by omega]; exact h0)
        exact ⟨j, by omega, hm⟩
    · rw [if_neg (fun h => hin h.2)] at hn
      obtain ⟨j, hj, hm⟩ := one_pass hq ht d (a + 1) (by omega) (by omega) (by rw [show a + 1 + d = a + (d + 1) by omega]; exact h0)
      exact ⟨j, by omega, hm⟩
/-- where one set is met again and again, all are -/
theorem one_all (hq : ∀ i, (q (i + 1)).2 = oneK fr (q i)) (hf : ∀ i, ∃ j, i ≤ j ∧ (q j).2 = 0 ∧ (fr.length = 0 ∨ (q j).1 ∈ fr.getD 0 [])) {t : Nat} (ht : t < fr.length) (i : Nat) : ∃ j, i ≤ j ∧ (q j).1 ∈ fr.getD t [] := by
  obtain ⟨a, ha, h0, h1⟩ := hf i
  have h1 : (q a).1 ∈ fr.getD 0 [] := h1.resolve_left (by omega)
  by_cases e : t = 0
  · subst e; exact ⟨a, ha, h1⟩
  · have hn := hq a
    unfold oneK at hn
    rw [h0, show (0 : Int).toNat = 0 from rfl, if_pos ⟨by omega, h1⟩, Int.emod_eq_of_lt (by omega) (by omega)] at hn
    obtain ⟨b, hb, hb0, _⟩ := hf (a + 1)
    obtain ⟨j, hj, hm⟩ := one_pass hq ht (b - (a + 1)) (a + 1) (by omega) (by omega) (by rw [show a + 1 + (b - (a + 1)) = b by omega]; exact hb0)
    exact ⟨j, by omega, hm⟩
theorem one_wait (hq : ∀ i, (q (i + 1)).2 = oneK fr (q i)) {c : Int} : ∀ (d i : Nat), (q i).2 = c → (q (i + d)).1 ∈ fr.getD c.toNat [] → ∃ j, i ≤ j ∧ (q j).2 = c ∧ (q j).1 ∈ fr.getD c.toNat []
  | 0, i, h1, h2 => ⟨i, Nat.le_refl _, h1, h2⟩
  | d + 1, i, h1, h2 => by
    by_cases hin : (q i).1 ∈ fr.getD c.toNat []
    · exact ⟨i, Nat.le_refl _, h1, hin⟩
    · have hn := hq i
      unfold oneK at hn
      rw [h1, if_neg (fun h => hin h.2)] at hn
      obtain ⟨j, hj, hm⟩ := one_wait hq d (i + 1) hn (by rw [show i + 1 + d = i + (d + 1) by omega]; exact h2)
      exact ⟨j, by omega, hm⟩
theorem one_round (hq : ∀ i, (q (i + 1)).2 = oneK fr (q i)) (hf : ∀ t, t < fr.length → ∀ i, ∃ j, i ≤ j ∧ (q j).1 ∈ fr.getD t []) (hm : 0 < fr.length) : ∀ (n : Nat) (i : Nat), 0 ≤ (q i).2 → (q i).2 < fr.length → ((q i).2 = 0 ∨ (fr.length : Int) - (q i).2 ≤ n) → ∃ j, i ≤ j ∧ (q j).2 = 0 ∧ (q j).1 ∈ fr.getD 0 [] := by
  have hgo : ∀ i, 0 ≤ (q i).2 → (q i).2 < fr.length → ∃ j, i ≤ j ∧ (q j).2 = (q i).2 ∧ (q j).1 ∈ fr.getD (q i).2.toNat [] := fun i h0 h1 => by
    obtain ⟨b, hb, hin⟩ := hf (q i).2.toNat (by omega) i
    exact one_wait hq (b - i) i rfl (by rw [show i + (b - i) = b by omega]; exact hin)
  intro n
  induction n with
  | zero =>
    intro i h0 h1 h2
    have h2 : (q i).2 = 0 := by omega
    obtain ⟨j, hj, e, hin⟩ := hgo i h0 h1
    rw [h2] at e hin
    exact ⟨j, hj, e, hin⟩
  | succ n ih =>
    intro i h0 h1 h2
    obtain ⟨j, hj, e, hin⟩ := hgo i h0 h1
    by_cases hz : (q i).2 = 0
    · rw [hz] at e hin
      exact ⟨j, hj, e, hin⟩
    · have hn := hq j
      unfold oneK at hn
      rw [e, if_pos ⟨hm, hin⟩] at hn
      by_cases hl : (q i).2 + 1 = fr.length
      · rw [hl, Int.emod_self] at hn
        obtain ⟨k, hk, h⟩ := ih (j + 1) (by omega) (by omega) (.inl hn)
        exact ⟨k, by omega, h⟩
      · rw [Int.emod_eq_of_lt (by omega) (by omega)] at hn
        obtain ⟨k, hk, h⟩ := ih (j + 1) (by omega) (by omega) (.inr (by omega))
        exact ⟨k, by omega, h⟩
end
theorem fit_one {A : LAuto2} {r x : Nat} (h : r < (onePs A).length) : fitB (oneL A).2.2.1 (oneL A).2.2.2.1 r x = fitB A.2.2.1 A.2.2.2.1 ((onePs A).getD r (0, 0)).1.toNat x := by
  unfold oneL fitB
  dsimp only
  rw [getD_map h, getD_map h]
theorem one_law {A : LAuto2} {L : Nat → Nat} (hA : PosA A) (h : (madeE (oneNext A) (oneStart A)).2.1 = true) : AccA (oneL A) L ↔ AccA A L := by
  obtain ⟨hM, hl⟩ := made_law h
  change MadeOk _ _ (onePs A) _ _ at hM
  change _ = (onePs A).length at hl
  have hst : ∀ i, i ∈ (oneL A).1 ↔ ∃ p ∈ oneStart A, i = ((onePs A).idxOf p : Int) := hM.st1
  have hnx : ∀ n, n < (onePs A).length → ∀ i, i ∈ (oneL A).2.1.getD n [] ↔ ∃ p ∈ oneNext A ((onePs A).getD n (0, 0)), i = ((onePs A).idxOf p : Int) := fun n hn => hM.nx1 n (by rw [hl]; exact hn)
  constructor
  · rintro ⟨r, hr⟩
    have hin : ∀ i, r i < (onePs A).length := by
      intro i
      cases i with
      | zero =>
        obtain ⟨p, hp, e⟩ := (hst _).1 hr.first
        have := (idxOf_at (hM.st0 p hp)).1
        omega
      | succ i =>
        have hs := hr.step i
        by_cases hlt : r i < (onePs A).length
        · obtain ⟨p, hp, e⟩ := (hnx _ hlt _).1 hs
          have := (idxOf_at (hM.nx0 _ (by rw [hl]; exact hlt) p hp)).1
          omega
        · exfalso
          have e : (oneL A).2.1.getD (r i) [] = [] := by
            rw [List.getD_eq_getElem?_getD, List.getElem?_eq_none (by show (madeE (oneNext A) (oneStart A)).2.2.length ≤ _; rw [hl]; omega)]; rfl
          rw [e] at hs; cases hs
    have hnx' : ∀ i, (onePs A).getD (r (i + 1)) (0, 0) ∈ oneNext A ((onePs A).getD (r i) (0, 0)) := fun i => by
      obtain ⟨p, hp, e⟩ := (hnx _ (hin i) _).1 (hr.step i)
      have e : r (i + 1) = (onePs A).idxOf p := by omega
      rw [e, (idxOf_at (hM.nx0 _ (by rw [hl]; exact hin i) p hp)).2]; exact hp
    have hst' : (onePs A).getD (r 0) (0, 0) ∈ oneStart A := by
      obtain ⟨p, hp, e⟩ := (hst _).1 hr.first
      have e : r 0 = (onePs A).idxOf p := by omega
      rw [e, (idxOf_at (hM.st0 p hp)).2]; exact hp
    have hq : ∀ i, 0 ≤ ((onePs A).getD (r i) (0, 0)).1 := by
      intro i
      cases i with
      | zero => exact hA.1 _ (oneStart_mem.1 hst').1
      | succ i => exact hA.2 _ _ (oneNext_mem.1 (hnx' i)).1
    have q1 : ∀ i, ((((onePs A).getD (r i) (0, 0)).1.toNat : Nat) : Int) = ((onePs A).getD (r i) (0, 0)).1 := fun i => by have := hq i; omega
    refine ⟨fun i => ((onePs A).getD (r i) (0, 0)).1.toNat, ?_, fun i => by rw [← fit_one (hin i)]; exact hr.fits i, fun i => ?_, fun F hF i => ?_⟩
    · rw [q1]; exact (oneStart_mem.1 hst').1
    · rw [q1]; exact (oneNext_mem.1 (hnx' i)).1
    · obtain ⟨t, ht, rfl⟩ := List.mem_iff_getElem.1 hF
      obtain ⟨j, hj, hm⟩ := one_all (fr := A.2.2.2.2) (q := fun i => (onePs A).getD (r i) (0, 0)) (fun i => (oneNext_mem.1 (hnx' i)).2) (fun i => by
        obtain ⟨j, hj, hm⟩ := hr.fair (oneFair A.2.2.2.2 (onePs A)) (List.mem_singleton.2 rfl) i
        exact ⟨j, hj, (oneFair_mem.1 hm).2⟩) ht i
      refine ⟨j, hj, ?_⟩
      rw [q1]
      rw [List.getD_eq_getElem?_getD, List.getElem?_eq_getElem ht] at hm
      exact hm
  · rintro ⟨ra, ha⟩
    obtain ⟨q, hq0, hq1, hqa⟩ : ∃ q : Nat → Pr2, q 0 = ((ra 0 : Int), 0) ∧ (∀ i, q (i + 1) = ((ra (i + 1) : Int), oneK A.2.2.2.2 (q i))) ∧ ∀ i, (q i).1 = (ra i : Int) := by
      refine ⟨fun i => Nat.rec ((ra 0 : Int), 0) (fun i p => ((ra (i + 1) : Int), oneK A.2.2.2.2 p)) i, rfl, fun i => rfl, fun i => ?_⟩
      cases i <;> rfl
    have hnext : ∀ i, q (i + 1) ∈ oneNext A (q i) := fun i => by
      rw [oneNext_mem, hqa, hqa, hq1, Int.toNat_natCast]
      exact ⟨ha.step i, rfl⟩
    have hps : ∀ i, q i ∈ onePs A := by
      intro i
      induction i with
      | zero => exact hM.st0 _ (oneStart_mem.2 (by rw [hq0]; exact ⟨ha.first, rfl⟩))
      | succ i ih =>
        obtain ⟨h1, h2⟩ := idxOf_at ih
        exact hM.nx0 _ (by rw [hl]; exact h1) _ (by rw [h2]; exact hnext i)
    have hix := fun i => idxOf_at (hps i)
    have hk : ∀ i, (q (i + 1)).2 = oneK A.2.2.2.2 (q i) := fun i => by rw [hq1]
    have hkr : ∀ i, (0 < A.2.2.2.2.length → 0 ≤ (q i).2 ∧ (q i).2 < A.2.2.2.2.length) ∧ (A.2.2.2.2.length = 0 → (q i).2 = 0) := by
      intro i
      induction i with
      | zero => rw [hq0]; exact ⟨fun h => ⟨Int.le_refl _, by dsimp only; omega⟩, fun _ => rfl⟩
      | succ i ih =>
        rw [hk]
        unfold oneK
        refine ⟨fun h => ?_, fun h => ?_⟩
        · split
          · exact ⟨Int.emod_nonneg _ (by omega), Int.emod_lt_of_pos _ (by omega)⟩
          · exact ih.1 h
        · rw [if_neg (fun hh => by omega)]; exact ih.2 h
    refine ⟨fun i => (onePs A).idxOf (q i), (hst _).2 ⟨_, oneStart_mem.2 (by rw [hq0]; exact ⟨ha.first, rfl⟩), rfl⟩, fun i => ?_, fun i => (hnx _ (hix i).1 _).2 ⟨_, by rw [(hix i).2]; exact hnext i, rfl⟩, fun F hF i => ?_⟩
    · rw [fit_one (hix i).1, (hix i).2, hqa, Int.toNat_natCast]; exact ha.fits i
    · obtain rfl := List.mem_singleton.1 hF
      by_cases hm : 0 < A.2.2.2.2.length
      · obtain ⟨j, hj, h0, hin⟩ := one_round hk (fun t ht i => by
          obtain ⟨j, hj, h⟩ := ha.fair (A.2.2.2.2[t]) (List.getElem_mem ht) i
          refine ⟨j, hj, ?_⟩
          rw [hqa, List.getD_eq_getElem?_getD, List.getElem?_eq_getElem ht]; exact h) hm A.2.2.2.2.length i ((hkr i).1 hm).1 ((hkr i).1 hm).2 (by have := ((hkr i).1 hm).1; omega)
        exact ⟨j, hj, oneFair_mem.2 ⟨(hix j).1, by rw [(hix j).2]; exact ⟨h0, .inr hin⟩⟩⟩
      · exact ⟨i, Nat.le_refl _, oneFair_mem.2 ⟨(hix i).1, by rw [(hix i).2]; exact ⟨(hkr i).2 (by omega), .inl (by omega)⟩⟩⟩
end Go.Proofs.Ytllpfgcngokhnaa
/-
  What an automaton of pairs is like: plain lists, no program in sight.
-/
set_option linter.unusedVariables false
set_option linter.unusedSimpArgs false
namespace Go.Proofs.Ytllpfgcngokhnaa

theorem edges_getD : ∀ {g : Graph} {j : Nat}, (g.getD j []).length ≤ edges g
  | [], j => by simp
  | r :: g, 0 => by simp [edges]
  | r :: g, j + 1 => by
    have := edges_getD (g := g) (j := j)
    simp [edges] at this ⊢
    omega
theorem addP_nd {ps : List Pr2} {l : List Int} {p : Pr2} (h : l.Nodup) : (addP ps l p).2.Nodup := by
  unfold addP
  dsimp only
  split
  · exact h
  · rename_i hn
    rw [List.nodup_append]
    refine ⟨h, List.pairwise_singleton _ _, fun a ha b hb e => ?_⟩
    rw [List.mem_singleton] at hb
    exact hn (by rw [← hb, ← e]; exact ha)
theorem putP_nd : ∀ (r ps : List Pr2) (ok : Bool) (l : List Int), l.Nodup → (putP r ps ok l).2.2.Nodup
  | [], ps, ok, l, h => h
  | p :: r, ps, ok, l, h => by
    rw [putP]
    split
    · exact putP_nd r _ _ _ (addP_nd h)
    · exact putP_nd r _ _ _ h
theorem madeGo_nd {next : Pr2 → List Pr2} : ∀ (f n : Nat) (ps : List Pr2) (ok : Bool) (nx : List (List Int)), (∀ r ∈ nx, r.Nodup) → ∀ r ∈ (madeGo next f n ps ok nx).2.2, r.Nodup
  | 0, n, ps, ok, nx, h => h
  | f + 1, n, ps, ok, nx, h => by
    rw [madeGo]
    split
    · refine madeGo_nd f _ _ _ _ (fun r hr => ?_)
      rcases List.mem_append.1 hr with hr | hr
      · exact h r hr
      · rw [List.mem_singleton] at hr
        rw [hr]
        exact putP_nd _ _ _ _ List.nodup_nil
    · exact h
theorem okL_nodup_len {n : Nat} {l : List Int} (hn : l.Nodup) (h : okL n l) : l.length ≤ n := by
  have := nodup_len n (l.map Int.toNat) (by
    rw [List.nodup_iff_pairwise_ne] at hn ⊢
    rw [List.pairwise_map]
    refine List.Pairwise.imp_of_mem (fun {a b} ha hb hab e => hab ?_) hn
    have h1 := h a ha
    have h2 := h b hb
    omega) (fun x hx => by
    obtain ⟨y, hy, rfl⟩ := List.mem_map.1 hx
    have := h y hy
    omega)
  simpa using this
structure MadeIn (N : Nat) (st : List Int) (nx : List (List Int)) : Prop where
  so : okL N st
  no : ∀ r ∈ nx, okL N r
  ln : nx.length = N
  n : N ≤ 2048
  sl : st.length ≤ 2048
  ed : edges nx ≤ 4194304
theorem made_in {next : Pr2 → List Pr2} {start : List Pr2} (h : (madeE next start).2.1 = true) : MadeIn (madeE next start).1.length (madeS start) (madeE next start).2.2 := by
  obtain ⟨hM, hl⟩ := made_law h
  have h1 : okL (madeE next start).1.length (madeS start) := fun i hi => by
    obtain ⟨p, hp, e⟩ := (hM.st1 i).1 hi
    have := (idxOf_at (hM.st0 p hp)).1
    omega
  have h2 : ∀ r ∈ (madeE next start).2.2, okL (madeE next start).1.length r := fun r hr i hi => by
    obtain ⟨n, hn, rfl⟩ := List.mem_iff_getElem.1 hr
    have hg : (madeE next start).2.2.getD n [] = (madeE next start).2.2[n] := by rw [List.getD_eq_getElem?_getD, List.getElem?_eq_getElem hn]; rfl
    rw [← hg] at hi
    obtain ⟨p, hp, e⟩ := (hM.nx1 n hn i).1 hi
    have := (idxOf_at (hM.nx0 n hn p hp)).1
    omega
  have hn := hM.le
  refine ⟨h1, h2, hl, hn, ?_, ?_⟩
  · exact Nat.le_trans (okL_nodup_len (putP_nd _ _ _ _ List.nodup_nil) h1) hn
  · have h3 : ∀ r ∈ (madeE next start).2.2, r.length ≤ 2048 := fun r hr => Nat.le_trans (okL_nodup_len (madeGo_nd _ _ _ _ _ (fun _ h => by cases h) r hr) (h2 r hr)) hn
    have h4 := edges_le _ 2048 h3
    rw [hl] at h4
    have : (madeE next start).1.length * 2048 ≤ 2048 * 2048 := Nat.mul_le_mul_right _ hn
    omega
theorem setP_okL {ps : List Pr2} {of : Pr2 → Int} {F : List Int} : okL ps.length (setP ps of F) := fun i hi => by
  unfold setP at hi
  obtain ⟨j, hj, rfl⟩ := List.mem_map.1 hi
  have := List.mem_range.1 (List.mem_filter.1 hj).1
  omega
theorem oneFair_okL {fr : List (List Int)} {ps : List Pr2} : okL ps.length (oneFair fr ps) := fun i hi => by
  unfold oneFair at hi
  obtain ⟨j, hj, rfl⟩ := List.mem_map.1 hi
  have := List.mem_range.1 (List.mem_filter.1 hj).1
  omega
theorem both_okA {A B : LAuto} (h : (madeE (bothNext A B) (bothStart A B)).2.1 = true) (h80 : A.2.2.2.2.length + B.2.2.2.2.length ≤ 80) : OkA (bothL A B) ∧ edges (bothL A B).2.1 + (bothL A B).1.length ≤ 8589934592 := by
  have hI := made_in h
  have hl := hI.ln
  have hn := hI.n
  have hs := hI.sl
  have he := hI.ed
  refine ⟨⟨?_, ?_, ?_, ?_, ?_, ?_, ?_⟩, ?_⟩
  · show (madeE (bothNext A B) (bothStart A B)).2.2.length ≤ 2048; omega
  · show (A.2.2.2.2.map _ ++ B.2.2.2.2.map _).length ≤ 80
    rw [List.length_append, List.length_map, List.length_map]; exact h80
  · show ((bothPs A B).map _).length = (madeE (bothNext A B) (bothStart A B)).2.2.length
    rw [List.length_map]; exact hl.symm
  · show ((bothPs A B).map _).length = (madeE (bothNext A B) (bothStart A B)).2.2.length
    rw [List.length_map]; exact hl.symm
  · show okL (madeE (bothNext A B) (bothStart A B)).2.2.length (madeS (bothStart A B))
    rw [hl]; exact hI.so
  · show ∀ r ∈ (madeE (bothNext A B) (bothStart A B)).2.2, okL (madeE (bothNext A B) (bothStart A B)).2.2.length r
    rw [hl]; exact hI.no
  · show ∀ r ∈ A.2.2.2.2.map (setP (bothPs A B) Prod.fst) ++ B.2.2.2.2.map (setP (bothPs A B) Prod.snd), okL (madeE (bothNext A B) (bothStart A B)).2.2.length r
    rw [hl]
    intro r hr
    rcases List.mem_append.1 hr with hr | hr <;> (obtain ⟨F, _, rfl⟩ := List.mem_map.1 hr; exact setP_okL)
  · show edges (madeE (bothNext A B) (bothStart A B)).2.2 + (madeS (bothStart A B)).length ≤ _
    omega
theorem one_okA {A : LAuto} (h : (madeE (oneNext A) (oneStart A)).2.1 = true) : OkA (oneL A) ∧ edges (oneL A).2.1 + (oneL A).1.length ≤ 8589934592 := by
  have hI := made_in h
  have hl := hI.ln
  have hn := hI.n
  have hs := hI.sl
  have he := hI.ed
  refine ⟨⟨?_, ?_, ?_, ?_, ?_, ?_, ?_⟩, ?_⟩
  · show (madeE (oneNext A) (oneStart A)).2.2.length ≤ 2048; omega
  · show [oneFair A.2.2.2.2 (onePs A)].length ≤ 80
    simp
  · show ((onePs A).map _).length = (madeE (oneNext A) (oneStart A)).2.2.length
    rw [List.length_map]; exact hl.symm
  · show ((onePs A).map _).length = (madeE (oneNext A) (oneStart A)).2.2.length
    rw [List.length_map]; exact hl.symm
  · show okL (madeE (oneNext A) (oneStart A)).2.2.length (madeS (oneStart A))
    rw [hl]; exact hI.so
  · show ∀ r ∈ (madeE (oneNext A) (oneStart A)).2.2, okL (madeE (oneNext A) (oneStart A)).2.2.length r
    rw [hl]; exact hI.no
  · show ∀ r ∈ [oneFair A.2.2.2.2 (onePs A)], okL (madeE (oneNext A) (oneStart A)).2.2.length r
    rw [hl]
    intro r hr
    rw [List.mem_singleton] at hr
    rw [hr]; exact oneFair_okL
  · show edges (madeE (oneNext A) (oneStart A)).2.2 + (madeS (oneStart A)).length ≤ _
    omega
end Go.Proofs.Ytllpfgcngokhnaa
/-
  EmptyShows, EmptyTakes: walked.
-/
set_option linter.unusedVariables false
set_option linter.unusedSimpArgs false
namespace Go.Proofs.Ytllpfgcngokhnaa
open Go.RowKit

def turnsW : LWorld := ([0], [[1, 0], [0, 1]], [1, 2], [[0], [1]])
theorem turns_chk : chkE turnsW = 0 := by decide
theorem even_odd (i : Nat) : i % 2 = 0 ∨ i % 2 = 1 := by omega
theorem turns_ones : EWay turnsW onesA := by
  refine ⟨fun i => (((i % 2 : Nat) : Int), ((i % 2 : Nat) : Int)), pairsX_mem.2 ⟨by decide, by decide⟩, fun i => ?_, fun i => pairsX_mem.2 ?_, fun S hS i => ?_⟩
  · rcases even_odd i with h | h <;> rw [h] <;> decide
  · rcases even_odd i with h | h
    · rw [h, show (i + 1) % 2 = 1 by omega]; decide
    · rw [h, show (i + 1) % 2 = 0 by omega]; decide
  · have hm : (2 * i) % 2 = 0 := by omega
    have hm1 : (2 * i + 1) % 2 = 1 := by omega
    have hS : S = (fun p : Pr2 => decide (p.1 = (0 : Int))) ∨ S = (fun p : Pr2 => decide (p.1 = (1 : Int))) ∨ S = (fun p : Pr2 => decide (p.2 = (0 : Int))) := by
      simp only [ssE, turnsW, onesA, List.map_cons, List.map_nil, List.cons_append, List.nil_append, List.mem_cons, List.not_mem_nil, or_false] at hS
      exact hS
    rcases hS with rfl | rfl | rfl
    · exact ⟨2 * i, by omega, by rw [hm]; decide⟩
    · exact ⟨2 * i + 1, by omega, by rw [hm1]; decide⟩
    · exact ⟨2 * i, by omega, by rw [hm]; decide⟩
theorem found_turns {s l : List Int} {is : Bool} {err : Int} (h : FoundE turnsW onesA s l is err) : is = true ∧ err = 0 ∧ 0 < l.length := by
  rcases h with ⟨_, _, _, _, h⟩ | ⟨he, _, _, ⟨_, _, _, h⟩ | ⟨hi, _, h⟩⟩
  · exact absurd (h turns_chk onesA_ok) id
  · exact absurd turns_ones h
  · exact ⟨hi, he, h.l0⟩
theorem goodF_len {st : List Int} {nx : List (List Int)} {k : Nat} {fr : List (List Int)} {s l : List Int} (h : goodF st nx k fr s l = (true, 0)) : s.length ≤ 60000 ∧ l.length ≤ 60000 := by
  unfold goodF at h
  split at h
  · cases h
  split at h
  · cases h
  · omega
/-- the first look: what the laws ask of turns and ones -/
theorem onesA_row (j : Nat) : (onesA.2.1.getD j []).length ≤ 1048576 := by
  match j with
  | 0 => decide
  | 1 => decide
  | j + 2 => simp [onesA]
theorem turnsW_row (j : Nat) : (turnsW.2.1.getD j []).length ≤ 1048576 := by
  match j with
  | 0 => decide
  | 1 => decide
  | j + 2 => simp [turnsW]
set_option maxHeartbeats 2000000 in
theorem EmptyShows_ok (w0 : World) {va : Value} {W : LWorld} {A : LAuto2} {o1 o2 o3 o4 : Option Addr} {c1 c2 c3 c4 : Nat} (h1 : Sl w0 (Old w0) o1 c1 W.1) (h2 : Sl w0 (Old w0) o2 c2 W.2.1) (h3 : Sl w0 (Old w0) o3 c3 W.2.2.1) (h4 : Sl w0 (Old w0) o4 c4 W.2.2.2) (ha : AutoAt w0 (Old w0) va A)
    (sW : ∀ j, (W.2.1.getD j []).length ≤ 1048576) (sA : ∀ j, (A.2.1.getD j []).length ≤ 1048576) (tW : W.1.length ≤ 1048576) (tA : A.1.length ≤ 1048576) (eA : edges A.2.1 + A.1.length ≤ 8589934592) :
    Rt Try.prog 3 [worldV o1 c1 o2 c2 o3 c3 o4 c4 W.1.length W.2.1.length W.2.2.1.length W.2.2.2.length, va].toArray w0 fun v w' => v = .bool true ∧ Ext w0 w' := by
  have ha0 := ha
  have hm3 := h3.len63
  obtain ⟨k1, d1, k2, d2, k3, d3, k4, d4, k5, d5, rfl, g1, g2, g3, g4, g5⟩ := ha.ok
  clear g1 g2 g3 g4 g5 ha
  refine Rt.enter2 Try.func3 Try.ntmps3 rfl rfl ?_
  have hE := Ext.refl w0
  (repeat (first | (apply CW.seq) | (apply CW.region)))
  refine WL.boxB rfl rfl rfl fun w1 hb2 e1 => ?_
  have hE := hE.trans e1
  skip
  refine WL.boxB rfl rfl rfl fun w2 hb3 e2 => ?_
  have hb2 := hb2.ext e2
  have hE := hE.trans e2
  (repeat (first | (apply WL.pure; rfl; rfl; rfl) | (apply WL.nil) | (apply EX.thenN) | (apply CW.seq) | (apply CW.region)))
  refine WL.call rfl rfl rfl (wturns_okL w2) ?_
  rintro _ w3 ⟨⟨p1, q1, p2, q2, p3, q3, p4, q4, rfl, t1, t2, t3, t4⟩, e3⟩
  refine WL.call rfl rfl rfl (ones_ok w3) ?_
  rintro vo w4 ⟨hon, e4⟩
  refine WL.call rfl rfl rfl (find_ok w4 (W := turnsW) (A := onesA) (t1.up e4) (t2.up e4) (t3.up e4) (t4.up e4) hon turnsW_row onesA_row (by decide) (by decide)) ?_
  rintro _ w5 ⟨⟨s, l, is, err, so, sc, lo, lc, rfl, hs, hl, hF⟩, e5⟩
  obtain ⟨rfl, rfl, hl0⟩ := found_turns hF
  have e25 := (e3.trans e4).trans e5
  have hb2 := hb2.ext e25
  have hb3 := hb3.ext e25
  have hE := hE.trans e25
  clear hF hon t1 t2 t3 t4 e25 e1 e2 e3 e4 e5
  (repeat (apply WL.pure; rfl; rfl; rfl))
  refine WL.alloc rfl rfl (fun w6 hb5 e6 => ?_)
  skip
  refine WL.st rfl rfl rfl hb5 rfl rfl (ones_of rfl) (fun w7 hb5 hg7 => ?_)
  have e7 : Ext w5 w7 := e6.grown hg7 e6.size (fun g hg => by cases hg; exact Nat.le_refl _)
  have hb2 := hb2.ext e7
  have hb3 := hb3.ext e7
  have hE := hE.trans e7
  clear e6 hg7
  (repeat (first | (apply WL.pure; rfl; rfl; rfl) | (apply WL.nil) | (apply EX.thenN) | (apply CW.seq) | (apply CW.region) | (apply WL.lenS; rfl; rfl; rfl) | (apply WL.fa; rfl; rfl; rfl) | (apply WL.ld; rfl; rfl; rfl; assumption; rfl)))
  refine CW.cond rfl (fun h => ?_) (fun h => ?_)
  · simp at h; subst h; simp at hl0
  clear h
  (repeat (first | (apply EX.thenN) | (apply CW.seq) | (apply CW.region) | (apply WL.ldA; rfl; rfl; rfl; assumption; rfl) | (apply CW.skip)))
  refine WL.call rfl rfl rfl (find_ok w7 (W := W) (A := A) (h1.up hE) (h2.up hE) (h3.up hE) (h4.up hE) (ha0.up hE) sW sA tW tA) ?_
  rintro _ w8 ⟨⟨s, l, is, err, so, sc, lo, lc, rfl, hs, hl, hF⟩, e8⟩
  have hb2 := hb2.ext e8
  have hb3 := hb3.ext e8
  have hE := hE.trans e8
  (repeat (apply WL.pure; rfl; rfl; rfl))
  refine WL.alloc rfl rfl (fun w9 hb8 e9 => ?_)
  skip
  refine WL.st rfl rfl rfl hb8 rfl rfl (ones_of rfl) (fun w10 hb8 hg10 => ?_)
  have e10 : Ext w8 w10 := e9.grown hg10 e9.size (fun g hg => by cases hg; exact Nat.le_refl _)
  have hb2 := hb2.ext e10
  have hb3 := hb3.ext e10
  have hE := hE.trans e10
  have hs := hs.up e10
  have hl := hl.up e10
  clear e9 hg10 e8 hb5
  rcases hF with ⟨he, rfl, rfl, rfl, _⟩ | ⟨rfl, hW, hA, ⟨rfl, rfl, rfl, _⟩ | ⟨rfl, _, hP⟩⟩
  · have hb : (err != 0) = true := by simpa using he
    have hb' : (err == 0) = false := by simpa using he
    (repeat (first | (apply WL.pure; rfl; rfl; rfl) | (apply WL.nil) | (apply EX.thenN) | (apply CW.seq) | (apply CW.region)))
    rw [hb]
    (repeat (first | (apply WL.pure; rfl; rfl; rfl) | (apply WL.nil) | (apply EX.thenN) | (apply CW.seq) | (apply CW.region) | (apply WL.pass; rfl; rfl) | (apply WL.lenS; rfl; rfl; rfl) | (apply WL.fa; rfl; rfl; rfl) | (apply WL.ld; rfl; rfl; rfl; assumption; rfl) | (apply CW.condT; rfl)))
    rw [hb']
    (repeat (first | (apply WL.pure; rfl; rfl; rfl) | (apply WL.nil) | (apply EX.thenN) | (apply CW.ret) | (apply EX.thenR)))
    exact EX.ret1 rfl rfl ⟨rfl, hE⟩
  · (repeat (first | (apply WL.pure; rfl; rfl; rfl) | (apply WL.nil) | (apply EX.thenN) | (apply CW.seq) | (apply CW.region) | (apply WL.pass; rfl; rfl) | (apply WL.lenS; rfl; rfl; rfl) | (apply WL.fa; rfl; rfl; rfl) | (apply WL.ld; rfl; rfl; rfl; assumption; rfl) | (apply CW.condT; rfl) | (apply CW.ret) | (apply EX.thenR)))
    exact EX.ret1 rfl rfl ⟨rfl, hE⟩
  have okA := chkA_ok hA
  (repeat (first | (apply WL.pure; rfl; rfl; rfl) | (apply WL.nil) | (apply EX.thenN) | (apply CW.seq) | (apply CW.region) | (apply WL.ldA; rfl; rfl; rfl; assumption; rfl) | (apply CW.condF; rfl) | (apply CW.skip)))
  refine WL.call rfl rfl rfl (Good_ok w10 (h1.up hE) (h2.up hE) hm3 (h4.up hE) hs hl) ?_
  rintro _ w11 ⟨rfl, e11⟩
  have hb2 := hb2.ext e11
  have hb3 := hb3.ext e11
  have hb8 := hb8.ext e11
  have hE := hE.trans e11
  have hs := hs.up e11
  have hl := hl.up e11
  rcases hP.goodF hW with hG | hG
  · rw [hG]
    (repeat (first | (apply WL.pure; rfl; rfl; rfl) | (apply WL.nil) | (apply EX.thenN) | (apply CW.seq) | (apply CW.region) | (apply WL.pass; rfl; rfl) | (apply CW.condT; rfl) | (apply CW.ret) | (apply EX.thenR)))
    exact EX.ret1 rfl rfl ⟨rfl, hE⟩
  obtain ⟨hs6, hl6⟩ := goodF_len hG
  rw [hG]
  (repeat (first | (apply WL.pure; rfl; rfl; rfl) | (apply WL.nil) | (apply EX.thenN) | (apply CW.seq) | (apply CW.region) | (apply WL.ldA; rfl; rfl; rfl; assumption; rfl) | (apply CW.condF; rfl) | (apply CW.skip)))
  refine WL.call rfl rfl rfl (Word_ok w11 (h1.up hE) (h2.up hE) (h3.up hE) (h4.up hE) hs hl hs6 hl6) ?_
  rintro _ w12 ⟨x, rfl, hx, e12⟩
  obtain ⟨xo, xc, yo, yc, rfl, hxs, hxl⟩ := hx.word
  have hb2 := hb2.ext e12
  have hb3 := hb3.ext e12
  have hE := hE.trans e12
  (repeat (apply WL.pure; rfl; rfl; rfl))
  refine WL.alloc rfl rfl (fun w13 hb13 e13 => ?_)
  skip
  refine WL.st rfl rfl rfl hb13 rfl rfl (ones_of rfl) (fun w14 hb13 hg14 => ?_)
  have e14 : Ext w12 w14 := e13.grown hg14 e13.size (fun g hg => by cases hg; exact Nat.le_refl _)
  have hb3 := hb3.ext e14
  have hE := hE.trans e14
  have hxs := hxs.up e14
  have hxl := hxl.up e14
  clear e13 hg14
  rcases hP.wordF hW with hw | hw
  · rw [hw]
    (repeat (first | (apply WL.pure; rfl; rfl; rfl) | (apply WL.nil) | (apply EX.thenN) | (apply CW.seq) | (apply CW.region) | (apply CW.condT; rfl) | (apply CW.ret) | (apply EX.thenR)))
    exact EX.ret1 rfl rfl ⟨rfl, hE⟩
  have hacc := hP.accF okA hw
  rw [hw]
  (repeat (first | (apply WL.pure; rfl; rfl; rfl) | (apply WL.nil) | (apply EX.thenN) | (apply CW.seq) | (apply CW.region) | (apply WL.ldA; rfl; rfl; rfl; assumption; rfl) | (apply CW.condF; rfl) | (apply CW.skip)))
  refine WL.call rfl rfl rfl (Accepts_ok w14 (A := A) (ha0.up hE) hxs hxl eA) ?_
  rintro _ w15 ⟨rfl, e15⟩
  rw [hacc]
  (repeat (first | (apply WL.pure; rfl; rfl; rfl) | (apply WL.nil) | (apply EX.thenN) | (apply CW.seq) | (apply CW.region) | (apply CW.ret)))
  exact EX.ret1 rfl rfl ⟨rfl, hE.trans e15⟩
end Go.Proofs.Ytllpfgcngokhnaa
/-
  Package auto: the maker of pairs: what it holds.
-/
set_option linter.unusedVariables false
set_option linter.unusedSimpArgs false
namespace Go.Proofs.Ytllpfgcngokhnaa
open Go.RowKit

instance iMk1 : IsM Try.prog 108 105 3 := ⟨Try.underlying108⟩
instance iMk2 : IsC Try.prog 108 1 false := IsC.of (by kernel_rfl) Try.underlying108 rfl
instance iMk3 : IsZ0 Try.prog 3 := ⟨by kernel_rfl⟩
theorem mkLaid : laidOutB Try.prog = true := by kernel_rfl
instance iMk4 : IsKy Try.prog 105 := IsKy.of (m := 2) mkLaid (by decide) (by kernel_rfl) (by kernel_rfl) Try.underlying105 rfl
abbrev prV (p : Pr2) : Value := .agg ⟨[.int .i64 p.1, .int .i64 p.2]⟩
def SmP (p : Pr2) : Prop := 0 ≤ p.1 ∧ p.1 < 4096 ∧ 0 ≤ p.2 ∧ p.2 < 4096
theorem prV_key {p : Pr2} (h : SmP p) : KeyV Try.prog 105 (prV p) := by
  obtain ⟨h1, h2, h3, h4⟩ := h
  refine KeyV.pair (fa := 3) (fb := 3) (by kernel_rfl) (fun a b => ?_) ⟨_, Try.underlying105⟩ ?_ ?_
  · obtain ⟨s, hs⟩ : ∃ s, Try.prog.types.size = s + 1 := by
      have : Nat.ble 1 Try.prog.types.size = true := by kernel_rfl
      have := Nat.le_of_ble_eq_true this
      exact ⟨Try.prog.types.size - 1, by omega⟩
    have hc : Try.prog.cellsOf 3 = 1 := by kernel_rfl
    have hI : ∀ (x : Int), Try.prog.keyLits (s + 1) 3 [.int .i64 x] = if (Lit.int .i64 x).wf = true then some [.int .i64 x] else none := fun x => by
      rw [Program.keyLits.eq_def]
      simp only [Try.underlying3]
      by_cases h : (Lit.int .i64 x).wf = true <;> simp [h]
    rw [hs, Program.keyLits.eq_def]
    simp only [Try.underlying105]
    rw [if_pos ⟨by kernel_rfl, by kernel_rfl⟩]
    simp only [List.mapM_cons, List.mapM_nil, hc, List.drop_zero, List.take_succ_cons, List.take_zero, List.drop_succ_cons, hI]
    by_cases h1 : (Lit.int .i64 a).wf = true <;> by_cases h2 : (Lit.int .i64 b).wf = true <;> simp [h1, h2]
  · simp [Lit.wf, IntKind.min, IntKind.max, IntKind.signed, IntKind.bits]; omega
  · simp [Lit.wf, IntKind.min, IntKind.max, IntKind.signed, IntKind.bits]; omega
theorem prV_inj {p q : Pr2} (h : prV p = prV q) : p = q := by
  obtain ⟨a, b⟩ := p
  obtain ⟨c, d⟩ := q
  simp [prV] at h
  exact Prod.ext h.1 h.2
structure MC where
  sb : Nat
  mb : Nat
  lv : Value
  a1 : Value
  a2 : Value
  a3 : Value
  a4 : Value
  a5 : Value
structure Mk (w : World) (B : Nat) (c : MC) (ps : List Pr2) : Prop where
  blk : Blk w c.sb 110 [.map (some c.mb), c.lv, c.a1, c.a2, c.a3, c.a4, c.a5]
  num : NumM Try.prog 105 w c.mb (ps.map prV)
  lo : Own w B 105 Non c.lv ps
  ge : B ≤ c.sb ∧ B ≤ c.mb
  ne : c.sb ≠ c.mb
  nl : ∀ g, c.lv.ownBlock = some g → g ≠ c.sb ∧ g ≠ c.mb
  nd : ps.Nodup
  sm : ∀ p ∈ ps, SmP p
theorem Mk.ext {w w' : World} {B : Nat} {c : MC} {ps : List Pr2} (h : Mk w B c ps) (hE : Ext w w') : Mk w' B c ps :=
  ⟨h.blk.ext hE, h.num.ext hE, h.lo.extN hE, h.ge, h.ne, h.nl, h.nd, h.sm⟩
def mkBusy (c : MC) (lv : Value) : Nat → Prop := fun b => b = c.sb ∨ b = c.mb ∨ c.lv.ownBlock = some b ∨ lv.ownBlock = some b
/-- what stands ahead of the number's place in the list -/
structure AddI (w0 w : World) (B B2 : Nat) (c : MC) (cl lv : Value) (ps : List Pr2) (l : List Int) : Prop where
  mak : Mk w B ⟨c.sb, c.mb, cl, c.a1, c.a2, c.a3, c.a4, c.a5⟩ ps
  own : Own w B2 3 Non lv l
  chg : Chg (mkBusy c lv) w0 w
  new : ∀ g, cl.ownBlock = some g → c.lv.ownBlock = some g ∨ w0.heap.size ≤ g
theorem add_ok (w0 : World) {B B2 : Nat} {c : MC} {ps : List Pr2} {lv : Value} {l : List Int} {p : Pr2} (h : Mk w0 B c ps) (hl : Own w0 B2 3 Non lv l) (hd : ∀ g, lv.ownBlock = some g → g ≠ c.sb ∧ g ≠ c.mb ∧ c.lv.ownBlock ≠ some g)
    (hB : B ≤ w0.heap.size) (hB2 : B2 ≤ w0.heap.size) (hp : SmP p) (hps : ps.length ≤ 4096) (hll : l.length ≤ 1099511627776) :
    Rt Try.prog 114 [.pointer (some ⟨c.sb, 0, none⟩), lv, prV p].toArray w0 fun v w' => ∃ lv' cl, v = .tuple ⟨[lv', .bool (decide ((addP ps l p).1.length ≤ 2048))]⟩ ∧ Mk w' B ⟨c.sb, c.mb, cl, c.a1, c.a2, c.a3, c.a4, c.a5⟩ (addP ps l p).1 ∧
      Own w' B2 3 Non lv' (addP ps l p).2 ∧ Chg (mkBusy c lv) w0 w' ∧ (∀ g, lv'.ownBlock = some g → lv.ownBlock = some g ∨ w0.heap.size ≤ g) ∧ (∀ g, cl.ownBlock = some g → c.lv.ownBlock = some g ∨ w0.heap.size ≤ g) ∧ ∀ g, lv'.ownBlock = some g → cl.ownBlock ≠ some g := by
  have hkey := prV_key hp
  have hmem : prV p ∈ ps.map prV ↔ p ∈ ps := by
    rw [List.mem_map]
    exact ⟨fun ⟨q, h1, h2⟩ => by rw [← prV_inj h2]; exact h1, fun h => ⟨p, h, rfl⟩⟩
  refine Rt.enter3 Try.func114 Try.ntmps114 rfl rfl ?_
  (repeat (first | (apply CW.seq) | (apply CW.region)))
  refine WL.boxB rfl rfl rfl fun w1 hb5 e1 => ?_
  have h1 := h.ext e1
  have hblk := h1.blk
  unfold addP
  dsimp only
  have hl1 := hl.extN e1
  have hz1 := e1.size
  have hl5 := hb5.lt
  obtain ⟨sb, mb, cv, a1, a2, a3, a4, a5⟩ := c
  obtain ⟨co, cc, rfl⟩ := h.lo.val
  dsimp only at hd h h1 hblk ⊢
  (repeat (apply WL.pure; rfl; rfl; rfl))
  apply WL.nil
  apply EX.thenN
  refine CW.cutE [(0, .pointer (some ⟨sb, 0, none⟩)), (1, lv), (5, .pointer (some ⟨w0.heap.size, 0, none⟩)), (8, .int .i64 (if p ∈ ps then (ps.idxOf p : Int) else 0)), (9, .bool (decide (p ∈ ps)))] ?_ (fun w2 e2 => ?_)
  · by_cases hin : p ∈ ps
    · rw [if_pos hin, decide_eq_true hin]
      obtain ⟨j, hj, hjm⟩ := List.mem_iff_getElem.1 hin
      have hix : ps.idxOf p = j := by rw [← hjm]; exact h.nd.idxOf_getElem j hj
      rw [hix]
      (repeat (first | (apply QL.pure; rfl; rfl; rfl) | (apply QL.fa; rfl; rfl; rfl) | (apply QL.nck; rfl; rfl; rfl) | (apply QL.ld; rfl; rfl; rfl; assumption; rfl) | (apply QL.ldA; rfl; rfl; rfl; assumption; rfl) | (apply CW.draw; exact mixed; kernel_rfl)))
      refine QL.numYes (j := j) (by simpa using hj) (by rw [List.getElem_map, hjm]) rfl rfl rfl rfl h1.num hkey ?_
      (repeat (apply QL.pure; rfl; rfl; rfl))
      refine QL.nil (fun w2 e2 => ?_)
      exact EX.cutE (by repeat (first | exact trivial | refine ⟨rfl, ?_⟩)) e2
    · rw [if_neg hin, decide_eq_false hin]
      (repeat (first | (apply QL.pure; rfl; rfl; rfl) | (apply QL.fa; rfl; rfl; rfl) | (apply QL.nck; rfl; rfl; rfl) | (apply QL.ld; rfl; rfl; rfl; assumption; rfl) | (apply QL.ldA; rfl; rfl; rfl; assumption; rfl) | (apply CW.draw; exact mixed; kernel_rfl)))
      refine QL.numNo rfl rfl rfl rfl h1.num hkey (fun h => hin (hmem.1 h)) ?_
      (repeat (apply QL.pure; rfl; rfl; rfl))
      refine QL.nil (fun w2 e2 => ?_)
      exact EX.cutE (by repeat (first | exact trivial | refine ⟨rfl, ?_⟩)) e2
  have hE := e1.trans e2
  have h2 := h.ext hE
  have hl2 := hl.extN hE
  have hb5 := hb5.ext e2
  have hz2 := e2.size
  have hchg : Chg (mkBusy ⟨sb, mb, .slice co ps.length cc, a1, a2, a3, a4, a5⟩ lv) w0 w2 := ⟨hE.os, hE.tape, hE.output, hE.size, fun b hb _ => hE.block b hb⟩
  clear h1 hl1 hblk
  refine CW.cutI (S := Option Addr × Nat) (fun _ => [(0, .pointer (some ⟨sb, 0, none⟩)), (1, lv), (8, .int .i64 (ps.idxOf p : Int))])
    (fun s w => AddI w0 w B B2 ⟨sb, mb, .slice co ps.length cc, a1, a2, a3, a4, a5⟩ (.slice s.1 (if p ∈ ps then ps else ps ++ [p]).length s.2) lv (if p ∈ ps then ps else ps ++ [p]) l) ?_ ?_
  · by_cases hin : p ∈ ps
    · rw [if_pos hin, if_pos hin, decide_eq_true hin]
      (repeat (first | (apply WL.pure; rfl; rfl; rfl) | (apply WL.nil) | (apply EX.thenN) | (apply CW.seq) | (apply CW.region) | (apply CW.condF; rfl) | (apply CW.skip)))
      exact EX.cutI (co, cc) (by repeat (first | exact trivial | refine ⟨rfl, ?_⟩)) ⟨h2, hl2, hchg, fun g hg => .inl hg⟩
    · rw [if_neg hin, if_neg hin, decide_eq_false hin]
      have hix := idxOf_new hin
      have hblk := h2.blk
      dsimp only at hblk
      have hmb0 := h.num.lt
      have hsb0 := h.blk.lt
      have hlt0 := h.lo.lt
      dsimp only at hmb0 hsb0 hlt0
      have hne := h.ne
      have hnl := h.nl
      dsimp only at hne hnl
      have hl5x := hb5.lt
      rw [hix]
      -- the map
      have hD : Ext w2 (drew w2) := Ext.drew w2
      have hblkd := hblk.ext hD
      have hb5d := hb5.ext hD
      have hK5 : ∀ u, (fun x : World => x.heap[w0.heap.size]? = (drew w2).heap[w0.heap.size]? ∧ x.heap[sb]? = (drew w2).heap[sb]?) u → u.heap[w0.heap.size]? = (drew w2).heap[w0.heap.size]? := fun _ h => h.1
      have hKs : ∀ u, (fun x : World => x.heap[w0.heap.size]? = (drew w2).heap[w0.heap.size]? ∧ x.heap[sb]? = (drew w2).heap[sb]?) u → u.heap[sb]? = (drew w2).heap[sb]? := fun _ h => h.2
      (repeat (first | (apply WL.pure; rfl; rfl; rfl) | (apply WL.nil) | (apply EX.thenN) | (apply CW.seq) | (apply CW.region) | (apply WL.lenS; rfl; rfl; rfl) | (apply WL.fa; rfl; rfl; rfl) | (apply WL.nck; rfl; rfl; rfl) | (apply WL.ld; rfl; rfl; rfl; assumption; rfl) | (apply CW.condT; rfl)))
      refine CW.drawH (fun x : World => x.heap[w0.heap.size]? = (drew w2).heap[w0.heap.size]? ∧ x.heap[sb]? = (drew w2).heap[sb]?) [(0, true), (1, true), (2, true), (3, true), (4, true), (5, true), (6, false)] mixed (by kernel_rfl) ⟨rfl, rfl⟩ ?_
      (repeat (first | (apply HL.pure; rfl; rfl; rfl; rfl) | (refine HL.fa rfl rfl rfl rfl ?_) | (apply HL.nck; rfl; rfl; rfl; rfl) | (refine HL.ldK (by assumption) rfl rfl rfl rfl (by assumption) rfl ?_)))
      refine HL.ldAQ hK5 rfl rfl rfl rfl hb5d rfl ?_
      (repeat (apply HL.pure; rfl; rfl; rfl; rfl))
      refine HL.mut rfl (WL.numPut (ks := ps.map prV) rfl rfl rfl (by simp [ev, fnd, List.length_map]) (h2.num.ext hD) hkey (fun h => hin (hmem.1 h)) (fun w3 hnum3 hg3 => ?_))
      have hzd := hD.size
      refine WL.nil (EX.mut ⟨?_, ?_⟩ (HL.nil ?_))
      · exact hg3.block _ (by omega) (fun e => by have := Option.some.inj e; omega)
      · exact hg3.block _ (by omega) (fun e => hne (Option.some.inj e))
      have hz3 := hg3.size
      have hblk3 := hblkd.kept hg3 (fun e => hne (Option.some.inj e))
      have hb53 := hb5d.kept hg3 (fun e => by have := Option.some.inj e; omega)
      have hlo3 := (h2.lo.extN hD).keptN hg3 (fun g hg e => (hnl g hg).2 (Option.some.inj e))
      have hl3 := (hl2.extN hD).keptN hg3 (fun g hg e => (hd g hg).2.1 (Option.some.inj e))
      dsimp only at hlo3
      have hC3 : Chg (mkBusy ⟨sb, mb, .slice co ps.length cc, a1, a2, a3, a4, a5⟩ lv) w0 w3 := (⟨hD.os.trans hchg.os, hD.tape.trans hchg.tape, hD.output.trans hchg.output, Nat.le_trans hchg.size hD.size, fun b hb hn => (hD.block b (Nat.lt_of_lt_of_le hb hchg.size)).trans (hchg.block b hb hn)⟩ : Chg _ w0 (drew w2)).grown hg3 (fun g hg => by cases hg; exact .inr (.inl rfl))
      clear hblkd hb5d hK5 hKs hD hzd hg3 hblk hb5
      -- the list
      have hD : Ext w3 (drew w3) := Ext.drew w3
      have hblkd := hblk3.ext hD
      have hb5d := hb53.ext hD
      have hlsb := hblk3.lt
      have hl5 := hb53.lt
      have hK5 : ∀ u, (fun x : World => x.heap[w0.heap.size]? = (drew w3).heap[w0.heap.size]? ∧ x.heap[sb]? = (drew w3).heap[sb]?) u → u.heap[w0.heap.size]? = (drew w3).heap[w0.heap.size]? := fun _ h => h.1
      have hKs : ∀ u, (fun x : World => x.heap[w0.heap.size]? = (drew w3).heap[w0.heap.size]? ∧ x.heap[sb]? = (drew w3).heap[sb]?) u → u.heap[sb]? = (drew w3).heap[sb]? := fun _ h => h.2
      have hzd := hD.size
      (repeat (apply EX.thenN))
      refine CW.drawE (fun x : World => x.heap[w0.heap.size]? = (drew w3).heap[w0.heap.size]? ∧ x.heap[sb]? = (drew w3).heap[sb]?) [(0, true), (1, true), (2, true), (3, true), (4, true), (5, true), (6, false), (7, false), (8, false), (9, false)] 10 mixed (by kernel_rfl) ⟨rfl, rfl⟩ ?_
      (repeat (first | (apply HL.pure; rfl; rfl; rfl; rfl) | (refine HL.fa rfl rfl rfl rfl ?_) | (apply HL.nck; rfl; rfl; rfl; rfl) | (refine HL.ldK (by assumption) rfl rfl rfl rfl (by assumption) rfl ?_)))
      refine HL.ldAQ hK5 rfl rfl rfl rfl hb5d rfl ?_
      refine HL.app1 (α := Int × Int) (F := Non) (bytes := 16) (yv := p) rfl rfl rfl rfl (fun _ => rfl) rfl rfl (fun _ => rfl) (hlo3.extN hD) (Rd.mkPr (c1 := [.int .i64 p.1]) (c2 := [.int .i64 p.2]) (rd_mkInt _ _ _) (rd_mkInt _ _ _)) (by omega) (fun _ h => h.elim) (by decide) (by unfold maxLen; omega) (by omega)
        (fun z hz => ⟨hz.block _ (by omega) (fun e => by have := hlt0 _ e.symm; omega), hz.block _ (by omega) (fun e => (hnl _ e.symm).1 rfl)⟩) (fun cl w4 q4 ho4 hg4 hnb4 => ?_)
      obtain ⟨co', cc', rfl⟩ := ho4.val
      have hblk4 := hblkd.kept hg4 (fun e => (hnl _ e.symm).1 rfl)
      have hnum4 := (hnum3.ext hD).kept hg4 (fun e => (hnl _ e.symm).2 rfl)
      have hl4 := (hl3.extN hD).keptN hg4 (fun g hg e => (hd g hg).2.2 e.symm)
      have hS4 : w4.heap[w0.heap.size]? = (drew w3).heap[w0.heap.size]? ∧ w4.heap[sb]? = (drew w3).heap[sb]? := ⟨hg4.block _ (by omega) (fun e => by have := hlt0 _ e.symm; omega), hg4.block _ (by omega) (fun e => (hnl _ e.symm).1 rfl)⟩
      refine HL.mut rfl (WL.nck rfl rfl rfl (WL.nil (EX.mut hS4 ?_)))
      refine HL.mut rfl (WL.fa rfl rfl rfl (WL.nil (EX.mut hS4 (HL.nil ?_))))
      refine EX.tail rfl (WL.st rfl rfl rfl hblk4 rfl rfl (ones_of rfl) (fun w5 hblk5 hg5 => WL.nil ?_))
      have hlo5 := ho4.keptN hg5 (fun g hg e => by
        rcases hnb4 g hg with h | h
        · exact (hnl g h).1 (Option.some.inj e)
        · have := Option.some.inj e; omega)
      have hnum5 := hnum4.kept hg5 (fun e => hne (Option.some.inj e).symm)
      have hl5' := hl4.keptN hg5 (fun g hg e => (hd g hg).1 (Option.some.inj e))
      have hC4 := (⟨hD.os.trans hC3.os, hD.tape.trans hC3.tape, hD.output.trans hC3.output, Nat.le_trans hC3.size hD.size, fun b hb hn => (hD.block b (Nat.lt_of_lt_of_le hb hC3.size)).trans (hC3.block b hb hn)⟩ : Chg (mkBusy ⟨sb, mb, .slice co ps.length cc, a1, a2, a3, a4, a5⟩ lv) w0 (drew w3)).grown hg4 (fun g hg => .inr (.inr (.inl hg)))
      have hC5 := hC4.grown hg5 (fun g hg => by cases hg; exact .inl rfl)
      have hz4 := hg4.size
      rw [show ps.map prV ++ [prV p] = (ps ++ [p]).map prV by simp] at hnum5
      unfold EX
      refine fun a ha => ⟨rfl, rfl, (co', cc'), ha.sub (by repeat (first | exact trivial | refine ⟨rfl, ?_⟩)), ⟨⟨hblk5, hnum5, hlo5, h.ge, hne, fun g hg => ?_, ?_, fun q hq => ?_⟩, hl5', hC5, fun g hg => ?_⟩⟩
      · rcases hnb4 g hg with h | h
        · exact hnl g h
        · exact ⟨by dsimp only; omega, by dsimp only; omega⟩
      · rw [List.nodup_append]
        refine ⟨h.nd, List.pairwise_singleton _ _, fun a ha b hb e' => ?_⟩
        rw [List.mem_singleton] at hb
        exact hin (by rw [← hb, ← e']; exact ha)
      · rcases List.mem_append.1 hq with hq | hq
        · exact h.sm q hq
        · rw [List.mem_singleton] at hq; rw [hq]; exact hp
      · rcases hnb4 g hg with h | h
        · exact .inl h
        · exact .inr (by omega)
  · clear h2 hl2 hb5 hchg hE e1 e2 hmem hkey h
    rintro ⟨co', cc'⟩ w3 ⟨hM, hl3, hC3, hnew3⟩
    dsimp only at hM hnew3
    have hPl : (if p ∈ ps then ps else ps ++ [p]).length ≤ 4097 := by
      split
      · omega
      · rw [List.length_append]; simp; omega
    generalize (if p ∈ ps then ps else ps ++ [p]) = ps' at *
    generalize ps.idxOf p = n at *
    obtain ⟨lo, lc, rfl⟩ := hl3.val
    have hls : Sl w3 (Old w3) lo lc l := by
      obtain ⟨a, b, e, h⟩ := hl3.oldN.sl
      obtain ⟨rfl, _, rfl⟩ := Value.slice.inj e
      exact h
    have hz3 := hC3.size
    have hap : ∀ g, Value.ownBlock (.slice lo l.length lc) = some g → Value.ownBlock (.slice co' ps'.length cc') ≠ some g := fun g hg e => by
      rcases hnew3 g e with h | h
      · exact (hd g hg).2.2 h
      · have := (hl.lt g hg).2.1; omega
    have hdec : decide ((ps'.length : Int) ≤ 2048) = decide (ps'.length ≤ 2048) := by
      by_cases h : ps'.length ≤ 2048
      · rw [decide_eq_true h, decide_eq_true (by omega)]
      · rw [decide_eq_false h, decide_eq_false (by omega)]
    (repeat (first | (apply WL.pure; rfl; rfl; rfl) | (apply CW.seq) | (apply CW.region)))
    refine WL.call rfl rfl rfl (contains_int w3 (n : Int) hls) ?_
    rintro _ w4 ⟨rfl, e4⟩
    have hM4 := hM.ext e4
    have hblk := hM4.blk
    dsimp only at hblk
    have hl4 := hl3.extN e4
    have hC4 : Chg (mkBusy ⟨sb, mb, .slice co ps.length cc, a1, a2, a3, a4, a5⟩ (.slice lo l.length lc)) w0 w4 := ⟨e4.os.trans hC3.os, e4.tape.trans hC3.tape, e4.output.trans hC3.output, Nat.le_trans hC3.size e4.size, fun b hb hn => (e4.block b (Nat.lt_of_lt_of_le hb hC3.size)).trans (hC3.block b hb hn)⟩
    by_cases hc : (n : Int) ∈ l
    · rw [show l.contains (n : Int) = true by rw [List.contains_eq_mem]; exact decide_eq_true hc, if_pos hc]
      (repeat (first | (apply WL.pure; rfl; rfl; rfl) | (apply QL.pure; rfl; rfl; rfl) | (apply WL.nil) | (apply EX.thenN) | (apply CW.seq) | (apply QL.lenS; rfl; rfl; rfl) | (apply QL.fa; rfl; rfl; rfl) | (apply QL.nck; rfl; rfl; rfl) | (apply QL.ld; rfl; rfl; rfl; assumption; rfl) | (apply CW.condF; rfl) | (apply CW.skip) | (apply CW.draw; exact mixed; kernel_rfl)))
      refine QL.nil (fun w5 e5 => ?_)
      (repeat (first | (apply EX.thenN) | (apply CW.ret)))
      refine EX.ret2 rfl rfl rfl ⟨.slice lo l.length lc, .slice co' ps'.length cc', by rw [hdec], hM4.ext e5, hl4.extN e5, ⟨e5.os.trans hC4.os, e5.tape.trans hC4.tape, e5.output.trans hC4.output, Nat.le_trans hC4.size e5.size, fun b hb hn => (e5.block b (Nat.lt_of_lt_of_le hb hC4.size)).trans (hC4.block b hb hn)⟩, fun g hg => .inl hg, hnew3, hap⟩
    · rw [show l.contains (n : Int) = false by rw [List.contains_eq_mem]; exact decide_eq_false hc, if_neg hc]
      have hz4 := hC4.size
      have hnl := hM4.nl
      have hmlo := hM4.lo.lt
      dsimp only at hnl hmlo
      (repeat (first | (apply WL.pure; rfl; rfl; rfl) | (apply WL.nil) | (apply EX.thenN) | (apply CW.region) | (apply CW.condT; rfl)))
      refine WL.app1 (α := Int) (F := Non) (bytes := 8) rfl rfl (fun _ => rfl) rfl rfl (fun _ => rfl) hl4 (Rd.mkInt _ _ _) (by omega) (fun _ h => h.elim) (by decide) (by unfold maxLen; omega) (by omega) (fun lv' w5 q ho5 hg5 hnb5 => ?_)
      have hsbl := hblk.lt
      have hM5 : Mk w5 B ⟨sb, mb, .slice co' ps'.length cc', a1, a2, a3, a4, a5⟩ ps' := ⟨hblk.kept hg5 (fun e => (hd sb e.symm).1 rfl), hM4.num.kept hg5 (fun e => (hd mb e.symm).2.1 rfl), hM4.lo.keptN hg5 (fun g hg e => hap g e.symm hg), hM4.ge, hM4.ne, hM4.nl, hM4.nd, hM4.sm⟩
      have hC5 := hC4.grown hg5 (fun g hg => .inr (.inr (.inr hg)))
      have hblk := hM5.blk
      dsimp only at hblk
      (repeat (first | (apply WL.pure; rfl; rfl; rfl) | (apply QL.pure; rfl; rfl; rfl) | (apply WL.nil) | (apply EX.thenN) | (apply CW.seq) | (apply QL.lenS; rfl; rfl; rfl) | (apply QL.fa; rfl; rfl; rfl) | (apply QL.nck; rfl; rfl; rfl) | (apply QL.ld; rfl; rfl; rfl; assumption; rfl) | (apply CW.draw; exact mixed; kernel_rfl)))
      refine QL.nil (fun w6 e6 => ?_)
      (repeat (first | (apply EX.thenN) | (apply CW.ret)))
      refine EX.ret2 rfl rfl rfl ⟨lv', .slice co' ps'.length cc', by rw [hdec], hM5.ext e6, ho5.extN e6, ⟨e6.os.trans hC5.os, e6.tape.trans hC5.tape, e6.output.trans hC5.output, Nat.le_trans hC5.size e6.size, fun b hb hn => (e6.block b (Nat.lt_of_lt_of_le hb hC5.size)).trans (hC5.block b hb hn)⟩, fun g hg => (hnb5 g hg).imp id (fun h => Nat.le_trans hz4 h), hnew3, fun g hg e => ?_⟩
      rcases hnb5 g hg with h | h
      · exact hap g h e
      · have := (hmlo g e).2.1; omega
end Go.Proofs.Ytllpfgcngokhnaa
/-
  Package auto: put, the maker's closure: walked.
-/
set_option linter.unusedVariables false
set_option linter.unusedSimpArgs false
namespace Go.Proofs.Ytllpfgcngokhnaa
open Go.RowKit

theorem putP_sizes : ∀ (r ps : List Pr2) (ok : Bool) (l : List Int), (ok = true → ps.length ≤ 2048) → ps.length ≤ 2049 → (putP r ps ok l).1.length ≤ 2049 ∧ ((putP r ps ok l).2.1 = true → (putP r ps ok l).1.length ≤ 2048)
  | [], ps, ok, l, h, h2 => ⟨h2, h⟩
  | p :: r, ps, ok, l, h, h2 => by
    rw [putP]
    split
    · rename_i hk
      have h1 := h hk
      refine putP_sizes r _ _ _ (fun h => of_decide_eq_true h) ?_
      unfold addP
      dsimp only
      split
      · omega
      · rw [List.length_append]; simp; omega
    · exact putP_sizes r _ _ _ h h2
theorem rd_pr2 {w : World} {F : Nat → Prop} {v : Value} {x : Pr2} (h : Rd w F v x) : v = prV x := by
  obtain ⟨c1, c2, rfl, h1, h2⟩ := h.pr
  rw [rd_int h1, rd_int h2]; rfl
set_option maxHeartbeats 1000000 in
theorem put_ok (w0 : World) {B kb tb : Nat} {c : MC} {ps r : List Pr2} {ok : Bool} {F : Nat → Prop} {po : Option Addr} {pc : Nat} (h : Mk w0 B c ps) (hk : Blk w0 kb 4 [.bool ok]) (ht : Blk w0 tb 107 [.pointer (some ⟨c.sb, 0, none⟩)])
    (hr : Sl w0 F po pc r) (hF : ∀ b, F b → b < w0.heap.size ∧ b ≠ c.sb ∧ b ≠ c.mb ∧ c.lv.ownBlock ≠ some b ∧ b ≠ kb) (hkn : kb ≠ c.sb ∧ kb ≠ c.mb ∧ c.lv.ownBlock ≠ some kb) (htn : tb ≠ c.sb ∧ tb ≠ c.mb ∧ c.lv.ownBlock ≠ some tb ∧ tb ≠ kb)
    (hB : B ≤ w0.heap.size) (hsm : ∀ p ∈ r, SmP p) (hok : ok = true → ps.length ≤ 2048) (hps : ps.length ≤ 2049) (hrl : r.length ≤ 1099511627776) :
    Rt Try.prog 113 [.slice po r.length pc, .pointer (some ⟨kb, 0, none⟩), .pointer (some ⟨tb, 0, none⟩)].toArray w0 fun v w' => ∃ cl, Mk w' B ⟨c.sb, c.mb, cl, c.a1, c.a2, c.a3, c.a4, c.a5⟩ (putP r ps ok []).1 ∧
      Blk w' kb 4 [.bool (putP r ps ok []).2.1] ∧ Own w' w0.heap.size 3 Non v (putP r ps ok []).2.2 ∧ Chg (fun b => b = c.sb ∨ b = c.mb ∨ c.lv.ownBlock = some b ∨ b = kb) w0 w' ∧ (∀ g, cl.ownBlock = some g → c.lv.ownBlock = some g ∨ w0.heap.size ≤ g) ∧ ∀ g, v.ownBlock = some g → cl.ownBlock ≠ some g := by
  have hrl' := hr.len63
  have hsb0 := h.blk.lt
  have hmb0 := h.num.lt
  have hkb0 := hk.lt
  refine Rt.enter3 Try.func113 Try.ntmps113 rfl rfl ?_
  (repeat (first | (apply WL.pure; rfl; rfl; rfl) | (apply WL.nil) | (apply EX.thenN) | (apply CW.seq) | (apply CW.region) | (apply WL.lenS; rfl; rfl; rfl) | (apply CW.block)))
  refine CW.loop (S := Nat × Value × Value × List Pr2 × Bool × List Int) (fun s => [(1, .pointer (some ⟨kb, 0, none⟩)), (2, .pointer (some ⟨tb, 0, none⟩)), (5, s.2.1), (8, .slice po r.length pc), (9, .int .i64 r.length), (10, .int .i64 s.1)])
    (fun s w => s.1 ≤ r.length ∧ putP (r.drop s.1) s.2.2.2.1 s.2.2.2.2.1 s.2.2.2.2.2 = putP r ps ok [] ∧ Mk w B ⟨c.sb, c.mb, s.2.2.1, c.a1, c.a2, c.a3, c.a4, c.a5⟩ s.2.2.2.1 ∧ Blk w kb 4 [.bool s.2.2.2.2.1] ∧ Own w w0.heap.size 3 Non s.2.1 s.2.2.2.2.2 ∧
      Chg (fun b => b = c.sb ∨ b = c.mb ∨ c.lv.ownBlock = some b ∨ b = kb) w0 w ∧ (∀ g, s.2.2.1.ownBlock = some g → c.lv.ownBlock = some g ∨ w0.heap.size ≤ g) ∧ (∀ g, s.2.1.ownBlock = some g → s.2.2.1.ownBlock ≠ some g) ∧ (s.2.2.2.2.1 = true → s.2.2.2.1.length ≤ 2048) ∧ s.2.2.2.1.length ≤ 2049 ∧ s.2.2.2.2.2.length ≤ s.1)
    (fun s => r.length - s.1) (0, .slice none 0 0, c.lv, ps, ok, []) (by repeat (first | exact trivial | refine ⟨rfl, ?_⟩)) ⟨Nat.zero_le _, rfl, h, hk, Own.nil, Chg.refl _ _, fun g hg => .inl hg, (fun g hg => by cases hg), hok, hps, Nat.le_refl _⟩ ?_
  rintro ⟨i, lv, cl, qs, qk, ql⟩ w1 ⟨hi, hT, hM, hk1, hl1, hC1, hn1, hd1, ho1, hs1, hz1⟩
  dsimp only at hi hT hM hk1 hl1 hC1 hn1 hd1 ho1 hs1 hz1 ⊢
  (repeat (first | (apply WL.pure; rfl; rfl; rfl) | (apply WL.nil) | (apply EX.thenN) | (apply CW.seq) | (apply CW.region)))
  refine CW.cond rfl (fun h => ?_) (fun h => ?_)
  · have hi' : i < r.length := by simp at h; omega
    rw [List.drop_eq_getElem_cons hi', putP] at hT
    have hr1 : Sl w1 F po pc r := hr.mono (fun b hb => hC1.block b (hF b hb).1 (fun h => by
      have := hF b hb
      rcases h with h | h | h | h
      · exact this.2.1 h
      · exact this.2.2.1 h
      · exact this.2.2.2.1 h
      · exact this.2.2.2.2 h)) (fun _ h => h)
    have hsp := hsm _ (List.getElem_mem hi')
    (repeat (first | (apply EX.thenN) | (apply CW.seq) | (apply CW.region) | (apply CW.block) | (apply CW.skip)))
    refine WL.elemN (i := i) rfl rfl rfl rfl rfl hr1 hi' (fun _ => rfl) (fun u q hu => ?_)
    rw [rd_pr2 hu]
    clear hu hr1
    generalize r[i] = p at *
    skip
    refine WL.alloc rfl rfl (fun w2 hb7 e2 => ?_)
    skip
    refine WL.st rfl rfl rfl hb7 rfl rfl (ones_of rfl) (fun w3 hb7 hg3 => ?_)
    have e3 : Ext w1 w3 := e2.grown hg3 e2.size (fun g hg => by cases hg; exact Nat.le_refl _)
    have hM3 := hM.ext e3
    have hk3 := hk1.ext e3
    have hl3 := hl1.extN e3
    have hC3 : Chg (fun b => b = c.sb ∨ b = c.mb ∨ c.lv.ownBlock = some b ∨ b = kb) w0 w3 := ⟨e3.os.trans hC1.os, e3.tape.trans hC1.tape, e3.output.trans hC1.output, Nat.le_trans hC1.size e3.size, fun b hb hn => (e3.block b (Nat.lt_of_lt_of_le hb hC1.size)).trans (hC1.block b hb hn)⟩
    clear e2 hg3
    cases qk with
    | false =>
      rw [if_neg (by decide)] at hT
      (repeat (first | (apply WL.add; rfl; rfl; rfl; rfl; omega; omega) | (apply WL.pure; rfl; rfl; rfl) | (apply WL.nil) | (apply EX.thenN) | (apply CW.seq) | (apply CW.region) | (apply WL.ld; rfl; rfl; rfl; assumption; rfl) | (apply EX.inN) | (apply CW.condF; rfl) | (apply CW.skip)))
      exact EX.back (i + 1, lv, cl, qs, false, ql) (by repeat (first | exact trivial | refine ⟨rfl, ?_⟩)) ⟨hi', hT, hM3, hk3, hl3, hC3, hn1, hd1, ho1, hs1, by dsimp only; omega⟩ (by dsimp only; omega)
    | true =>
      rw [if_pos rfl] at hT
      have ht3 : Blk w3 tb 107 [.pointer (some ⟨c.sb, 0, none⟩)] := (hC3.block tb ht.lt (fun h => by
        rcases h with h | h | h | h
        · exact htn.1 h
        · exact htn.2.1 h
        · exact htn.2.2.1 h
        · exact htn.2.2.2 h)).trans ht
      have hz3 := hC3.size
      have hlg := fun g hg => (hl1.lt g hg).1
      have hclk : ∀ g, cl.ownBlock = some g → g ≠ kb := fun g hg e => by
        rcases hn1 g hg with h1 | h1
        · exact hkn.2.2 (by rw [← e]; exact h1)
        · omega
      have hadd := add_ok w3 hM3 hl3 (fun g hg => ⟨by have := hlg g hg; dsimp only; omega, by have := hlg g hg; dsimp only; omega, hd1 g hg⟩) (by omega) hz3 hsp (by omega) (by omega)
      dsimp only at hadd
      (repeat (first | (apply WL.pure; rfl; rfl; rfl) | (apply WL.nil) | (apply EX.thenN) | (apply CW.seq) | (apply CW.region) | (apply WL.ld; rfl; rfl; rfl; assumption; rfl) | (apply WL.ldA; rfl; rfl; rfl; assumption; rfl) | (apply CW.condT; rfl)))
      refine WL.call rfl rfl rfl hadd ?_
      rintro _ w4 ⟨lv', cl', rfl, hM4, hl4, hC4, n1, n2, n3⟩
      have hk4 : Blk w4 kb 4 [.bool true] := (hC4.block kb hk3.lt (fun h => by
        rcases h with h | h | h | h
        · exact hkn.1 h
        · exact hkn.2.1 h
        · exact hclk _ h rfl
        · have := hlg _ h; omega)).trans hk3
      have hz4 := hC4.size
      (repeat (apply WL.pure; rfl; rfl; rfl))
      refine WL.st rfl rfl rfl hk4 rfl rfl (ones_of rfl) (fun w5 hk5 hg5 => ?_)
      have hlk : ∀ g, lv'.ownBlock = some g → g ≠ kb := fun g hg e => by
        have := (hl4.lt g hg).1; omega
      have hck : ∀ g, cl'.ownBlock = some g → g ≠ kb := fun g hg e => by
        rcases n2 g hg with h1 | h1
        · exact hclk g h1 e
        · omega
      have hM5 : Mk w5 B ⟨c.sb, c.mb, cl', c.a1, c.a2, c.a3, c.a4, c.a5⟩ (addP qs ql p).1 := ⟨hM4.blk.kept hg5 (fun e => hkn.1 (Option.some.inj e).symm), hM4.num.kept hg5 (fun e => hkn.2.1 (Option.some.inj e).symm), hM4.lo.keptN hg5 (fun g hg e => hck g hg (Option.some.inj e)), hM4.ge, hM4.ne, hM4.nl, hM4.nd, hM4.sm⟩
      have hl5 := hl4.keptN hg5 (fun g hg e => hlk g hg (Option.some.inj e))
      have hC34 : Chg (fun b => b = c.sb ∨ b = c.mb ∨ c.lv.ownBlock = some b ∨ b = kb) w0 w4 := ⟨hC4.os.trans hC3.os, hC4.tape.trans hC3.tape, hC4.output.trans hC3.output, Nat.le_trans hz3 hz4, fun b hb hn => (hC4.block b (Nat.lt_of_lt_of_le hb hz3) (fun h => by
        rcases h with h | h | h | h
        · exact hn (.inl h)
        · exact hn (.inr (.inl h))
        · rcases hn1 b h with h1 | h1
          · exact hn (.inr (.inr (.inl h1)))
          · omega
        · have := hlg _ h; omega)).trans (hC3.block b hb hn)⟩
      have hC5 := hC34.grown hg5 (fun g hg => by cases hg; exact .inr (.inr (.inr rfl)))
      have hal : (addP qs ql p).2.length ≤ i + 1 := by
        unfold addP
        dsimp only
        split
        · omega
        · rw [List.length_append]; simp; omega
      have has : (addP qs ql p).1.length ≤ 2049 := by
        have := ho1 rfl
        unfold addP
        dsimp only
        split
        · omega
        · rw [List.length_append]; simp; omega
      (repeat (first | (apply WL.add; rfl; rfl; rfl; rfl; omega; omega) | (apply WL.pure; rfl; rfl; rfl) | (apply WL.nil) | (apply EX.thenN) | (apply CW.region) | (apply EX.inN)))
      exact EX.back (i + 1, lv', cl', (addP qs ql p).1, decide ((addP qs ql p).1.length ≤ 2048), (addP qs ql p).2) (by repeat (first | exact trivial | refine ⟨rfl, ?_⟩)) ⟨hi', hT, hM5, hk5, hl5, hC5, fun g hg => by
        rcases n2 g hg with h1 | h1
        · exact hn1 g h1
        · exact .inr (by omega), n3, fun h => of_decide_eq_true h, has, hal⟩ (by dsimp only; omega)
  · obtain rfl : i = r.length := by simp at h; omega
    rw [List.drop_length, putP] at hT
    rw [← hT]
    (repeat (first | (apply WL.pure; rfl; rfl; rfl) | (apply WL.nil) | (apply EX.thenN) | (apply CW.seq) | (apply CW.region) | (apply CW.exit) | (apply EX.thenX) | (apply EX.inX) | (apply CW.ret)))
    exact EX.ret1 rfl rfl ⟨cl, hM, hk1, hl1, hC1, hn1, hd1⟩
end Go.Proofs.Ytllpfgcngokhnaa
/-
  Package auto: made: walked.
-/
set_option linter.unusedVariables false
set_option linter.unusedSimpArgs false
namespace Go.Proofs.Ytllpfgcngokhnaa
open Go.RowKit

theorem putP_allQ {Q : Pr2 → Prop} {r ps : List Pr2} {ok : Bool} {l : List Int} (hr : ∀ p ∈ r, Q p) (hp : ∀ p ∈ ps, Q p) : ∀ p ∈ (putP r ps ok l).1, Q p := putP_all r ps ok l hr hp
theorem putP_len : ∀ (r ps : List Pr2) (ok : Bool) (l : List Int), (putP r ps ok l).2.2.length ≤ l.length + r.length
  | [], ps, ok, l => by rw [putP]; simp
  | p :: r, ps, ok, l => by
    rw [putP]
    split
    · refine Nat.le_trans (putP_len r _ _ _) ?_
      have : (addP ps l p).2.length ≤ l.length + 1 := by
        unfold addP
        dsimp only
        split
        · omega
        · simp
      simp only [List.length_cons]; omega
    · refine Nat.le_trans (putP_len r _ _ _) ?_
      simp only [List.length_cons]; omega
/-- the maker while all pairs are made -/
structure MadeI (w0 w : World) (N B B2 sb mb kb tb : Nat) (cl sv nv : Value) (st : List Int) (vs : List Raw) (ps : List Pr2) (ok : Bool) (nx : List (List Int)) : Prop where
  mak : Mk w B ⟨sb, mb, cl, sv, nv, .slice none 0 0, .slice none 0 0, .slice none 0 0⟩ ps
  hk : Blk w kb 4 [.bool ok]
  ht : Blk w tb 107 [.pointer (some ⟨sb, 0, none⟩)]
  hn : Own w B2 22 Non nv vs
  inn : InnR w (fun b => b = sb ∨ b = mb ∨ cl.ownBlock = some b ∨ b = kb ∨ nv.ownBlock = some b ∨ b < N) vs nx
  hs : ∃ so sc, sv = .slice so st.length sc ∧ Sl w (Fz w (fun b => b = sb ∨ b = mb ∨ cl.ownBlock = some b ∨ b = kb ∨ nv.ownBlock = some b ∨ b < N)) so sc st
  chg : Chg (fun b => b = sb ∨ b = mb) w0 w
  cln : ∀ g, cl.ownBlock = some g → w0.heap.size ≤ g ∧ g ≠ kb ∧ g ≠ tb
  clv : ∀ g, cl.ownBlock = some g → nv.ownBlock ≠ some g
set_option maxHeartbeats 4000000 in
theorem made_ok (w0 : World) {N B sb mb : Nat} {start : List Pr2} {F : Nat → Prop} {po : Option Addr} {pc : Nat} {fv : Value} {next : Pr2 → List Pr2} {Q : Pr2 → Prop}
    (h : Mk w0 B ⟨sb, mb, .slice none 0 0, .slice none 0 0, .slice none 0 0, .slice none 0 0, .slice none 0 0, .slice none 0 0⟩ []) (hB : B ≤ w0.heap.size) (hNB : N ≤ B) (hs : Sl w0 F po pc start) (hF : ∀ b, F b → b < w0.heap.size ∧ b ≠ sb ∧ b ≠ mb)
    (hsm : ∀ p ∈ start, Q p) (hlen : start.length ≤ 1099511627776) (hQ : ∀ p, Q p → SmP p) (hnext : ∀ p, Q p → (∀ x ∈ next p, Q x) ∧ (next p).length ≤ 1099511627776)
    (hfn : ∀ w p, Chg (fun b => b = sb ∨ b = mb) w0 w → Q p → FnV Try.prog fv [prV p] w fun v w' => Own w' w.heap.size 105 Non v (next p) ∧ Ext w w') :
    Rt Try.prog 59 [.pointer (some ⟨sb, 0, none⟩), .slice po start.length pc, fv].toArray w0 fun v w' => ∃ lo lc so sc no nc, v = .bool (madeE next start).2.1 ∧
      Blk w' sb 110 [.map (some mb), .slice lo (madeE next start).1.length lc, .slice so (madeS start).length sc, .slice no (madeE next start).2.2.length nc, .slice none 0 0, .slice none 0 0, .slice none 0 0] ∧
      Sl w' (Fz w' (fun b => b = sb ∨ b < N)) lo lc (madeE next start).1 ∧ Sl w' (Fz w' (fun b => b = sb ∨ b < N)) so sc (madeS start) ∧ Sl w' (Fz w' (fun b => b = sb ∨ b < N)) no nc (madeE next start).2.2 ∧ Chg (fun b => b = sb ∨ b = mb) w0 w' := by
  have hsb0 := h.blk.lt
  have hmb0 := h.num.lt
  dsimp only at hsb0 hmb0
  have hne := h.ne
  dsimp only at hne
  refine Rt.enter3 Try.func59 Try.ntmps59 rfl rfl ?_
  (repeat (first | (apply CW.seq) | (apply CW.region)))
  refine WL.boxB rfl rfl rfl fun w1 htb e1 => ?_
  have z1 := htb.lt
  (repeat (first | (apply WL.pure; rfl; rfl; rfl) | (apply WL.nil) | (apply EX.thenN) | (apply CW.seq) | (apply CW.region)))
  refine WL.alloc rfl rfl (fun w2 hkb e2 => ?_)
  skip
  refine WL.st rfl rfl rfl hkb rfl rfl (ones_of rfl) (fun w3 hkb hg3 => ?_)
  have e3 : Ext w1 w3 := Below.grown e2 hg3 e2.size (fun g hg => by cases hg; exact Nat.le_refl _)
  have htb := htb.ext e3
  have hE := e1.trans e3
  have z2 := hkb.lt
  have y1 := e1.size
  have y3 := e3.size
  clear e2 hg3
  have hM3 := h.ext hE
  generalize hkbn : w1.heap.size = kb at *
  generalize htbn : w0.heap.size = tb at *
  (repeat (first | (apply WL.pure; rfl; rfl; rfl) | (apply WL.nil) | (apply EX.thenN) | (apply CW.seq) | (apply CW.region) | (apply WL.makeFunc; rfl; rfl; rfl; rfl)))
  have hD : Ext w3 (drew w3) := Ext.drew w3
  have htbd := htb.ext hD
  have hK1 : ∀ u, (fun z : World => z.heap[tb]? = (drew w3).heap[tb]?) u → u.heap[tb]? = (drew w3).heap[tb]? := fun _ h => h
  refine CW.drawE (fun z : World => z.heap[tb]? = (drew w3).heap[tb]?) [(0, true), (1, true), (2, true), (3, false), (4, false), (5, false), (6, false)] 7 mixed (by kernel_rfl) rfl ?_
  (repeat (first | (apply HL.pure; rfl; rfl; rfl; rfl) | (refine HL.ldK (by assumption) rfl rfl rfl rfl (by assumption) rfl ?_)))
  have hput := put_ok (drew w3) (hM3.ext hD) (hkb.ext hD) htbd (hs.mono (fun b hb => (hE.trans hD).block b (by have := (hF b hb).1; omega)) (fun _ h => h)) (fun b hb => ⟨by have := (hF b hb).1; have := hD.size; omega, (hF b hb).2.1, (hF b hb).2.2, (fun e => by cases e), (by have := (hF b hb).1; omega)⟩)
    ⟨by dsimp only; omega, by dsimp only; omega, fun e => by cases e⟩ ⟨by dsimp only; omega, by dsimp only; omega, (fun e => by cases e), by omega⟩ (by have := hD.size; omega) (fun p hp => hQ p (hsm p hp)) (fun _ => by simp) (by simp) hlen
  dsimp only at hput
  refine HL.mut rfl (WL.callV (fv := []) rfl rfl rfl rfl hput ?_)
  rintro sv w4 ⟨cl, hM4, hk4, ho4, hC4, n1, d1⟩
  clear hput
  obtain ⟨so, sc, rfl⟩ := ho4.val
  have z4 := hC4.size
  have zd := hD.size
  have hlo4 := fun g hg => ho4.lt g hg
  have hS4 : w4.heap[tb]? = (drew w3).heap[tb]? := hC4.block tb (by omega) (fun h => by
    rcases h with h | h | h | h
    · omega
    · omega
    · cases h
    · omega)
  refine WL.nil (EX.mut hS4 ?_)
  refine HL.mut rfl (WL.nck rfl rfl rfl (WL.nil (EX.mut hS4 ?_)))
  refine HL.mut rfl (WL.fa rfl rfl rfl (WL.nil (EX.mut hS4 ?_)))
  refine HL.mut rfl (WL.fa rfl rfl rfl (WL.nil (EX.mut hS4 (HL.nil ?_))))
  have hblk4 := hM4.blk
  dsimp only at hblk4
  refine EX.tail rfl (WL.st rfl rfl rfl hblk4 rfl rfl (ones_of rfl) (fun w5 hblk5 hg5 => WL.nil (EX.tailE ?_)))
  have z5 := hg5.size
  have hlps := hM4.lo.lt
  dsimp only at hlps
  have hcn : ∀ g, cl.ownBlock = some g → w3.heap.size ≤ g := fun g hg => by
    rcases n1 g hg with h | h
    · cases h
    · omega
  have hC35 : Chg (fun b => b = sb ∨ b = mb) w0 w5 := ((Chg.of_ext (fun b => b = sb ∨ b = mb) (hE.trans hD)).then hC4 (fun b h => by
    rcases h with h | h | h | h
    · exact .inl (.inl h)
    · exact .inl (.inr h)
    · cases h
    · exact .inr (by omega))).grown hg5 (fun g hg => by cases hg; exact .inl rfl)
  have hkb5 : kb < w5.heap.size ∧ tb < w5.heap.size := by omega
  have hI : MadeI w0 w5 N B w5.heap.size sb mb kb tb cl (.slice so (madeS start).length sc) (.slice none 0 0) (madeS start) [] (putP start [] true []).1 (putP start [] true []).2.1 [] := by
    refine ⟨⟨hblk5, hM4.num.kept hg5 (fun e => hne (Option.some.inj e).symm), hM4.lo.keptN hg5 (fun g hg e => (hM4.nl g hg).1 (Option.some.inj e)), h.ge, hne, hM4.nl, hM4.nd, hM4.sm⟩, hk4.kept hg5 (fun e => by have := Option.some.inj e; omega),
      (hS4.trans htbd |> fun h : Blk w4 tb _ _ => h.kept hg5 (fun e => by have := Option.some.inj e; omega)), Own.nil, InnR.nil, ⟨so, sc, rfl, ?_⟩, hC35, fun g hg => ⟨by have := hcn g hg; omega, by have := hcn g hg; omega, by have := hcn g hg; omega⟩, fun g _ e => by cases e⟩
    have ho5 := ho4.keptN hg5 (fun g hg e => by have := (hlo4 g hg).1; have := Option.some.inj e; omega)
    obtain ⟨a, b, e, hsl⟩ := ho5.slF (F' := Fz w5 (fun b => b = sb ∨ b = mb ∨ cl.ownBlock = some b ∨ b = kb ∨ Value.ownBlock (.slice none 0 0) = some b ∨ b < N)) (fun _ h => h.elim) (fun g hg => ⟨(ho5.lt g hg).2.1, fun h => by
      have := (hlo4 g hg).1
      rcases h with h | h | h | h | h | h
      · omega
      · omega
      · exact d1 g hg h
      · omega
      · cases h
      · omega⟩)
    obtain ⟨rfl, _, rfl⟩ := Value.slice.inj e
    exact hsl
  have hps0 := putP_sizes start [] true [] (fun _ => by simp) (by simp)
  have hal0 : ∀ p ∈ (putP start [] true []).1, Q p := putP_allQ hsm (fun p hp => by cases hp)
  have hmade : madeGo next 2049 0 (putP start [] true []).1 (putP start [] true []).2.1 [] = madeE next start := rfl
  rw [← hmade]
  generalize (putP start [] true []).1 = ps0 at *
  generalize (putP start [] true []).2.1 = ok0 at *
  clear hC4 hM4 hk4 ho4 d1 n1 hlo4 hlps hS4 hblk4 hblk5 hg5 hC35 hM3 htbd hK1 hcn hmade htb hkb hD hE e1 e3 hs hF hsm
  have hz0 : w0.heap.size ≤ w5.heap.size := hI.chg.size
  apply EX.thenN
  (repeat (first | (apply WL.pure; rfl; rfl; rfl) | (apply WL.nil) | (apply EX.thenN) | (apply CW.seq) | (apply CW.region) | (apply CW.block)))
  refine CW.loop (S := Nat × Value × Value × List Raw × List Pr2 × Bool × List (List Int)) (fun s => [(2, fv), (3, .pointer (some ⟨tb, 0, none⟩)), (7, .pointer (some ⟨kb, 0, none⟩)), (8, .func (.func 113) #[] #[.pointer (some ⟨kb, 0, none⟩), .pointer (some ⟨tb, 0, none⟩)]), (9, .int .i64 s.1)])
    (fun s w => s.1 ≤ 2049 ∧ madeGo next (2049 - s.1) s.1 s.2.2.2.2.1 s.2.2.2.2.2.1 s.2.2.2.2.2.2 = madeGo next 2049 0 ps0 ok0 [] ∧ MadeI w0 w N B w5.heap.size sb mb kb tb s.2.1 (.slice so (madeS start).length sc) s.2.2.1 (madeS start) s.2.2.2.1 s.2.2.2.2.1 s.2.2.2.2.2.1 s.2.2.2.2.2.2 ∧ s.2.2.2.1.length = s.1 ∧
      (∀ p ∈ s.2.2.2.2.1, Q p) ∧ (s.2.2.2.2.2.1 = true → s.2.2.2.2.1.length ≤ 2048) ∧ s.2.2.2.2.1.length ≤ 2049 ∧ w5.heap.size ≤ w.heap.size)
    (fun s => 2049 - s.1) (0, cl, .slice none 0 0, [], ps0, ok0, []) (by repeat (first | exact trivial | refine ⟨rfl, ?_⟩)) ⟨Nat.zero_le _, rfl, hI, rfl, hal0, hps0.2, hps0.1, Nat.le_refl _⟩ ?_
  clear hI hal0 hps0
  rintro ⟨n, cl, nv, vs, ps, ok, nx⟩ w6 ⟨hn, hT, hI, hvl, hal, ho1, ho2, z6⟩
  dsimp only at hn hT hI hvl hal ho1 ho2 z6 ⊢
  have hblk := hI.mak.blk
  dsimp only at hblk
  have hkb := hI.hk
  have htb := hI.ht
  have lkb := hkb.lt
  have ltb := htb.lt
  obtain ⟨lo, lc, rfl⟩ := hI.mak.lo.val
  obtain ⟨no, nc, rfl⟩ := hI.hn.val
  have fin : ∀ (hx : madeGo next (2049 - n) n ps ok nx = (ps, ok, nx)) (w7 : World) (e7 : Ext w6 w7), ∃ lo lc so sc no nc, Value.bool ok = .bool (madeGo next 2049 0 ps0 ok0 []).2.1 ∧
      Blk w7 sb 110 [.map (some mb), .slice lo (madeGo next 2049 0 ps0 ok0 []).1.length lc, .slice so (madeS start).length sc, .slice no (madeGo next 2049 0 ps0 ok0 []).2.2.length nc, .slice none 0 0, .slice none 0 0, .slice none 0 0] ∧
      Sl w7 (Fz w7 (fun b => b = sb ∨ b < N)) lo lc (madeGo next 2049 0 ps0 ok0 []).1 ∧ Sl w7 (Fz w7 (fun b => b = sb ∨ b < N)) so sc (madeS start) ∧ Sl w7 (Fz w7 (fun b => b = sb ∨ b < N)) no nc (madeGo next 2049 0 ps0 ok0 []).2.2 ∧ Chg (fun b => b = sb ∨ b = mb) w0 w7 := by
    intro hx w7 e7
    rw [← hT, hx]
    obtain ⟨so', sc', es, hss⟩ := hI.hs
    obtain ⟨rfl, _, rfl⟩ := Value.slice.inj es
    have hnl := fun g hg => hI.hn.lt g hg
    have hll := fun g hg => hI.mak.lo.lt g hg
    have hlx := fun g hg => hI.cln g hg
    dsimp only at hll
    obtain ⟨no', nc', en, hns⟩ := hI.inn.sl (F := Fz w6 (fun b => b = sb ∨ b < N)) hI.hn (fun b hb => ⟨hb.1, fun h => hb.2 (h.elim .inl fun h => .inr (.inr (.inr (.inr (.inr h)))))⟩) (fun g hg => ⟨(hnl g hg).2.1, by have := (hnl g hg).1; omega⟩)
    obtain ⟨rfl, hvl2, rfl⟩ := Value.slice.inj en
    obtain ⟨lo', lc', el, hls⟩ := hI.mak.lo.slF (F' := Fz w6 (fun b => b = sb ∨ b < N)) (fun _ h => h.elim) (fun g hg => ⟨(hll g hg).2.1, by have := (hlx g hg).1; omega⟩)
    obtain ⟨rfl, _, rfl⟩ := Value.slice.inj el
    have hb7 := hblk.ext e7
    rw [hvl2] at hb7
    have hC7 : Chg (fun b => b = sb ∨ b < N) w6 w7 := Chg.of_ext _ e7
    exact ⟨lo, lc, so, sc, no, nc, rfl, hb7, hls.fz hC7 (fun _ h => .inl h), (hss.mono (F' := Fz w6 (fun b => b = sb ∨ b < N)) (fun _ _ => rfl) (fun b hb => ⟨hb.1, fun h => hb.2 (h.elim .inl fun h => .inr (.inr (.inr (.inr (.inr h)))))⟩)).fz hC7 (fun _ h => .inl h), hns.fz hC7 (fun _ h => .inl h), hI.chg.trans (Chg.of_ext _ e7)⟩
  cases ok with
  | false =>
    have hx : madeGo next (2049 - n) n ps false nx = (ps, false, nx) := by
      cases 2049 - n with
      | zero => rfl
      | succ f => rw [madeGo, if_neg (by simp)]
    (repeat (first | (apply WL.pure; rfl; rfl; rfl) | (apply WL.nil) | (apply EX.thenN) | (apply CW.seq) | (apply CW.region) | (apply WL.pass; rfl; rfl) | (apply WL.ld; rfl; rfl; rfl; assumption; rfl) | (apply CW.condF; rfl) | (apply CW.exit) | (apply EX.thenX) | (apply EX.inX) | (apply CW.ret)))
    exact EX.ret1 rfl rfl (fin hx w6 (Ext.refl _))
  | true =>
  have hp8 := ho1 rfl
  by_cases hnp : n < ps.length
  case neg =>
    have hx : madeGo next (2049 - n) n ps true nx = (ps, true, nx) := by
      cases 2049 - n with
      | zero => rfl
      | succ f => rw [madeGo, if_neg (by simp; omega)]
    (repeat (first | (apply WL.pure; rfl; rfl; rfl) | (apply WL.nil) | (apply EX.thenN) | (apply CW.seq) | (apply CW.region) | (apply WL.lenS; rfl; rfl; rfl) | (apply WL.fa; rfl; rfl; rfl) | (apply WL.nck; rfl; rfl; rfl) | (apply WL.ld; rfl; rfl; rfl; assumption; rfl)))
    rw [decide_eq_false (show ¬ ((n : Int) < (ps.length : Int)) by omega)]
    (repeat (first | (apply WL.pure; rfl; rfl; rfl) | (apply WL.nil) | (apply EX.thenN) | (apply CW.seq) | (apply CW.region) | (apply WL.ld; rfl; rfl; rfl; assumption; rfl) | (apply CW.condF; rfl) | (apply CW.exit) | (apply EX.thenX) | (apply EX.inX) | (apply CW.ret)))
    exact EX.ret1 rfl rfl (fin hx w6 (Ext.refl _))
  clear fin
  (repeat (first | (apply WL.pure; rfl; rfl; rfl) | (apply WL.nil) | (apply EX.thenN) | (apply CW.seq) | (apply CW.region) | (apply WL.lenS; rfl; rfl; rfl) | (apply WL.fa; rfl; rfl; rfl) | (apply WL.nck; rfl; rfl; rfl) | (apply WL.ld; rfl; rfl; rfl; assumption; rfl)))
  rw [decide_eq_true (show ((n : Int) < (ps.length : Int)) by omega)]
  (repeat (first | (apply EX.thenN) | (apply CW.seq) | (apply CW.block) | (apply CW.condT; rfl) | (apply CW.skip)))
  obtain ⟨f, hf⟩ : ∃ f, 2049 - n = f + 1 := ⟨2048 - n, by omega⟩
  have hpn : ps.getD n (0, 0) = ps[n] := by rw [List.getD_eq_getElem?_getD, List.getElem?_eq_getElem hnp]; rfl
  rw [hf, madeGo, if_pos ⟨rfl, hnp⟩, hpn] at hT
  have hQp := hal _ (List.getElem_mem hnp)
  obtain ⟨hnQ, hnl⟩ := hnext _ hQp
  have hll := fun g hg => hI.mak.lo.lt g hg
  have hlx := fun g hg => hI.cln g hg
  have hlv := fun g hg => hI.clv g hg
  have hnlt := fun g hg => hI.hn.lt g hg
  dsimp only at hll
  have hD : Ext w6 (drew w6) := Ext.drew w6
  have zd : (drew w6).heap.size = w6.heap.size := rfl
  have htbd := htb.ext hD
  have hblkd := hblk.ext hD
  have lsb := hblk.lt
  obtain ⟨lo', lc', el, hlsl⟩ := (hI.mak.lo.extN hD).sl
  obtain ⟨rfl, _, rfl⟩ := Value.slice.inj el
  have hK0 : ∀ u, (fun z : World => z.heap[tb]? = (drew w6).heap[tb]? ∧ ∃ lv, Blk z sb 110 [.map (some mb), lv, .slice so (madeS start).length sc, .slice no vs.length nc, .slice none 0 0, .slice none 0 0, .slice none 0 0]) u → u.heap[tb]? = (drew w6).heap[tb]? := fun _ h => h.1
  have hK1 : ∀ u, (fun z : World => z.heap[tb]? = (drew w6).heap[tb]? ∧ z.heap[sb]? = (drew w6).heap[sb]? ∧ ∀ b, (Non b ∨ Value.ownBlock (.slice lo ps.length lc) = some b) → z.heap[b]? = (drew w6).heap[b]?) u → u.heap[tb]? = (drew w6).heap[tb]? := fun _ h => h.1
  have hK2 : ∀ u, (fun z : World => z.heap[tb]? = (drew w6).heap[tb]? ∧ z.heap[sb]? = (drew w6).heap[sb]? ∧ ∀ b, (Non b ∨ Value.ownBlock (.slice lo ps.length lc) = some b) → z.heap[b]? = (drew w6).heap[b]?) u → u.heap[sb]? = (drew w6).heap[sb]? := fun _ h => h.2.1
  refine CW.drawP 16 22 (fun z : World => z.heap[tb]? = (drew w6).heap[tb]? ∧ ∃ lv, Blk z sb 110 [.map (some mb), lv, .slice so (madeS start).length sc, .slice no vs.length nc, .slice none 0 0, .slice none 0 0, .slice none 0 0])
    (fun z : World => z.heap[tb]? = (drew w6).heap[tb]? ∧ z.heap[sb]? = (drew w6).heap[sb]? ∧ ∀ b, (Non b ∨ Value.ownBlock (.slice lo ps.length lc) = some b) → z.heap[b]? = (drew w6).heap[b]?)
    (toP 1 [(0, true), (1, true), (2, true), (3, true), (4, true), (5, true), (6, true), (7, true), (8, true), (9, true), (10, true), (12, true)] ++ (toP 2 [(11, true), (13, true), (14, true)] ++ [(15, 0), (16, 0), (17, 0), (18, 0), (19, 1), (20, 1), (21, 1), (22, 3)])) mixed (by kernel_rfl) ⟨rfl, _, hblkd⟩ ⟨rfl, rfl, fun _ _ => rfl⟩ ?_
  refine HP.weak [(0, true), (1, true), (2, true), (3, true), (4, true), (5, true), (6, true), (7, true), (8, true), (9, true), (10, true), (12, true)] rfl ?_
  (repeat (first | (refine HL.fa rfl rfl rfl rfl ?_) | (apply HL.nck; rfl; rfl; rfl; rfl) | (refine HL.ldK (by assumption) rfl rfl rfl rfl (by assumption) rfl ?_)))
  refine HL.ldC (v := .slice no vs.length nc) (fun z hz => by obtain ⟨_, lv, hb⟩ := hz; exact ⟨_, _, hb, rfl⟩) rfl rfl rfl rfl ?_
  (repeat (first | (apply HL.pure; rfl; rfl; rfl; rfl) | (refine HL.fa rfl rfl rfl rfl ?_) | (apply HL.nck; rfl; rfl; rfl; rfl) | (refine HL.ldK (by assumption) rfl rfl rfl rfl (by assumption) rfl ?_) | (apply HL.nil)))
  refine EX.rest ?_
  refine HP.early [(11, true), (13, true), (14, true)] rfl ?_
  (repeat (refine HL.ldK (by assumption) rfl rfl rfl rfl (by assumption) rfl ?_))
  refine HL.elemK (k := n) (fun z hz => hz.2.2) rfl rfl rfl rfl rfl rfl rfl hlsl hnp (fun _ => rfl) (fun u q hu => ?_)
  rw [rd_pr2 hu]
  clear hu
  generalize ps[n] = p at *
  (repeat (apply HL.nil))
  refine EX.rest ?_
  -- the next pairs
  have hC6 : Chg (fun b => b = sb ∨ b = mb) w0 (drew w6) := hI.chg.trans (Chg.of_ext _ hD)
  refine HP.mut rfl (WL.callF rfl rfl rfl rfl (hfn (drew w6) p hC6 hQp) ?_)
  rintro rv w7 ⟨hor, e7⟩
  obtain ⟨ro, rc, rfl⟩ := hor.val
  have z7 := e7.size
  have hblk7 := hblkd.ext e7
  have htb7 := htbd.ext e7
  refine WL.nil (EX.mutP (ph := false) ⟨e7.block tb (by omega), _, hblk7⟩ (fun _ => ⟨e7.block tb (by omega), e7.block sb (by omega), fun b hb => e7.block b (hb.elim (fun h => h.elim) (fun h => by have := (hll b h).2.1; omega))⟩) ?_)
  -- their numbers
  have hM7 := (hI.mak.ext hD).ext e7
  have hrs : Sl w7 (fun b => Non b ∨ Value.ownBlock (.slice ro (next p).length rc) = some b) ro rc (next p) := by
    obtain ⟨a, b, e, hsl⟩ := hor.sl
    obtain ⟨rfl, _, rfl⟩ := Value.slice.inj e
    exact hsl
  have hlr := fun g hg => hor.lt g hg
  have lmb := hI.mak.num.lt
  dsimp only at lmb
  have hput := put_ok w7 (ok := true) hM7 ((hkb.ext hD).ext e7) htb7 hrs (fun b hb => hb.elim (fun h => h.elim) (fun hb => ⟨(hlr b hb).2.1, by have := (hlr b hb).1; dsimp only; omega, by have := (hlr b hb).1; dsimp only; omega, fun e => by have := (hlr b hb).1; have := (hll b e).2.1; omega, by have := (hlr b hb).1; omega⟩))
    ⟨by dsimp only; omega, by dsimp only; omega, fun e => (hlx kb e).2.1 rfl⟩ ⟨by dsimp only; omega, by dsimp only; omega, fun e => (hlx tb e).2.2 rfl, by omega⟩ (by omega) (fun x hx => hQ x (hnQ x hx)) (fun _ => hp8) ho2 hnl
  dsimp only at hput
  refine HP.mut rfl (WL.callV (fv := []) rfl rfl rfl rfl hput ?_)
  rintro uv w8 ⟨cl', hM8, hk8, ho8, hC8, n1, d1⟩
  clear hput
  obtain ⟨uo, uc, rfl⟩ := ho8.val
  have z8 := hC8.size
  have hlu := fun g hg => ho8.lt g hg
  have hS8 : w8.heap[tb]? = w7.heap[tb]? := hC8.block tb (by omega) (fun h => by
    rcases h with h | h | h | h
    · omega
    · omega
    · exact (hlx tb h).2.2 rfl
    · omega)
  have hblk8 := hM8.blk
  dsimp only at hblk8
  have hb87 : w8.heap[tb]? = (drew w6).heap[tb]? := hS8.trans (e7.block tb (by omega))
  refine WL.nil (EX.mutP (ph := true) ⟨hb87, _, hblk8⟩ (fun h => by cases h) ?_)
  have hn8 : Own w8 w5.heap.size 22 Non (.slice no vs.length nc) vs := ((hI.hn.extN hD).extN e7).keep (fun g hg => hC8.block g (by have := (hnlt g hg).2.1; omega) (fun h => by
    have hx := hnlt g hg
    rcases h with h | h | h | h
    · omega
    · omega
    · exact hlv g h hg
    · omega)) (fun _ h => h.elim)
  have hlc := fun g hg => hM8.lo.lt g hg
  dsimp only at hlc
  refine HP.app1 (α := Raw) (F := Non) (bytes := 24) (yv := (⟨.slice uo (putP (next p) ps true []).2.2.length uc⟩ : Raw)) rfl rfl rfl rfl (fun _ => rfl) rfl rfl (fun _ => rfl) hn8 (Rd.mkRaw _ _ _ rfl) (by omega) (fun _ h => h.elim) (by decide) (by unfold maxLen; omega) (by omega)
    (fun z hz => ⟨(hz.block tb (by omega) (fun e => by have := hnlt tb e.symm; omega)).trans hb87, _, hblk8.kept hz (fun e => by have := hnlt sb e.symm; omega)⟩) (fun nv' w9 q9 ho9 hg9 hnb9 => ?_)
  obtain ⟨no', nc', rfl⟩ := ho9.val
  have hblk9 := hblk8.kept hg9 (fun e => by have := hnlt sb e.symm; omega)
  have z9 := hg9.size
  have hSE9 : (fun z : World => z.heap[tb]? = (drew w6).heap[tb]? ∧ ∃ lv, Blk z sb 110 [.map (some mb), lv, .slice so (madeS start).length sc, .slice no vs.length nc, .slice none 0 0, .slice none 0 0, .slice none 0 0]) w9 := ⟨(hg9.block tb (by omega) (fun e => by have := hnlt tb e.symm; omega)).trans hb87, _, hblk9⟩
  refine HP.weak (r := [(22, 3)]) [(19, true), (20, true), (21, true)] rfl ?_
  (repeat (first | (refine HL.fa rfl rfl rfl rfl ?_) | (apply HL.nck; rfl; rfl; rfl; rfl) | (apply HL.nil)))
  refine EX.rest ?_
  refine HP.last rfl (WL.st rfl rfl rfl hblk9 rfl rfl (ones_of rfl) (fun w10 hblk10 hg10 => WL.nil (EX.tailE ?_)))
  have hcl8 : ∀ g, cl'.ownBlock = some g → (Value.ownBlock (.slice lo ps.length lc) = some g ∨ w7.heap.size ≤ g) ∧ g < w8.heap.size := fun g hg => ⟨n1 g hg, (hlc g hg).2.1⟩
  have hclx : ∀ g, cl'.ownBlock = some g → Value.ownBlock (.slice no vs.length nc) ≠ some g := fun g hg e => by
    rcases (hcl8 g hg).1 with h | h
    · exact hlv g h e
    · have := (hnlt g e).2.1; omega
  -- what is kept
  have hC68 : Chg (fun b => b = sb ∨ b = mb ∨ Value.ownBlock (.slice lo ps.length lc) = some b ∨ b = kb ∨ Value.ownBlock (.slice no vs.length nc) = some b) w6 w8 := (Chg.of_ext _ (hD.trans e7)).trans (hC8.wk (fun b h => by
    rcases h with h | h | h | h
    · exact .inl h
    · exact .inr (.inl h)
    · exact .inr (.inr (.inl h))
    · exact .inr (.inr (.inr (.inl h)))))
  have hM68 : ∀ b, (b = sb ∨ b = mb ∨ cl'.ownBlock = some b ∨ b = kb ∨ Value.ownBlock (.slice no vs.length nc) = some b ∨ b < N) → (b = sb ∨ b = mb ∨ Value.ownBlock (.slice lo ps.length lc) = some b ∨ b = kb ∨ Value.ownBlock (.slice no vs.length nc) = some b ∨ b < N) ∨ w6.heap.size ≤ b := fun b h => by
    rcases h with h | h | h | h | h | h
    · exact .inl (.inl h)
    · exact .inl (.inr (.inl h))
    · rcases (hcl8 b h).1 with h | h
      · exact .inl (.inr (.inr (.inl h)))
      · exact .inr (by omega)
    · exact .inl (.inr (.inr (.inr (.inl h))))
    · exact .inl (.inr (.inr (.inr (.inr (.inl h)))))
    · exact .inl (.inr (.inr (.inr (.inr (.inr h)))))
  have hrow : Rd w8 (Fz w8 (fun b => b = sb ∨ b = mb ∨ cl'.ownBlock = some b ∨ b = kb ∨ Value.ownBlock (.slice no vs.length nc) = some b ∨ b < N)) (.slice uo (putP (next p) ps true []).2.2.length uc) (putP (next p) ps true []).2.2 :=
    ho8.rd.mono (fun _ _ => rfl) (fun g hg => hg.elim (fun h => h.elim) (fun hg => ⟨(hlu g hg).2.1, fun h => by
      have h1 := (hlu g hg).1
      rcases h with h | h | h | h | h | h
      · omega
      · omega
      · exact d1 g hg h
      · omega
      · have := (hnlt g h).2.1; omega
      · omega⟩))
  have hW68 : Chg (fun b => b = sb ∨ b = mb ∨ Value.ownBlock (.slice lo ps.length lc) = some b ∨ b = kb ∨ Value.ownBlock (.slice no vs.length nc) = some b ∨ b < N) w6 w8 := hC68.wk (fun b h => by
    rcases h with h | h | h | h | h
    · exact .inl h
    · exact .inr (.inl h)
    · exact .inr (.inr (.inl h))
    · exact .inr (.inr (.inr (.inl h)))
    · exact .inr (.inr (.inr (.inr (.inl h)))))
  have hin8 := (hI.inn.to hW68 hM68).push hrow
  have hC810 : Chg (fun b => b = sb ∨ b = mb ∨ cl'.ownBlock = some b ∨ b = kb ∨ Value.ownBlock (.slice no vs.length nc) = some b) w8 w10 := ((Chg.of_grown hg9).wk (fun b h => .inr (.inr (.inr (.inr h))))).grown hg10 (fun g hg => by cases hg; exact .inl rfl)
  have hM810 : ∀ b, (b = sb ∨ b = mb ∨ cl'.ownBlock = some b ∨ b = kb ∨ Value.ownBlock (.slice no' (vs ++ [(⟨.slice uo (putP (next p) ps true []).2.2.length uc⟩ : Raw)]).length nc') = some b ∨ b < N) → (b = sb ∨ b = mb ∨ cl'.ownBlock = some b ∨ b = kb ∨ Value.ownBlock (.slice no vs.length nc) = some b ∨ b < N) ∨ w8.heap.size ≤ b := fun b h => by
    rcases h with h | h | h | h | h | h
    · exact .inl (.inl h)
    · exact .inl (.inr (.inl h))
    · exact .inl (.inr (.inr (.inl h)))
    · exact .inl (.inr (.inr (.inr (.inl h))))
    · rcases hnb9 b h with h | h
      · exact .inl (.inr (.inr (.inr (.inr (.inl h)))))
      · exact .inr h
    · exact .inl (.inr (.inr (.inr (.inr (.inr h)))))
  have hW810 : Chg (fun b => b = sb ∨ b = mb ∨ cl'.ownBlock = some b ∨ b = kb ∨ Value.ownBlock (.slice no vs.length nc) = some b ∨ b < N) w8 w10 := hC810.wk (fun b h => by
    rcases h with h | h | h | h | h
    · exact .inl h
    · exact .inr (.inl h)
    · exact .inr (.inr (.inl h))
    · exact .inr (.inr (.inr (.inl h)))
    · exact .inr (.inr (.inr (.inr (.inl h)))))
  obtain ⟨so', sc', es, hss⟩ := hI.hs
  obtain ⟨rfl, _, rfl⟩ := Value.slice.inj es
  have hI10 : MadeI w0 w10 N B w5.heap.size sb mb kb tb cl' (.slice so (madeS start).length sc) (.slice no' (vs ++ [(⟨.slice uo (putP (next p) ps true []).2.2.length uc⟩ : Raw)]).length nc') (madeS start) (vs ++ [(⟨.slice uo (putP (next p) ps true []).2.2.length uc⟩ : Raw)]) (putP (next p) ps true []).1 (putP (next p) ps true []).2.1 (nx ++ [(putP (next p) ps true []).2.2]) := by
    refine ⟨⟨hblk10, (hM8.num.kept hg9 (fun e => by have := hnlt mb e.symm; omega)).kept hg10 (fun e => hne (Option.some.inj e).symm), (hM8.lo.keptN hg9 (fun g hg e => hclx g hg e.symm)).keptN hg10 (fun g hg e => (hM8.nl g hg).1 (Option.some.inj e)), h.ge, hne, hM8.nl, hM8.nd, hM8.sm⟩,
      (hk8.kept hg9 (fun e => by have := hnlt kb e.symm; omega)).kept hg10 (fun e => by have := Option.some.inj e; omega), ?_, ho9.keptN hg10 (fun g hg e => by
        have := Option.some.inj e
        rcases hnb9 g hg with h | h
        · have := (hnlt g h).1; omega
        · omega), hin8.to hW810 hM810, ⟨so, sc, rfl, (hss.fz hW68 hM68).fz hW810 hM810⟩, ?_, fun g hg => ?_, fun g hg e => ?_⟩
    · have hb8 : Blk w8 tb 107 [.pointer (some ⟨sb, 0, none⟩)] := hS8.trans htb7
      exact (hb8.kept hg9 (fun e => by have := hnlt tb e.symm; omega)).kept hg10 (fun e => by have := Option.some.inj e; omega)
    · refine (hI.chg.then hC68 (fun b h => ?_)).then hC810 (fun b h => ?_)
      · rcases h with h | h | h | h | h
        · exact .inl (.inl h)
        · exact .inl (.inr h)
        · exact .inr (hlx b h).1
        · exact .inr (by omega)
        · exact .inr (by have := (hnlt b h).1; omega)
      · rcases h with h | h | h | h | h
        · exact .inl (.inl h)
        · exact .inl (.inr h)
        · rcases (hcl8 b h).1 with h | h
          · exact .inr (hlx b h).1
          · exact .inr (by omega)
        · exact .inr (by omega)
        · exact .inr (by have := (hnlt b h).1; omega)
    · rcases (hcl8 g hg).1 with h | h
      · exact hlx g h
      · exact ⟨by omega, by omega, by omega⟩
    · rcases hnb9 g e with h | h
      · exact hclx g hg h
      · have := (hcl8 g hg).2; omega
  have z10 : w9.heap.size ≤ w10.heap.size := hg10.size
  have hsz := putP_sizes (next p) ps true [] (fun _ => hp8) ho2
  have hal' : ∀ x ∈ (putP (next p) ps true []).1, Q x := putP_allQ hnQ hal
  clear hW68 hW810 hM8 hk8 ho8 hC8 hrow hin8 hM810 hM68 hC68 hC810 hcl8 hclx hlu hlc hg9 hg10 hblk10 hblk9 hn8 ho9 hSE9
  (repeat (first | (apply WL.add; rfl; rfl; rfl; rfl; omega; omega) | (apply WL.pure; rfl; rfl; rfl) | (apply WL.nil) | (apply EX.thenN) | (apply CW.region) | (apply EX.inN)))
  refine EX.back (n + 1, cl', _, vs ++ [_], _, _, nx ++ [_]) (by repeat (first | exact trivial | refine ⟨rfl, ?_⟩)) ⟨by dsimp only; omega, ?_, hI10, by simp [hvl], hal', hsz.2, hsz.1, ?_⟩ (by dsimp only; omega)
  · dsimp only
    rw [show 2049 - (n + 1) = f by omega]; exact hT
  · show w5.heap.size ≤ w10.heap.size
    omega
end Go.Proofs.Ytllpfgcngokhnaa
