import Derived.Test.YtllpfgcngokhnaaRows
import Derived.OpenShut
import Derived.JoinedCond
import Derived.Test.YtllpfgcngokhnaaPtEmptyShows16
/-
  One fair set in place of many (Choueka): plain lists, no program in sight.
-/
set_option linter.unusedVariables false
set_option linter.unusedSimpArgs false
namespace Go.Proofs.Ytllpfgcngokhnaa

/-- which set is waited for next -/
def oneK (fr : List (List Int)) (p : Pr2) : Int := if 0 < fr.length ∧ p.1 ∈ fr.getD p.2.toNat [] then (p.2 + 1) % fr.length else p.2
def oneNext (A : LAuto2) (p : Pr2) : List Pr2 := (A.2.1.getD p.1.toNat []).map fun x => (x, oneK A.2.2.2.2 p)
def oneStart (A : LAuto2) : List Pr2 := A.1.map fun x => (x, 0)
def onePs (A : LAuto2) : List Pr2 := (madeE (oneNext A) (oneStart A)).1
def oneFair (fr : List (List Int)) (ps : List Pr2) : List Int := ((List.range ps.length).filter fun i => decide ((ps.getD i (0, 0)).2 = 0) && (decide (fr.length = 0) || decide ((ps.getD i (0, 0)).1 ∈ fr.getD 0 []))).map fun i : Nat => (i : Int)
def oneL (A : LAuto2) : LAuto2 :=
  (madeS (oneStart A), (madeE (oneNext A) (oneStart A)).2.2, (onePs A).map (fun p => A.2.2.1.getD p.1.toNat 0), (onePs A).map (fun p => A.2.2.2.1.getD p.1.toNat 0), [oneFair A.2.2.2.2 (onePs A)])
theorem oneFair_mem {fr : List (List Int)} {ps : List Pr2} {i : Nat} : (i : Int) ∈ oneFair fr ps ↔ i < ps.length ∧ (ps.getD i (0, 0)).2 = 0 ∧ (fr.length = 0 ∨ (ps.getD i (0, 0)).1 ∈ fr.getD 0 []) := by
  unfold oneFair
  rw [List.mem_map]
  constructor
  · rintro ⟨j, hj, e⟩
    obtain rfl : j = i := by omega
    obtain ⟨h1, h2⟩ := List.mem_filter.1 hj
    simp only [Bool.and_eq_true, Bool.or_eq_true, decide_eq_true_eq] at h2
    exact ⟨List.mem_range.1 h1, h2⟩
  · rintro ⟨h1, h2⟩
    exact ⟨i, List.mem_filter.2 ⟨List.mem_range.2 h1, by simpa using h2⟩, rfl⟩
theorem oneNext_mem {A : LAuto2} {p x : Pr2} : x ∈ oneNext A p ↔ x.1 ∈ A.2.1.getD p.1.toNat [] ∧ x.2 = oneK A.2.2.2.2 p := by
  unfold oneNext
  rw [List.mem_map]
  constructor
  · rintro ⟨y, hy, rfl⟩; exact ⟨hy, rfl⟩
  · rintro ⟨h1, h2⟩; exact ⟨x.1, h1, by rw [← h2]⟩
theorem oneStart_mem {A : LAuto2} {x : Pr2} : x ∈ oneStart A ↔ x.1 ∈ A.1 ∧ x.2 = 0 := by
  unfold oneStart
  rw [List.mem_map]
  constructor
  · rintro ⟨y, hy, rfl⟩; exact ⟨hy, rfl⟩
  · rintro ⟨h1, h2⟩; exact ⟨x.1, h1, by rw [← h2]⟩
/- COUNTING -/
section
variable {fr : List (List Int)} {q : Nat → Pr2}
theorem one_pass (hq : ∀ i, (q (i + 1)).2 = oneK fr (q i)) {t : Nat} (ht : t < fr.length) : ∀ (d a : Nat), 1 ≤ (q a).2 → (q a).2 ≤ t → (q (a + d)).2 = 0 → ∃ j, a ≤ j ∧ (q j).1 ∈ fr.getD t []
  | 0, a, h1, _, h0 => by rw [Nat.add_zero] at h0; omega
  | d + 1, a, h1, h2, h0 => by
    have hn := hq a
    unfold oneK at hn
    by_cases hin : (q a).1 ∈ fr.getD (q a).2.toNat []
    · by_cases e : (q a).2 = t
      · exact ⟨a, Nat.le_refl _, by rw [e, Int.toNat_natCast] at hin; exact hin⟩
      · rw [if_pos ⟨by omega, hin⟩, Int.emod_eq_of_lt (by omega) (by omega)] at hn
        obtain ⟨j, hj, hm⟩ := one_pass hq ht d (a + 1) (by omega) (by omega) (by rw [show a + 1 + d = a + (d + 1) by omega]; exact h0)
        exact ⟨j, by omega, hm⟩
    · rw [if_neg (fun h => hin h.2)] at hn
      obtain ⟨j, hj, hm⟩ := one_pass hq ht d (a + 1) (by omega) (by omega) (by rw [show a + 1 + d = a + (d + 1) by omega]; exact h0)
      exact ⟨j, by omega, hm⟩
/-- where one set is met again and again, all are -/
theorem one_all (hq : ∀ i, (q (i + 1)).2 = oneK fr (q i)) (hf : ∀ i, ∃ j, i ≤ j ∧ (q j).2 = 0 ∧ (fr.length = 0 ∨ (q j).1 ∈ fr.getD 0 [])) {t : Nat} (ht : t < fr.length) (i : Nat) : ∃ j, i ≤ j ∧ (q j).1 ∈ fr.getD t [] := by
  obtain ⟨a, ha, h0, h1⟩ := hf i
  have h1 : (q a).1 ∈ fr.getD 0 [] := h1.resolve_left (by omega)
  by_cases e : t = 0
  · subst e; exact ⟨a, ha, h1⟩
  · have hn := hq a
    unfold oneK at hn
    rw [h0, show (0 : Int).toNat = 0 from rfl, if_pos ⟨by omega, h1⟩, Int.emod_eq_of_lt (by omega) (by omega)] at hn
    obtain ⟨b, hb, hb0, _⟩ := hf (a + 1)
    obtain ⟨j, hj, hm⟩ := one_pass hq ht (b - (a + 1)) (a + 1) (by omega) (by omega) (by rw [show a + 1 + (b - (a + 1)) = b by omega]; exact hb0)
    exact ⟨j, by omega, hm⟩
theorem one_wait (hq : ∀ i, (q (i + 1)).2 = oneK fr (q i)) {c : Int} : ∀ (d i : Nat), (q i).2 = c → (q (i + d)).1 ∈ fr.getD c.toNat [] → ∃ j, i ≤ j ∧ (q j).2 = c ∧ (q j).1 ∈ fr.getD c.toNat []
  | 0, i, h1, h2 => ⟨i, Nat.le_refl _, h1, h2⟩
  | d + 1, i, h1, h2 => by
    by_cases hin : (q i).1 ∈ fr.getD c.toNat []
    · exact ⟨i, Nat.le_refl _, h1, hin⟩
    · have hn := hq i
      unfold oneK at hn
      rw [h1, if_neg (fun h => hin h.2)] at hn
      obtain ⟨j, hj, hm⟩ := one_wait hq d (i + 1) hn (by rw [show i + 1 + d = i + (d + 1) by omega]; exact h2)
      exact ⟨j, by omega, hm⟩
theorem one_round (hq : ∀ i, (q (i + 1)).2 = oneK fr (q i)) (hf : ∀ t, t < fr.length → ∀ i, ∃ j, i ≤ j ∧ (q j).1 ∈ fr.getD t []) (hm : 0 < fr.length) : ∀ (n : Nat) (i : Nat), 0 ≤ (q i).2 → (q i).2 < fr.length → ((q i).2 = 0 ∨ (fr.length : Int) - (q i).2 ≤ n) → ∃ j, i ≤ j ∧ (q j).2 = 0 ∧ (q j).1 ∈ fr.getD 0 [] := by
  have hgo : ∀ i, 0 ≤ (q i).2 → (q i).2 < fr.length → ∃ j, i ≤ j ∧ (q j).2 = (q i).2 ∧ (q j).1 ∈ fr.getD (q i).2.toNat [] := fun i h0 h1 => by
    obtain ⟨b, hb, hin⟩ := hf (q i).2.toNat (by omega) i
    exact one_wait hq (b - i) i rfl (by rw [show i + (b - i) = b by omega]; exact hin)
  intro n
  induction n with
  | zero =>
    intro i h0 h1 h2
    have h2 : (q i).2 = 0 := by omega
    obtain ⟨j, hj, e, hin⟩ := hgo i h0 h1
    rw [h2] at e hin
    exact ⟨j, hj, e, hin⟩
  | succ n ih =>
    intro i h0 h1 h2
    obtain ⟨j, hj, e, hin⟩ := hgo i h0 h1
    by_cases hz : (q i).2 = 0
    · rw [hz] at e hin
      exact ⟨j, hj, e, hin⟩
    · have hn := hq j
      unfold oneK at hn
      rw [e, if_pos ⟨hm, hin⟩] at hn
      by_cases hl : (q i).2 + 1 = fr.length
      · rw [hl, Int.emod_self] at hn
        obtain ⟨k, hk, h⟩ := ih (j + 1) (by omega) (by omega) (.inl hn)
        exact ⟨k, by omega, h⟩
      · rw [Int.emod_eq_of_lt (by omega) (by omega)] at hn
        obtain ⟨k, hk, h⟩ := ih (j + 1) (by omega) (by omega) (.inr (by omega))
        exact ⟨k, by omega, h⟩
end
theorem fit_one {A : LAuto2} {r x : Nat} (h : r < (onePs A).length) : fitB (oneL A).2.2.1 (oneL A).2.2.2.1 r x = fitB A.2.2.1 A.2.2.2.1 ((onePs A).getD r (0, 0)).1.toNat x := by
  unfold oneL fitB
  dsimp only
  rw [getD_map h, getD_map h]
theorem one_law {A : LAuto2} {L : Nat → Nat} (hA : PosA A) (h : (madeE (oneNext A) (oneStart A)).2.1 = true) : AccA (oneL A) L ↔ AccA A L := by
  obtain ⟨hM, hl⟩ := made_law h
  change MadeOk _ _ (onePs A) _ _ at hM
  change _ = (onePs A).length at hl
  have hst : ∀ i, i ∈ (oneL A).1 ↔ ∃ p ∈ oneStart A, i = ((onePs A).idxOf p : Int) := hM.st1
  have hnx : ∀ n, n < (onePs A).length → ∀ i, i ∈ (oneL A).2.1.getD n [] ↔ ∃ p ∈ oneNext A ((onePs A).getD n (0, 0)), i = ((onePs A).idxOf p : Int) := fun n hn => hM.nx1 n (by rw [hl]; exact hn)
  constructor
  · rintro ⟨r, hr⟩
    have hin : ∀ i, r i < (onePs A).length := by
      intro i
      cases i with
      | zero =>
        obtain ⟨p, hp, e⟩ := (hst _).1 hr.first
        have := (idxOf_at (hM.st0 p hp)).1
        omega
      | succ i =>
        have hs := hr.step i
        by_cases hlt : r i < (onePs A).length
        · obtain ⟨p, hp, e⟩ := (hnx _ hlt _).1 hs
          have := (idxOf_at (hM.nx0 _ (by rw [hl]; exact hlt) p hp)).1
          omega
        · exfalso
          have e : (oneL A).2.1.getD (r i) [] = [] := by
            rw [List.getD_eq_getElem?_getD, List.getElem?_eq_none (by show (madeE (oneNext A) (oneStart A)).2.2.length ≤ _; rw [hl]; omega)]; rfl
          rw [e] at hs; cases hs
    have hnx' : ∀ i, (onePs A).getD (r (i + 1)) (0, 0) ∈ oneNext A ((onePs A).getD (r i) (0, 0)) := fun i => by
      obtain ⟨p, hp, e⟩ := (hnx _ (hin i) _).1 (hr.step i)
      have e : r (i + 1) = (onePs A).idxOf p := by omega
      rw [e, (idxOf_at (hM.nx0 _ (by rw [hl]; exact hin i) p hp)).2]; exact hp
    have hst' : (onePs A).getD (r 0) (0, 0) ∈ oneStart A := by
      obtain ⟨p, hp, e⟩ := (hst _).1 hr.first
      have e : r 0 = (onePs A).idxOf p := by omega
      rw [e, (idxOf_at (hM.st0 p hp)).2]; exact hp
    have hq : ∀ i, 0 ≤ ((onePs A).getD (r i) (0, 0)).1 := by
      intro i
      cases i with
      | zero => exact hA.1 _ (oneStart_mem.1 hst').1
      | succ i => exact hA.2 _ _ (oneNext_mem.1 (hnx' i)).1
    have q1 : ∀ i, ((((onePs A).getD (r i) (0, 0)).1.toNat : Nat) : Int) = ((onePs A).getD (r i) (0, 0)).1 := fun i => by have := hq i; omega
    refine ⟨fun i => ((onePs A).getD (r i) (0, 0)).1.toNat, ?_, fun i => by rw [← fit_one (hin i)]; exact hr.fits i, fun i => ?_, fun F hF i => ?_⟩
    · rw [q1]; exact (oneStart_mem.1 hst').1
    · rw [q1]; exact (oneNext_mem.1 (hnx' i)).1
    · obtain ⟨t, ht, rfl⟩ := List.mem_iff_getElem.1 hF
      obtain ⟨j, hj, hm⟩ := one_all (fr := A.2.2.2.2) (q := fun i => (onePs A).getD (r i) (0, 0)) (fun i => (oneNext_mem.1 (hnx' i)).2) (fun i => by
        obtain ⟨j, hj, hm⟩ := hr.fair (oneFair A.2.2.2.2 (onePs A)) (List.mem_singleton.2 rfl) i
        exact ⟨j, hj, (oneFair_mem.1 hm).2⟩) ht i
      refine ⟨j, hj, ?_⟩
      rw [q1]
      rw [List.getD_eq_getElem?_getD, List.getElem?_eq_getElem ht] at hm
      exact hm
  · rintro ⟨ra, ha⟩
    obtain ⟨q, hq0, hq1, hqa⟩ : ∃ q : Nat → Pr2, q 0 = ((ra 0 : Int), 0) ∧ (∀ i, q (i + 1) = ((ra (i + 1) : Int), oneK A.2.2.2.2 (q i))) ∧ ∀ i, (q i).1 = (ra i : Int) := by
      refine ⟨fun i => Nat.rec ((ra 0 : Int), 0) (fun i p => ((ra (i + 1) : Int), oneK A.2.2.2.2 p)) i, rfl, fun i => rfl, fun i => ?_⟩
      cases i <;> rfl
    have hnext : ∀ i, q (i + 1) ∈ oneNext A (q i) := fun i => by
      rw [oneNext_mem, hqa, hqa, hq1, Int.toNat_natCast]
      exact ⟨ha.step i, rfl⟩
    have hps : ∀ i, q i ∈ onePs A := by
      intro i
      induction i with
      | zero => exact hM.st0 _ (oneStart_mem.2 (by rw [hq0]; exact ⟨ha.first, rfl⟩))
      | succ i ih =>
        obtain ⟨h1, h2⟩ := idxOf_at ih
        exact hM.nx0 _ (by rw [hl]; exact h1) _ (by rw [h2]; exact hnext i)
    have hix := fun i => idxOf_at (hps i)
    have hk : ∀ i, (q (i + 1)).2 = oneK A.2.2.2.2 (q i) := fun i => by rw [hq1]
    have hkr : ∀ i, (0 < A.2.2.2.2.length → 0 ≤ (q i).2 ∧ (q i).2 < A.2.2.2.2.length) ∧ (A.2.2.2.2.length = 0 → (q i).2 = 0) := by
      intro i
      induction i with
      | zero => rw [hq0]; exact ⟨fun h => ⟨Int.le_refl _, by dsimp only; omega⟩, fun _ => rfl⟩
      | succ i ih =>
        rw [hk]
        unfold oneK
        refine ⟨fun h => ?_, fun h => ?_⟩
        · split
          · exact ⟨Int.emod_nonneg _ (by omega), Int.emod_lt_of_pos _ (by omega)⟩
          · exact ih.1 h
        · rw [if_neg (fun hh => by omega)]; exact ih.2 h
    refine ⟨fun i => (onePs A).idxOf (q i), (hst _).2 ⟨_, oneStart_mem.2 (by rw [hq0]; exact ⟨ha.first, rfl⟩), rfl⟩, fun i => ?_, fun i => (hnx _ (hix i).1 _).2 ⟨_, by rw [(hix i).2]; exact hnext i, rfl⟩, fun F hF i => ?_⟩
    · rw [fit_one (hix i).1, (hix i).2, hqa, Int.toNat_natCast]; exact ha.fits i
    · obtain rfl := List.mem_singleton.1 hF
      by_cases hm : 0 < A.2.2.2.2.length
      · obtain ⟨j, hj, h0, hin⟩ := one_round hk (fun t ht i => by
          obtain ⟨j, hj, h⟩ := ha.fair (A.2.2.2.2[t]) (List.getElem_mem ht) i
          refine ⟨j, hj, ?_⟩
          rw [hqa, List.getD_eq_getElem?_getD, List.getElem?_eq_getElem ht]; exact h) hm A.2.2.2.2.length i ((hkr i).1 hm).1 ((hkr i).1 hm).2 (by have := ((hkr i).1 hm).1; omega)
        exact ⟨j, hj, oneFair_mem.2 ⟨(hix j).1, by rw [(hix j).2]; exact ⟨h0, .inr hin⟩⟩⟩
      · exact ⟨i, Nat.le_refl _, oneFair_mem.2 ⟨(hix i).1, by rw [(hix i).2]; exact ⟨(hkr i).2 (by omega), .inl (by omega)⟩⟩⟩
end Go.Proofs.Ytllpfgcngokhnaa
/-
  What an automaton of pairs is like: plain lists, no program in sight.
-/
set_option linter.unusedVariables false
set_option linter.unusedSimpArgs false
namespace Go.Proofs.Ytllpfgcngokhnaa

theorem edges_getD : ∀ {g : Graph} {j : Nat}, (g.getD j []).length ≤ edges g
  | [], j => by simp
  | r :: g, 0 => by simp [edges]
  | r :: g, j + 1 => by
    have := edges_getD (g := g) (j := j)
    simp [edges] at this ⊢
    omega
theorem addP_nd {ps : List Pr2} {l : List Int} {p : Pr2} (h : l.Nodup) : (addP ps l p).2.Nodup := by
  unfold addP
  dsimp only
  split
  · exact h
  · rename_i hn
    rw [List.nodup_append]
    refine ⟨h, List.pairwise_singleton _ _, fun a ha b hb e => ?_⟩
    rw [List.mem_singleton] at hb
    exact hn (by rw [← hb, ← e]; exact ha)
theorem putP_nd : ∀ (r ps : List Pr2) (ok : Bool) (l : List Int), l.Nodup → (putP r ps ok l).2.2.Nodup
  | [], ps, ok, l, h => h
  | p :: r, ps, ok, l, h => by
    rw [putP]
    split
    · exact putP_nd r _ _ _ (addP_nd h)
    · exact putP_nd r _ _ _ h
theorem madeGo_nd {next : Pr2 → List Pr2} : ∀ (f n : Nat) (ps : List Pr2) (ok : Bool) (nx : List (List Int)), (∀ r ∈ nx, r.Nodup) → ∀ r ∈ (madeGo next f n ps ok nx).2.2, r.Nodup
  | 0, n, ps, ok, nx, h => h
  | f + 1, n, ps, ok, nx, h => by
    rw [madeGo]
    split
    · refine madeGo_nd f _ _ _ _ (fun r hr => ?_)
      rcases List.mem_append.1 hr with hr | hr
      · exact h r hr
      · rw [List.mem_singleton] at hr
        rw [hr]
        exact putP_nd _ _ _ _ List.nodup_nil
    · exact h
theorem okL_nodup_len {n : Nat} {l : List Int} (hn : l.Nodup) (h : okL n l) : l.length ≤ n := by
  have := nodup_len n (l.map Int.toNat) (by
    rw [List.nodup_iff_pairwise_ne] at hn ⊢
    rw [List.pairwise_map]
    refine List.Pairwise.imp_of_mem (fun {a b} ha hb hab e => hab ?_) hn
    have h1 := h a ha
    have h2 := h b hb
    omega) (fun x hx => by
    obtain ⟨y, hy, rfl⟩ := List.mem_map.1 hx
    have := h y hy
    omega)
  simpa using this
structure MadeIn (N : Nat) (st : List Int) (nx : List (List Int)) : Prop where
  so : okL N st
  no : ∀ r ∈ nx, okL N r
  ln : nx.length = N
  n : N ≤ 2048
  sl : st.length ≤ 2048
  ed : edges nx ≤ 4194304
theorem made_in {next : Pr2 → List Pr2} {start : List Pr2} (h : (madeE next start).2.1 = true) : MadeIn (madeE next start).1.length (madeS start) (madeE next start).2.2 := by
  obtain ⟨hM, hl⟩ := made_law h
  have h1 : okL (madeE next start).1.length (madeS start) := fun i hi => by
    obtain ⟨p, hp, e⟩ := (hM.st1 i).1 hi
    have := (idxOf_at (hM.st0 p hp)).1
    omega
  have h2 : ∀ r ∈ (madeE next start).2.2, okL (madeE next start).1.length r := fun r hr i hi => by
    obtain ⟨n, hn, rfl⟩ := List.mem_iff_getElem.1 hr
    have hg : (madeE next start).2.2.getD n [] = (madeE next start).2.2[n] := by rw [List.getD_eq_getElem?_getD, List.getElem?_eq_getElem hn]; rfl
    rw [← hg] at hi
    obtain ⟨p, hp, e⟩ := (hM.nx1 n hn i).1 hi
    have := (idxOf_at (hM.nx0 n hn p hp)).1
    omega
  have hn := hM.le
  refine ⟨h1, h2, hl, hn, ?_, ?_⟩
  · exact Nat.le_trans (okL_nodup_len (putP_nd _ _ _ _ List.nodup_nil) h1) hn
  · have h3 : ∀ r ∈ (madeE next start).2.2, r.length ≤ 2048 := fun r hr => Nat.le_trans (okL_nodup_len (madeGo_nd _ _ _ _ _ (fun _ h => by cases h) r hr) (h2 r hr)) hn
    have h4 := edges_le _ 2048 h3
    rw [hl] at h4
    have : (madeE next start).1.length * 2048 ≤ 2048 * 2048 := Nat.mul_le_mul_right _ hn
    omega
theorem setP_okL {ps : List Pr2} {of : Pr2 → Int} {F : List Int} : okL ps.length (setP ps of F) := fun i hi => by
  unfold setP at hi
  obtain ⟨j, hj, rfl⟩ := List.mem_map.1 hi
  have := List.mem_range.1 (List.mem_filter.1 hj).1
  omega
theorem oneFair_okL {fr : List (List Int)} {ps : List Pr2} : okL ps.length (oneFair fr ps) := fun i hi => by
  unfold oneFair at hi
  obtain ⟨j, hj, rfl⟩ := List.mem_map.1 hi
  have := List.mem_range.1 (List.mem_filter.1 hj).1
  omega
theorem both_okA {A B : LAuto} (h : (madeE (bothNext A B) (bothStart A B)).2.1 = true) (h80 : A.2.2.2.2.length + B.2.2.2.2.length ≤ 80) : OkA (bothL A B) ∧ edges (bothL A B).2.1 + (bothL A B).1.length ≤ 8589934592 := by
  have hI := made_in h
  have hl := hI.ln
  have hn := hI.n
  have hs := hI.sl
  have he := hI.ed
  refine ⟨⟨?_, ?_, ?_, ?_, ?_, ?_, ?_⟩, ?_⟩
  · show (madeE (bothNext A B) (bothStart A B)).2.2.length ≤ 2048; omega
  · show (A.2.2.2.2.map _ ++ B.2.2.2.2.map _).length ≤ 80
    rw [List.length_append, List.length_map, List.length_map]; exact h80
  · show ((bothPs A B).map _).length = (madeE (bothNext A B) (bothStart A B)).2.2.length
    rw [List.length_map]; exact hl.symm
  · show ((bothPs A B).map _).length = (madeE (bothNext A B) (bothStart A B)).2.2.length
    rw [List.length_map]; exact hl.symm
  · show okL (madeE (bothNext A B) (bothStart A B)).2.2.length (madeS (bothStart A B))
    rw [hl]; exact hI.so
  · show ∀ r ∈ (madeE (bothNext A B) (bothStart A B)).2.2, okL (madeE (bothNext A B) (bothStart A B)).2.2.length r
    rw [hl]; exact hI.no
  · show ∀ r ∈ A.2.2.2.2.map (setP (bothPs A B) Prod.fst) ++ B.2.2.2.2.map (setP (bothPs A B) Prod.snd), okL (madeE (bothNext A B) (bothStart A B)).2.2.length r
    rw [hl]
    intro r hr
    rcases List.mem_append.1 hr with hr | hr <;> (obtain ⟨F, _, rfl⟩ := List.mem_map.1 hr; exact setP_okL)
  · show edges (madeE (bothNext A B) (bothStart A B)).2.2 + (madeS (bothStart A B)).length ≤ _
    omega
theorem one_okA {A : LAuto} (h : (madeE (oneNext A) (oneStart A)).2.1 = true) : OkA (oneL A) ∧ edges (oneL A).2.1 + (oneL A).1.length ≤ 8589934592 := by
  have hI := made_in h
  have hl := hI.ln
  have hn := hI.n
  have hs := hI.sl
  have he := hI.ed
  refine ⟨⟨?_, ?_, ?_, ?_, ?_, ?_, ?_⟩, ?_⟩
  · show (madeE (oneNext A) (oneStart A)).2.2.length ≤ 2048; omega
  · show [oneFair A.2.2.2.2 (onePs A)].length ≤ 80
    simp
  · show ((onePs A).map _).length = (madeE (oneNext A) (oneStart A)).2.2.length
    rw [List.length_map]; exact hl.symm
  · show ((onePs A).map _).length = (madeE (oneNext A) (oneStart A)).2.2.length
    rw [List.length_map]; exact hl.symm
  · show okL (madeE (oneNext A) (oneStart A)).2.2.length (madeS (oneStart A))
    rw [hl]; exact hI.so
  · show ∀ r ∈ (madeE (oneNext A) (oneStart A)).2.2, okL (madeE (oneNext A) (oneStart A)).2.2.length r
    rw [hl]; exact hI.no
  · show ∀ r ∈ [oneFair A.2.2.2.2 (onePs A)], okL (madeE (oneNext A) (oneStart A)).2.2.length r
    rw [hl]
    intro r hr
    rw [List.mem_singleton] at hr
    rw [hr]; exact oneFair_okL
  · show edges (madeE (oneNext A) (oneStart A)).2.2 + (madeS (oneStart A)).length ≤ _
    omega
end Go.Proofs.Ytllpfgcngokhnaa
/-
  EmptyShows, EmptyTakes: walked.
-/
set_option linter.unusedVariables false
set_option linter.unusedSimpArgs false
namespace Go.Proofs.Ytllpfgcngokhnaa
open Go.RowKit

def turnsW : LWorld := ([0], [[1, 0], [0, 1]], [1, 2], [[0], [1]])
theorem turns_chk : chkE turnsW = 0 := by decide
theorem even_odd (i : Nat) : i % 2 = 0 ∨ i % 2 = 1 := by omega
theorem turns_ones : EWay turnsW onesA := by
  refine ⟨fun i => (((i % 2 : Nat) : Int), ((i % 2 : Nat) : Int)), pairsX_mem.2 ⟨by decide, by decide⟩, fun i => ?_, fun i => pairsX_mem.2 ?_, fun S hS i => ?_⟩
  · rcases even_odd i with h | h <;> rw [h] <;> decide
  · rcases even_odd i with h | h
    · rw [h, show (i + 1) % 2 = 1 by omega]; decide
    · rw [h, show (i + 1) % 2 = 0 by omega]; decide
  · have hm : (2 * i) % 2 = 0 := by omega
    have hm1 : (2 * i + 1) % 2 = 1 := by omega
    have hS : S = (fun p : Pr2 => decide (p.1 = (0 : Int))) ∨ S = (fun p : Pr2 => decide (p.1 = (1 : Int))) ∨ S = (fun p : Pr2 => decide (p.2 = (0 : Int))) := by
      simp only [ssE, turnsW, onesA, List.map_cons, List.map_nil, List.cons_append, List.nil_append, List.mem_cons, List.not_mem_nil, or_false] at hS
      exact hS
    rcases hS with rfl | rfl | rfl
    · exact ⟨2 * i, by omega, by rw [hm]; decide⟩
    · exact ⟨2 * i + 1, by omega, by rw [hm1]; decide⟩
    · exact ⟨2 * i, by omega, by rw [hm]; decide⟩
theorem found_turns {s l : List Int} {is : Bool} {err : Int} (h : FoundE turnsW onesA s l is err) : is = true ∧ err = 0 ∧ 0 < l.length := by
  rcases h with ⟨_, _, _, _, h⟩ | ⟨he, _, _, ⟨_, _, _, h⟩ | ⟨hi, _, h⟩⟩
  · exact absurd (h turns_chk onesA_ok) id
  · exact absurd turns_ones h
  · exact ⟨hi, he, h.l0⟩
theorem goodF_len {st : List Int} {nx : List (List Int)} {k : Nat} {fr : List (List Int)} {s l : List Int} (h : goodF st nx k fr s l = (true, 0)) : s.length ≤ 60000 ∧ l.length ≤ 60000 := by
  unfold goodF at h
  split at h
  · cases h
  split at h
  · cases h
  · omega
/-- the first look: what the laws ask of turns and ones -/
theorem onesA_row (j : Nat) : (onesA.2.1.getD j []).length ≤ 1048576 := by
  match j with
  | 0 => decide
  | 1 => decide
  | j + 2 => simp [onesA]
theorem turnsW_row (j : Nat) : (turnsW.2.1.getD j []).length ≤ 1048576 := by
  match j with
  | 0 => decide
  | 1 => decide
  | j + 2 => simp [turnsW]
set_option maxHeartbeats 2000000 in
theorem EmptyShows_ok (w0 : World) {va : Value} {W : LWorld} {A : LAuto2} {o1 o2 o3 o4 : Option Addr} {c1 c2 c3 c4 : Nat} (h1 : Sl w0 (Old w0) o1 c1 W.1) (h2 : Sl w0 (Old w0) o2 c2 W.2.1) (h3 : Sl w0 (Old w0) o3 c3 W.2.2.1) (h4 : Sl w0 (Old w0) o4 c4 W.2.2.2) (ha : AutoAt w0 (Old w0) va A)
    (sW : ∀ j, (W.2.1.getD j []).length ≤ 1048576) (sA : ∀ j, (A.2.1.getD j []).length ≤ 1048576) (tW : W.1.length ≤ 1048576) (tA : A.1.length ≤ 1048576) (eA : edges A.2.1 + A.1.length ≤ 8589934592) :
    Rt Try.prog 3 [worldV o1 c1 o2 c2 o3 c3 o4 c4 W.1.length W.2.1.length W.2.2.1.length W.2.2.2.length, va].toArray w0 fun v w' => v = .bool true ∧ Ext w0 w' := by
  have ha0 := ha
  have hm3 := h3.len63
  obtain ⟨k1, d1, k2, d2, k3, d3, k4, d4, k5, d5, rfl, g1, g2, g3, g4, g5⟩ := ha.ok
  clear g1 g2 g3 g4 g5 ha
  refine Rt.enter2 Try.func3 Try.ntmps3 rfl rfl ?_
  have hE := Ext.refl w0
  (repeat (first | (apply CW.seq) | (apply CW.region)))
  refine WL.boxB rfl rfl rfl fun w1 hb2 e1 => ?_
  have hE := hE.trans e1
  skip
  refine WL.boxB rfl rfl rfl fun w2 hb3 e2 => ?_
  have hb2 := hb2.ext e2
  have hE := hE.trans e2
  (repeat (first | (apply WL.pure; rfl; rfl; rfl) | (apply WL.nil) | (apply EX.thenN) | (apply CW.seq) | (apply CW.region)))
  refine WL.call rfl rfl rfl (wturns_okL w2) ?_
  rintro _ w3 ⟨⟨p1, q1, p2, q2, p3, q3, p4, q4, rfl, t1, t2, t3, t4⟩, e3⟩
  refine WL.call rfl rfl rfl (ones_ok w3) ?_
  rintro vo w4 ⟨hon, e4⟩
  refine WL.call rfl rfl rfl (find_ok w4 (W := turnsW) (A := onesA) (t1.up e4) (t2.up e4) (t3.up e4) (t4.up e4) hon turnsW_row onesA_row (by decide) (by decide)) ?_
  rintro _ w5 ⟨⟨s, l, is, err, so, sc, lo, lc, rfl, hs, hl, hF⟩, e5⟩
  obtain ⟨rfl, rfl, hl0⟩ := found_turns hF
  have e25 := (e3.trans e4).trans e5
  have hb2 := hb2.ext e25
  have hb3 := hb3.ext e25
  have hE := hE.trans e25
  clear hF hon t1 t2 t3 t4 e25 e1 e2 e3 e4 e5
  (repeat (apply WL.pure; rfl; rfl; rfl))
  refine WL.alloc rfl rfl (fun w6 hb5 e6 => ?_)
  skip
  refine WL.st rfl rfl rfl hb5 rfl rfl (ones_of rfl) (fun w7 hb5 hg7 => ?_)
  have e7 : Ext w5 w7 := e6.grown hg7 e6.size (fun g hg => by cases hg; exact Nat.le_refl _)
  have hb2 := hb2.ext e7
  have hb3 := hb3.ext e7
  have hE := hE.trans e7
  clear e6 hg7
  (repeat (first | (apply WL.pure; rfl; rfl; rfl) | (apply WL.nil) | (apply EX.thenN) | (apply CW.seq) | (apply CW.region) | (apply WL.lenS; rfl; rfl; rfl) | (apply WL.fa; rfl; rfl; rfl) | (apply WL.ld; rfl; rfl; rfl; assumption; rfl)))
  refine CW.cond rfl (fun h => ?_) (fun h => ?_)
  · simp at h; subst h; simp at hl0
  clear h
  (repeat (first | (apply EX.thenN) | (apply CW.seq) | (apply CW.region) | (apply WL.ldA; rfl; rfl; rfl; assumption; rfl) | (apply CW.skip)))
  refine WL.call rfl rfl rfl (find_ok w7 (W := W) (A := A) (h1.up hE) (h2.up hE) (h3.up hE) (h4.up hE) (ha0.up hE) sW sA tW tA) ?_
  rintro _ w8 ⟨⟨s, l, is, err, so, sc, lo, lc, rfl, hs, hl, hF⟩, e8⟩
  have hb2 := hb2.ext e8
  have hb3 := hb3.ext e8
  have hE := hE.trans e8
  (repeat (apply WL.pure; rfl; rfl; rfl))
  refine WL.alloc rfl rfl (fun w9 hb8 e9 => ?_)
  skip
  refine WL.st rfl rfl rfl hb8 rfl rfl (ones_of rfl) (fun w10 hb8 hg10 => ?_)
  have e10 : Ext w8 w10 := e9.grown hg10 e9.size (fun g hg => by cases hg; exact Nat.le_refl _)
  have hb2 := hb2.ext e10
  have hb3 := hb3.ext e10
  have hE := hE.trans e10
  have hs := hs.up e10
  have hl := hl.up e10
  clear e9 hg10 e8 hb5
  rcases hF with ⟨he, rfl, rfl, rfl, _⟩ | ⟨rfl, hW, hA, ⟨rfl, rfl, rfl, _⟩ | ⟨rfl, _, hP⟩⟩
  · have hb : (err != 0) = true := by simpa using he
    have hb' : (err == 0) = false := by simpa using he
    (repeat (first | (apply WL.pure; rfl; rfl; rfl) | (apply WL.nil) | (apply EX.thenN) | (apply CW.seq) | (apply CW.region)))
    rw [hb]
    (repeat (first | (apply WL.pure; rfl; rfl; rfl) | (apply WL.nil) | (apply EX.thenN) | (apply CW.seq) | (apply CW.region) | (apply WL.pass; rfl; rfl) | (apply WL.lenS; rfl; rfl; rfl) | (apply WL.fa; rfl; rfl; rfl) | (apply WL.ld; rfl; rfl; rfl; assumption; rfl) | (apply CW.condT; rfl)))
    rw [hb']
    (repeat (first | (apply WL.pure; rfl; rfl; rfl) | (apply WL.nil) | (apply EX.thenN) | (apply CW.ret) | (apply EX.thenR)))
    exact EX.ret1 rfl rfl ⟨rfl, hE⟩
  · (repeat (first | (apply WL.pure; rfl; rfl; rfl) | (apply WL.nil) | (apply EX.thenN) | (apply CW.seq) | (apply CW.region) | (apply WL.pass; rfl; rfl) | (apply WL.lenS; rfl; rfl; rfl) | (apply WL.fa; rfl; rfl; rfl) | (apply WL.ld; rfl; rfl; rfl; assumption; rfl) | (apply CW.condT; rfl) | (apply CW.ret) | (apply EX.thenR)))
    exact EX.ret1 rfl rfl ⟨rfl, hE⟩
  have okA := chkA_ok hA
  (repeat (first | (apply WL.pure; rfl; rfl; rfl) | (apply WL.nil) | (apply EX.thenN) | (apply CW.seq) | (apply CW.region) | (apply WL.ldA; rfl; rfl; rfl; assumption; rfl) | (apply CW.condF; rfl) | (apply CW.skip)))
  refine WL.call rfl rfl rfl (Good_ok w10 (h1.up hE) (h2.up hE) hm3 (h4.up hE) hs hl) ?_
  rintro _ w11 ⟨rfl, e11⟩
  have hb2 := hb2.ext e11
  have hb3 := hb3.ext e11
  have hb8 := hb8.ext e11
  have hE := hE.trans e11
  have hs := hs.up e11
  have hl := hl.up e11
  rcases hP.goodF hW with hG | hG
  · rw [hG]
    (repeat (first | (apply WL.pure; rfl; rfl; rfl) | (apply WL.nil) | (apply EX.thenN) | (apply CW.seq) | (apply CW.region) | (apply WL.pass; rfl; rfl) | (apply CW.condT; rfl) | (apply CW.ret) | (apply EX.thenR)))
    exact EX.ret1 rfl rfl ⟨rfl, hE⟩
  obtain ⟨hs6, hl6⟩ := goodF_len hG
  rw [hG]
  (repeat (first | (apply WL.pure; rfl; rfl; rfl) | (apply WL.nil) | (apply EX.thenN) | (apply CW.seq) | (apply CW.region) | (apply WL.ldA; rfl; rfl; rfl; assumption; rfl) | (apply CW.condF; rfl) | (apply CW.skip)))
  refine WL.call rfl rfl rfl (Word_ok w11 (h1.up hE) (h2.up hE) (h3.up hE) (h4.up hE) hs hl hs6 hl6) ?_
  rintro _ w12 ⟨x, rfl, hx, e12⟩
  obtain ⟨xo, xc, yo, yc, rfl, hxs, hxl⟩ := hx.word
  have hb2 := hb2.ext e12
  have hb3 := hb3.ext e12
  have hE := hE.trans e12
  (repeat (apply WL.pure; rfl; rfl; rfl))
  refine WL.alloc rfl rfl (fun w13 hb13 e13 => ?_)
  skip
  refine WL.st rfl rfl rfl hb13 rfl rfl (ones_of rfl) (fun w14 hb13 hg14 => ?_)
  have e14 : Ext w12 w14 := e13.grown hg14 e13.size (fun g hg => by cases hg; exact Nat.le_refl _)
  have hb3 := hb3.ext e14
  have hE := hE.trans e14
  have hxs := hxs.up e14
  have hxl := hxl.up e14
  clear e13 hg14
  rcases hP.wordF hW with hw | hw
  · rw [hw]
    (repeat (first | (apply WL.pure; rfl; rfl; rfl) | (apply WL.nil) | (apply EX.thenN) | (apply CW.seq) | (apply CW.region) | (apply CW.condT; rfl) | (apply CW.ret) | (apply EX.thenR)))
    exact EX.ret1 rfl rfl ⟨rfl, hE⟩
  have hacc := hP.accF okA hw
  rw [hw]
  (repeat (first | (apply WL.pure; rfl; rfl; rfl) | (apply WL.nil) | (apply EX.thenN) | (apply CW.seq) | (apply CW.region) | (apply WL.ldA; rfl; rfl; rfl; assumption; rfl) | (apply CW.condF; rfl) | (apply CW.skip)))
  refine WL.call rfl rfl rfl (Accepts_ok w14 (A := A) (ha0.up hE) hxs hxl eA) ?_
  rintro _ w15 ⟨rfl, e15⟩
  rw [hacc]
  (repeat (first | (apply WL.pure; rfl; rfl; rfl) | (apply WL.nil) | (apply EX.thenN) | (apply CW.seq) | (apply CW.region) | (apply CW.ret)))
  exact EX.ret1 rfl rfl ⟨rfl, hE.trans e15⟩
end Go.Proofs.Ytllpfgcngokhnaa
/-
  From the form's readings of the arguments to our own, and back: what a law's proof needs at its two ends.
-/
set_option linter.unusedVariables false
set_option linter.unusedSimpArgs false
namespace Go.Proofs.Ytllpfgcngokhnaa
open Go.RowKit Go.ChangeShapes Go.WideShapes Go.ChangeAt

theorem bulk_one {H : Type} (d : DataW H) : 1 ≤ Rows.uptoBulk d := by
  cases d with
  | lit l => cases l <;> simp [Rows.uptoBulk]
  | nil => simp [Rows.uptoBulk]
  | ptr d => simp [Rows.uptoBulk]
  | slice elems spare => simp [Rows.uptoBulk]
  | agg parts => simp [Rows.uptoBulk]
  | iface t d => simp [Rows.uptoBulk]
  | map entries => simp [Rows.uptoBulk]
  | held h => simp [Rows.uptoBulk]
theorem bulk_app {H : Type} (l r : List (DataW H)) : Rows.uptoBulkAll (l ++ r) = Rows.uptoBulkAll l + Rows.uptoBulkAll r := by
  induction l with
  | nil => simp [Rows.uptoBulkAll]
  | cons x l ih => simp only [List.cons_append, Rows.uptoBulkAll, ih]; omega

/-- the bound, as the form hands it over -/
theorem bound {H : Type} {l : List (DataW H)} (hk : Rows.uptoSmall H l = true) : Rows.uptoBulkAll l ≤ 1048576 := by
  simpa [Rows.uptoSmall] using hk
/-- how many values a value of ours holds -/
class Bk (α : Type) where
  bk : α → Nat
abbrev bk {α : Type} [Bk α] : α → Nat := Bk.bk
instance iOpen1 : Bk Int := ⟨fun _ => 1⟩
instance iOpen2 : Bk Bool := ⟨fun _ => 1⟩
instance iOpen3 : Bk Nat := ⟨fun _ => 1⟩
instance iOpen4 : Bk ByteArray := ⟨fun s => s.size + 1⟩
def bkL {α : Type} [Bk α] : List α → Nat
  | [] => 0
  | x :: r => bk x + bkL r
instance iOpen8 {α : Type} [Bk α] : Bk (List α) := ⟨fun l => bkL l + 1⟩

/-- what the form reads at a type, we read, too -/
class Opn (P : Program) (t : TypeId) (α : Type) [Rep α] [Bk α] : Prop where
  op : ∀ {H : Type} {enc : TypeId × Value → H} {w : World} {fuel : Nat} {cs : List Value} {d : DataW H} {ps : List MemPlace}, DataW.trod enc P w 0 (fun _ => true) true fuel t cs = some (d, ps) → ∃ x : α, rd w (Old w) cs x ∧ bk x ≤ Rows.uptoBulk d

theorem Opn.int {P : Program} {t : TypeId} (h : P.underlying t = some (.int .i64)) : Opn P t Int where
  op := by
    intro H enc w fuel cs d ps hd
    cases fuel with
    | zero => simp [DataW.trod] at hd
    | succ fuel =>
      unfold DataW.trod at hd
      rw [h] at hd
      split at hd <;> try (simp at *; done)
      rename_i k k' n e1
      simp at e1
      split at hd
      · rename_i hk
        simp at hd
        obtain ⟨rfl, rfl⟩ := hd
        exact ⟨n, by rw [hk.1, ← e1]; rfl, bulk_one _⟩
      · cases hd
theorem Opn.bool {P : Program} {t : TypeId} (h : P.underlying t = some .bool) : Opn P t Bool where
  op := by
    intro H enc w fuel cs d ps hd
    cases fuel with
    | zero => simp [DataW.trod] at hd
    | succ fuel =>
      unfold DataW.trod at hd
      rw [h] at hd
      split at hd <;> try (simp at *; done)
      rename_i b e1
      simp at hd
      obtain ⟨rfl, rfl⟩ := hd
      exact ⟨b, rfl, bulk_one _⟩
theorem Opn.u64 {P : Program} {t : TypeId} (h : P.underlying t = some (.int .u64)) : Opn P t Nat where
  op := by
    intro H enc w fuel cs d ps hd
    cases fuel with
    | zero => simp [DataW.trod] at hd
    | succ fuel =>
      unfold DataW.trod at hd
      rw [h] at hd
      split at hd <;> try (simp at *; done)
      rename_i k k' n e1
      simp at e1
      split at hd
      · rename_i hk
        simp at hd
        obtain ⟨rfl, rfl⟩ := hd
        have hwf := hk.2
        rw [← e1] at hwf
        have hb : 0 ≤ n ∧ n ≤ 18446744073709551615 := by simpa [Lit.wf, IntKind.min, IntKind.max, IntKind.signed, IntKind.bits] using hwf
        refine ⟨n.toNat, ⟨?_, by omega⟩, bulk_one _⟩
        rw [hk.1, ← e1, Int.toNat_of_nonneg hb.1]
      · cases hd
theorem Opn.string {P : Program} {t : TypeId} (h : P.underlying t = some .string) : Opn P t ByteArray where
  op := by
    intro H enc w fuel cs d ps hd
    cases fuel with
    | zero => simp [DataW.trod] at hd
    | succ fuel =>
      unfold DataW.trod at hd
      rw [h] at hd
      split at hd <;> try (simp at *; done)
      rename_i s e1
      split at hd
      · rename_i hk
        simp at hd
        obtain ⟨rfl, rfl⟩ := hd
        refine ⟨s, ⟨rfl, hk⟩, ?_⟩
        show s.size + 1 ≤ _
        simp only [Rows.uptoBulk]
        have e : s.data.toList.length = s.size := by rw [Array.length_toList]; rfl
        omega
      · cases hd

theorem mapM_range {β : Type} (f : Nat → Option β) : ∀ (n : Nat) (es : List β), (List.range n).mapM f = some es → es.length = n ∧ ∀ i (h : i < es.length), f i = some es[i]
  | 0, es, h => by
    simp at h; subst h
    exact ⟨rfl, fun i hi => absurd hi (by simp)⟩
  | n + 1, es, h => by
    rw [List.range_succ, List.mapM_append] at h
    simp only [List.mapM_cons, List.mapM_nil, Option.bind_eq_bind, Option.pure_def] at h
    cases h1 : (List.range n).mapM f with
    | none => rw [h1] at h; cases h
    | some l =>
      rw [h1] at h
      cases h2 : f n with
      | none => rw [h2] at h; cases h
      | some y =>
        rw [h2] at h
        simp at h
        subst h
        obtain ⟨hl, hi⟩ := mapM_range f n l h1
        refine ⟨by simp [hl], fun i hlt => ?_⟩
        by_cases hi' : i < l.length
        · rw [List.getElem_append_left hi']; exact hi i hi'
        · have : i = n := by simp at hlt; omega
          subst this
          rw [List.getElem_append_right (by omega)]
          simpa [hl] using h2
theorem mapM_cells {w : World} {a : Addr} {n : Nat} {cs : List Value} (h : w.cells? 0 a n = some cs) : cs.length = n ∧ ∀ j (hj : j < cs.length), w.cell? (a.add j) = some cs[j] := by
  unfold World.cells? at h
  rw [if_pos (Nat.zero_le _)] at h
  exact mapM_range _ n cs h

theorem slice_op {P : Program} {t e : TypeId} {α : Type} [Rep α] [Bk α] [hs : IsS P t e] [ht : IsT P e α] {H : Type} {enc : TypeId × Value → H} {w : World} {fuel : Nat}
    (ho : ∀ {cs : List Value} {d : DataW H} {ps : List MemPlace}, DataW.trod enc P w 0 (fun _ => true) true fuel e cs = some (d, ps) → ∃ x : α, rd w (Old w) cs x ∧ bk x ≤ Rows.uptoBulk d)
    {cs : List Value} {d : DataW H} {ps : List MemPlace} (hd : DataW.trod enc P w 0 (fun _ => true) true (fuel + 1) t cs = some (d, ps)) : ∃ x : List α, rd w (Old w) cs x ∧ bk x ≤ Rows.uptoBulk d := by
  unfold DataW.trod at hd
  rw [hs.ok] at hd
  obtain ⟨i0, hi1, hi2⟩ := IsT.info (P := P) (t := e) (α := α)
  have hsz : P.cellsOf e = sz α := by simp [Program.cellsOf, hi1, hi2]
  have hp : 0 < sz α := Rep.pos
  split at hd <;> try (simp at *; done)
  · simp at hd
    obtain ⟨rfl, rfl⟩ := hd
    exact ⟨[], ⟨none, 0, rfl, by simp, by simp [maxLen], fun _ => rfl, fun i hi => absurd hi (by simp)⟩, bulk_one _⟩
  · rename_i e' a len cap e1
    cases e1
    simp only at hd
    split at hd
    · rename_i hc
      obtain ⟨_, hle, hmx⟩ := hc
      rw [hsz] at hd
      cases hm : (List.range len).mapM (fun i => (w.cells? 0 (a.add (i * sz α)) (sz α)).bind (DataW.trod enc P w 0 (fun _ => true) true fuel e)) with
      | none => rw [hm] at hd; cases hd
      | some elems =>
        rw [hm] at hd
        simp only [Option.bind_some, if_true] at hd
        obtain ⟨rest, _, hd2⟩ := Option.map_eq_some_iff.1 hd
        simp only [Prod.mk.injEq] at hd2
        obtain ⟨rfl, _⟩ := hd2
        obtain ⟨hlen, hget⟩ := mapM_range _ len elems hm
        -- one element at a time
        have one : ∀ i (h : i < elems.length), ∃ x : α, (∃ b off, some a = some ⟨b, off, none⟩ ∧ Old w b ∧ ∃ es, Cells w b (off + i * sz α) es ∧ rd w (Old w) es x) ∧ bk x ≤ Rows.uptoBulk (elems[i]).1 := by
          intro i hi
          have h1 := hget i hi
          cases hcs : w.cells? 0 (a.add (i * sz α)) (sz α) with
          | none => rw [hcs] at h1; cases h1
          | some es =>
            rw [hcs] at h1
            simp only [Option.bind_some] at h1
            obtain ⟨x, hr, hb⟩ := ho (d := (elems[i]).1) (ps := (elems[i]).2) h1
            obtain ⟨hl, hc⟩ := mapM_cells hcs
            have h0 := hc 0 (by omega)
            have hspot : a.spot = none := by
              cases hsp : a.spot with
              | none => rfl
              | some k =>
                -- the first element's first cell lies at the address itself
                have h2 := hget 0 (by omega)
                cases hcs0 : w.cells? 0 (a.add (0 * sz α)) (sz α) with
                | none => rw [hcs0] at h2; cases h2
                | some es0 =>
                  obtain ⟨hl0, hc0⟩ := mapM_cells hcs0
                  have h3 := hc0 0 (by omega)
                  have e3 : (a.add (0 * sz α)).add 0 = a := by simp [Addr.add]
                  rw [e3] at h3
                  unfold World.cell? at h3
                  split at h3
                  · simp [hsp] at h3
                  · cases h3
            obtain ⟨b, off, sp⟩ := a
            simp only at hspot
            subst hspot
            rw [WideShapes.add_plain] at hc h0
            have hblt : b < w.heap.size := World.block_lt_of_cell? w _ h0
            refine ⟨x, ⟨b, off, rfl, hblt, es, ?_, hr⟩, hb⟩
            intro j u hu
            obtain ⟨hj, rfl⟩ := List.getElem?_eq_some_iff.1 hu
            have := hc j hj
            rwa [WideShapes.add_plain] at this
        have all : ∀ k, k ≤ elems.length → ∃ xs : List α, xs.length = k ∧ (∀ i (h : i < xs.length), ∃ b off, some a = some ⟨b, off, none⟩ ∧ Old w b ∧ ∃ es, Cells w b (off + i * sz α) es ∧ rd w (Old w) es xs[i]) ∧ bkL xs ≤ Rows.uptoBulkAll ((elems.map (·.1)).take k) := by
          intro k
          induction k with
          | zero => intro _; exact ⟨[], rfl, fun i hi => absurd hi (by simp), by simp [bkL, Rows.uptoBulkAll]⟩
          | succ k ih =>
            intro hk
            obtain ⟨xs, h1, h2, h3⟩ := ih (by omega)
            obtain ⟨x, h4, h5⟩ := one k (by omega)
            refine ⟨xs ++ [x], by simp [h1], ?_, ?_⟩
            · intro i hi
              by_cases hlt : i < xs.length
              · rw [List.getElem_append_left hlt]; exact h2 i hlt
              · have : i = k := by simp at hi; omega
                subst this
                rw [List.getElem_append_right (by omega)]
                simpa [h1] using h4
            · have hb : ∀ (l : List α), bkL (l ++ [x]) = bkL l + bk x := by
                intro l; induction l with
                | nil => simp [bkL]
                | cons y l ih => simp only [List.cons_append, bkL, ih]; omega
              rw [hb, List.take_succ_eq_append_getElem (by simp; omega), bulk_app]
              simp only [List.getElem_map, Rows.uptoBulkAll]
              omega
        obtain ⟨xs, h1, h2, h3⟩ := all elems.length (Nat.le_refl _)
        have hx : xs.length = len := by omega
        refine ⟨xs, ⟨some a, cap, by rw [hx], ⟨by omega, hmx, (fun h => by cases h), h2⟩⟩, ?_⟩
        show bkL xs + 1 ≤ _
        rw [List.take_of_length_le (by simp)] at h3
        simp only [Rows.uptoBulk]
        omega
    · cases hd

theorem Opn.slice {P : Program} {t e : TypeId} {α : Type} [Rep α] [Bk α] [hs : IsS P t e] [ht : IsT P e α] [ho : Opn P e α] : Opn P t (List α) where
  op := by
    intro H enc w fuel cs d ps hd
    cases fuel with
    | zero => simp [DataW.trod] at hd
    | succ fuel => exact slice_op (e := e) (fun h => ho.op h) hd

theorem okWide_form {P : Program} {w : World} {r : Reach} {base : Nat} {t : TypeId} {v : Value} {d : TypeDesc} (hu : P.underlying t = some d) (h : Value.okWide P w r base t v) :
    (aggD d = false → v.oneCell' = true) ∧ (aggD d = true → ∃ cs, v = .agg cs) := by
  unfold Value.okWide at h
  rw [hu] at h
  constructor
  · intro hd
    cases v <;> first
      | rfl
      | (exfalso; cases d <;> simp [aggD] at hd <;> simp [Cell.okWide, Cell.ok, hu] at h)
  · intro hd
    cases d <;> simp [aggD] at hd <;> (obtain ⟨cs, rfl, _⟩ := h; exact ⟨cs, rfl⟩)
/-- an argument, opened -/
theorem Opn.arg {P : Program} {t : TypeId} {α : Type} [Rep α] [Bk α] [ht : IsT P t α] [ho : Opn P t α] {H : Type} {enc : TypeId × Value → H} {w : World} {v : Value} {d : DataW H} {ps : List MemPlace} {r : Reach} {base : Nat}
    (hv : Value.okWide P w r base t v) (h : DataW.Trod enc P w 0 (fun _ => true) true t v d ps) : ∃ x : α, Rd w (Old w) v x ∧ bk x ≤ Rows.uptoBulk d := by
  obtain ⟨i, dd, _, _, h3, h4⟩ := ht.ok
  obtain ⟨f1, f2⟩ := okWide_form h3 hv
  obtain ⟨fuel, hf⟩ := h
  obtain ⟨x, hr, hb⟩ := ho.op hf
  refine ⟨x, ⟨v.cells.toList, ?_, hr⟩, hb⟩
  unfold vOf
  split
  · rename_i he
    obtain ⟨cs, rfl⟩ := f2 (h4.trans he)
    simp [Value.cells]
  · rename_i he
    have := f1 (h4.trans he)
    cases v <;> first | rfl | (simp [Value.oneCell'] at this)

theorem trodAll_below {H : Type} {enc : TypeId × Value → H} {P : Program} (hl : laidOutB P = true) {W W' : World} (hb : Ext W W') : ∀ {ts : List TypeId} {vs : List Value} {ds : List (DataW H)} {ps : List MemPlace},
    (∀ t ∈ ts, P.readableRec t = true ∧ t < P.types.size) → DataW.TrodAll enc P W 0 (fun _ => true) true ts vs ds ps → (∀ x ∈ ps, x.block < W.heap.size) →
    DataW.TrodAll enc P W' 0 (fun b => decide (b < W.heap.size)) true ts vs ds ps
  | [], [], [], _, _, h, _ => h
  | t :: ts, v :: vs, d :: ds, ps, hr, h, hlt => by
    obtain ⟨p, q, h1, h2, rfl⟩ := h
    exact ⟨p, q, Below.trod hl (hr t (by simp)).1 (hr t (by simp)).2 h1 hb (fun x hx => hlt x (by simp [hx])),
      trodAll_below hl hb (fun t ht => hr t (by simp [ht])) h2 (fun x hx => hlt x (by simp [hx])), rfl⟩
  | [], [], _ :: _, _, _, h, _ => h.elim
  | [], _ :: _, [], _, _, h, _ => h.elim
  | [], _ :: _, _ :: _, _, _, h, _ => h.elim
  | _ :: _, [], [], _, _, h, _ => h.elim
  | _ :: _, [], _ :: _, _, _, h, _ => h.elim
  | _ :: _, _ :: _, [], _, _, h, _ => h.elim

/-- the law's end: it returned true, and only new memory was made -/
theorem law_post {H : Type} {enc : TypeId × Value → H} {P : Program} {fn : Func} {s : ChangeSpec} {W W' : World} {args : Array Value} {ds gs : List (DataW H)} {before : List MemPlace} {tb : TypeId}
    (hl : laidOutB P = true) (hW : DataW.Whole enc P fn.params.toList s.vars false W args.toList ds gs before) (hv : s.vars = []) (hr : ∀ t ∈ fn.params.toList, P.readableRec t = true ∧ t < P.types.size)
    (hsp : (s.fn H (ds ++ gs)).results = [.lit (.bool true)] ∧ (s.fn H (ds ++ gs)).args = ds ∧ (s.fn H (ds ++ gs)).vars = []) (hres : fn.resultTypes = #[tb]) (hb : P.underlying tb = some .bool) (hE : Ext W W') :
    s.post enc P fn false true false false W args (.bool true) W' := by
  have hlt := hW.lt
  have hW' := hW
  obtain ⟨p, q, hA, hV, rfl, _, _⟩ := hW
  rw [hv] at hV
  obtain ⟨e1, e2, e3⟩ := hsp
  refine ⟨ds, gs, p ++ q, [], p, [], hW', ?_, ?_, ?_, hE.frame _, fun h => by cases h⟩
  · rw [e1, hres]
    exact trodAll_mk1 (shut_bool hb true)
  · rw [e2]
    exact trodAll_below hl hE hr hA (fun x hx => hlt x (by simp [hx]))
  · rw [e3, hv]
    exact rfl
/- structs -/
instance iOpen9 {α β : Type} [Bk α] [Bk β] : Bk (α × β) := ⟨fun x => bk x.1 + bk x.2⟩
/-- a list of fields, from an offset on -/
class OpnFs (P : Program) (fs : List (TypeId × Nat)) (off : Nat) (α : Type) [Rep α] [Bk α] : Prop where
  op : ∀ {H : Type} {enc : TypeId × Value → H} {w : World} {fuel : Nat} {cs : List Value} {xs : List (DataW H × List MemPlace)}, off + sz α = cs.length →
    (fs.mapM fun f => DataW.trod enc P w 0 (fun _ => true) true fuel f.1 ((cs.drop f.2).take (P.cellsOf f.1))) = some xs → ∃ x : α, rd w (Old w) (cs.drop off) x ∧ bk x ≤ Rows.uptoBulkAll (xs.map (·.1))
theorem cellsOf_T {P : Program} {t : TypeId} {α : Type} [Rep α] [ht : IsT P t α] : P.cellsOf t = sz α := by
  obtain ⟨i, h1, h2⟩ := IsT.info (P := P) (t := t) (α := α)
  simp [Program.cellsOf, h1, h2]
instance OpnFs.one {P : Program} {t : TypeId} {off : Nat} {α : Type} [Rep α] [Bk α] [ht : IsT P t α] [ho : Opn P t α] : OpnFs P [(t, off)] off α where
  op := by
    intro H enc w fuel cs xs hl h
    simp only [List.mapM_cons, List.mapM_nil, Option.bind_eq_bind, Option.pure_def] at h
    cases h1 : DataW.trod enc P w 0 (fun _ => true) true fuel t ((cs.drop off).take (P.cellsOf t)) with
    | none => rw [h1] at h; cases h
    | some d =>
      rw [h1] at h; simp at h; subst h
      obtain ⟨d, ps⟩ := d
      obtain ⟨x, hr, hb⟩ := ho.op h1
      rw [cellsOf_T (α := α), List.take_of_length_le (by rw [List.length_drop]; omega)] at hr
      exact ⟨x, hr, by simpa [Rows.uptoBulkAll] using hb⟩
instance OpnFs.cons {P : Program} {t : TypeId} {off : Nat} {f : TypeId × Nat} {fs : List (TypeId × Nat)} {α β : Type} [Rep α] [Bk α] [Rep β] [Bk β] [ht : IsT P t α] [ho : Opn P t α] [hr : OpnFs P (f :: fs) (off + sz α) β] : OpnFs P ((t, off) :: f :: fs) off (α × β) where
  op := by
    intro H enc w fuel cs xs hl h
    rw [List.mapM_cons] at h
    simp only [Option.bind_eq_bind, Option.pure_def] at h
    have hl' : off + sz α + sz β = cs.length := by
      have : sz (α × β) = sz α + sz β := rfl
      omega
    cases h1 : DataW.trod enc P w 0 (fun _ => true) true fuel t ((cs.drop off).take (P.cellsOf t)) with
    | none => rw [h1] at h; cases h
    | some d =>
      rw [h1] at h
      simp only [Option.bind_some] at h
      obtain ⟨ys, h2, h3⟩ := Option.bind_eq_some_iff.1 h
      cases h3
      obtain ⟨d, ps⟩ := d
      obtain ⟨x, hx, hb⟩ := ho.op h1
      obtain ⟨y, hy, hc⟩ := hr.op hl' h2
      rw [cellsOf_T (α := α)] at hx
      refine ⟨(x, y), ⟨(cs.drop off).take (sz α), cs.drop (off + sz α), ?_, hx, hy⟩, ?_⟩
      · rw [← List.drop_drop, List.take_append_drop]
      · show bk x + bk y ≤ _
        simp only [List.map_cons, Rows.uptoBulkAll]
        omega
def stFact (P : Program) (t : TypeId) : Option (List (TypeId × Nat)) := match P.underlying t with
  | some (.struct fs) => some (fs.toList.map fun f => (f.type, f.offset))
  | _ => none
theorem Opn.struct {P : Program} {t : TypeId} {fs : List (TypeId × Nat)} {α : Type} [Rep α] [Bk α] [ht : IsT P t α] [hf : OpnFs P fs 0 α] (h : stFact P t = some fs) : Opn P t α where
  op := by
    intro H enc w fuel cs d ps hd
    unfold stFact at h
    split at h
    · rename_i gs hu
      cases h
      cases fuel with
      | zero => simp [DataW.trod] at hd
      | succ fuel =>
        unfold DataW.trod at hd
        rw [hu] at hd
        simp only at hd
        split at hd
        · rename_i hl
          obtain ⟨xs, h1, h2⟩ := Option.map_eq_some_iff.1 hd
          cases h2
          have := hf.op (enc := enc) (w := w) (fuel := fuel) (cs := cs) (xs := xs) (by rw [hl, cellsOf_T (α := α)]; omega) (by rw [List.mapM_map]; exact h1)
          obtain ⟨x, hr, hb⟩ := this
          exact ⟨x, by simpa using hr, by simp only [Rows.uptoBulk]; omega⟩
        · cases hd
    · cases h
instance iOpen5 : Opn Try.prog 3 Int := Opn.int Try.underlying3
instance iOpen6 : Opn Try.prog 22 (List Int) := Opn.slice
instance iOpen7 : Opn Try.prog 23 (List (List Int)) := Opn.slice
end Go.Proofs.Ytllpfgcngokhnaa
/-
  The types of the arguments, as the form reads them.
-/
set_option linter.unusedVariables false
namespace Go.Proofs.Ytllpfgcngokhnaa
open Go.RowKit

instance iOpn1 : Opn Try.prog 4 Bool := Opn.bool Try.underlying4
instance iOpn2 : Opn Try.prog 53 Nat := Opn.u64 Try.underlying53
instance iOpn3 : Opn Try.prog 9 ByteArray := Opn.string Try.underlying9
instance iOpn4 : Opn Try.prog 31 Int := Opn.int Try.underlying31
instance iOpn5 : Opn Try.prog 54 (List Bool) := Opn.slice
instance iOpn6 : Opn Try.prog 24 (List Nat) := Opn.slice
instance iOpn8 : Opn Try.prog 181 (List Bool) := Opn.slice
instance iOpn9 : Opn Try.prog 213 (List (List Bool)) := Opn.slice
instance iOpn18 : Opn Try.prog 39 (List Nat × List Nat) := Opn.struct (fs := [(24, 0), (24, 1)]) (by kernel_rfl)
instance iOpn19 : Opn Try.prog 30 (List Int × List Int) := Opn.struct (fs := [(22, 0), (22, 1)]) (by kernel_rfl)
instance iOpn22 : Opn Try.prog 26 (List Int × List (List Int) × List Nat × List (List Int)) := Opn.struct (fs := [(22, 0), (23, 1), (24, 2), (23, 3)]) (by kernel_rfl)
instance iOpn23 : Opn Try.prog 28 (List Int × List (List Int) × List Nat × List Nat × List (List Int)) := Opn.struct (fs := [(22, 0), (23, 1), (24, 2), (24, 3), (23, 4)]) (by kernel_rfl)
end Go.Proofs.Ytllpfgcngokhnaa
/-
  Bulk of lists of numbers.
-/
namespace Go.Proofs.Ytllpfgcngokhnaa
open Go.RowKit

theorem bulk_flat {α : Type} [Bk α] (h : ∀ x : α, bk x = 1) : ∀ l : List α, bkL l = l.length
  | [] => rfl
  | x :: r => by simp only [bkL, h, bulk_flat h r, List.length_cons]; omega
theorem bulk_ge {α : Type} [Bk α] (h : ∀ x : α, 1 ≤ bk x) : ∀ l : List α, l.length ≤ bkL l
  | [] => Nat.le_refl _
  | x :: r => by
    have h1 := bulk_ge h r
    have h2 := h x
    simp only [bkL, List.length_cons]; omega
theorem bulk_l (l : List Int) : l.length + 1 = bk l := by show _ = bkL l + 1; rw [bulk_flat (fun _ => rfl)]
theorem bulk_b (l : List Bool) : l.length + 1 = bk l := by show _ = bkL l + 1; rw [bulk_flat (fun _ => rfl)]
theorem bulk_n (l : List Nat) : l.length + 1 = bk l := by show _ = bkL l + 1; rw [bulk_flat (fun _ => rfl)]
theorem bulk_g : ∀ g : List (List Int), edges g + g.length ≤ bkL g
  | [] => by simp [edges, bkL]
  | l :: g => by
    have h1 := bulk_g g
    have h3 : bk l = l.length + 1 := (bulk_l l).symm
    simp only [bkL, h3, edges, List.map_cons, List.sum_cons, List.length_cons] at h1 ⊢
    omega
theorem bulk_gg (g : List (List Int)) : edges g + g.length + 1 ≤ bk g := by
  have := bulk_g g
  show _ ≤ bkL g + 1
  omega
end Go.Proofs.Ytllpfgcngokhnaa
