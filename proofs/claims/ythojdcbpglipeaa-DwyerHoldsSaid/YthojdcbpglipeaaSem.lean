/-
  What formulas of one way mean, on endless words; that lasso.holds says so. Plain law, no program in sight.
-/
import Derived.Test.YthojdcbpglipeaaLasso3
set_option linter.unusedVariables false
set_option linter.unusedSimpArgs false
namespace Go.Proofs.Ythojdcbpglipeaa
open Go.RowKit

def Til (A B : Nat → Prop) (i : Nat) : Prop := ∃ j, i ≤ j ∧ B j ∧ ∀ m, i ≤ m → m < j → A m
theorem Til.step {A B : Nat → Prop} {i : Nat} : Til A B i ↔ B i ∨ (A i ∧ Til A B (i + 1)) := by
  constructor
  · rintro ⟨j, hj, hb, ha⟩
    by_cases h : i = j
    · subst h; exact .inl hb
    · exact .inr ⟨ha i (Nat.le_refl _) (by omega), j, by omega, hb, fun m h1 h2 => ha m (by omega) h2⟩
  · rintro (hb | ⟨ha, j, hj, hb, hm⟩)
    · exact ⟨i, Nat.le_refl _, hb, fun m h1 h2 => by omega⟩
    · refine ⟨j, by omega, hb, fun m h1 h2 => ?_⟩
      by_cases h : m = i
      · subst h; exact ha
      · exact hm m (by omega) h2
def semK (L : Nat → Nat) (k n : Int) (ks : List (Nat → Prop)) (i : Nat) : Prop :=
  if k = 1 then True
  else if k = 3 then L i >>> n.toNat &&& 1 = 1
  else if k = 4 then ¬ ks.getD 0 (fun _ => False) i
  else if k = 5 then ks.getD 0 (fun _ => False) i ∧ ks.getD 1 (fun _ => False) i
  else if k = 6 then ks.getD 0 (fun _ => False) i ∨ ks.getD 1 (fun _ => False) i
  else if k = 7 then ks.getD 0 (fun _ => False) (i + 1)
  else if k = 8 then Til (ks.getD 0 (fun _ => False)) (ks.getD 1 (fun _ => False)) i
  else if k = 9 then ¬ Til (fun j => ¬ ks.getD 0 (fun _ => False) j) (fun j => ¬ ks.getD 1 (fun _ => False) j) i
  else if k = 10 then Til (fun _ => True) (ks.getD 0 (fun _ => False)) i
  else if k = 11 then ¬ Til (fun _ => True) (fun j => ¬ ks.getD 0 (fun _ => False) j) i
  else False
mutual
def sem (L : Nat → Nat) : Ltl → Nat → Prop
  | .mk k n kids => semK L k n (sems L kids)
def sems (L : Nat → Nat) : List Ltl → List (Nat → Prop)
  | [] => []
  | x :: r => sem L x :: sems L r
end
theorem Til.shift {A B A' B' : Nat → Prop} {i i' : Nat} (ha : ∀ j, A (i + j) ↔ A' (i' + j)) (hb : ∀ j, B (i + j) ↔ B' (i' + j)) : Til A B i ↔ Til A' B' i' := by
  constructor
  · rintro ⟨j, hj, h1, h2⟩
    obtain ⟨d, rfl⟩ := Nat.exists_eq_add_of_le hj
    refine ⟨i' + d, by omega, (hb d).1 h1, fun m hm hm2 => ?_⟩
    obtain ⟨e, rfl⟩ := Nat.exists_eq_add_of_le hm
    exact (ha e).1 (h2 (i + e) (by omega) (by omega))
  · rintro ⟨j, hj, h1, h2⟩
    obtain ⟨d, rfl⟩ := Nat.exists_eq_add_of_le hj
    refine ⟨i + d, by omega, (hb d).2 h1, fun m hm hm2 => ?_⟩
    obtain ⟨e, rfl⟩ := Nat.exists_eq_add_of_le hm
    exact (ha e).2 (h2 (i' + e) (by omega) (by omega))
mutual
theorem sem_congr {L L' : Nat → Nat} : ∀ (t : Ltl) (i i' : Nat), (∀ j, L (i + j) = L' (i' + j)) → (sem L t i ↔ sem L' t i')
  | .mk k n kids, i, i', h => by
    have hk : ∀ c d, (sems L kids).getD c (fun _ => False) (i + d) ↔ (sems L' kids).getD c (fun _ => False) (i' + d) := fun c d => sems_congr kids (i + d) (i' + d) (fun j => by rw [Nat.add_assoc, Nat.add_assoc]; exact h (d + j)) c
    simp only [sem, semK]
    split
    · exact Iff.rfl
    · split
      · rw [show L i = L' i' from h 0]
      · split
        · exact not_congr (hk 0 0)
        · split
          · exact and_congr (hk 0 0) (hk 1 0)
          · split
            · exact or_congr (hk 0 0) (hk 1 0)
            · split
              · exact hk 0 1
              · split
                · exact Til.shift (hk 0) (hk 1)
                · split
                  · exact not_congr (Til.shift (fun j => not_congr (hk 0 j)) (fun j => not_congr (hk 1 j)))
                  · split
                    · exact Til.shift (fun _ => Iff.rfl) (hk 0)
                    · split
                      · exact not_congr (Til.shift (fun _ => Iff.rfl) (fun j => not_congr (hk 0 j)))
                      · exact Iff.rfl
theorem sems_congr {L L' : Nat → Nat} : ∀ (kids : List Ltl) (i i' : Nat), (∀ j, L (i + j) = L' (i' + j)) → ∀ c, ((sems L kids).getD c (fun _ => False) i ↔ (sems L' kids).getD c (fun _ => False) i')
  | [], i, i', h, c => by simp [sems]
  | x :: r, i, i', h, 0 => by simpa [sems] using sem_congr x i i' h
  | x :: r, i, i', h, c + 1 => by simpa [sems] using sems_congr r i i' h c
end

section
variable {s l : List Nat} {a b : List Bool} {A B : Nat → Prop} {N : Nat}
/-- what until says is so -/
theorem untilR_sound (hN : N = s.length + l.length) (h0 : 0 < l.length) (ha : ∀ i, i < N → (a.getD i false = true → A i)) (hb : ∀ i, i < N → (b.getD i false = true → B i)) (hT : ∀ i, i < N → Til A B (nextL s l i) → Til A B (i + 1)) :
    ∀ i out, i ≤ N → out.length = N → (∀ m, m < N → out.getD m false = true → Til A B m) → ∀ m, m < N → (untilR s l a b i out).getD m false = true → Til A B m
  | 0, out, _, _, h, m, hm, ho => h m hm ho
  | i + 1, out, hi, hl, h, m, hm, ho => by
    refine untilR_sound hN h0 ha hb hT i _ (by omega) (by simpa using hl) (fun m hm ho => ?_) m hm ho
    rw [List.getD_eq_getElem?_getD, List.getElem?_set] at ho
    split at ho
    · rename_i hmi
      subst hmi
      rw [if_pos (by omega)] at ho
      simp only [Option.getD_some, Bool.or_eq_true, Bool.and_eq_true] at ho
      refine Til.step.2 ?_
      rcases ho with ho | ⟨h1, h2⟩
      · exact .inl (hb i (by omega) ho)
      · refine .inr ⟨ha i (by omega) h1, hT i (by omega) (h _ ?_ h2)⟩
        unfold nextL; split <;> omega
    · rw [← List.getD_eq_getElem?_getD] at ho
      exact h m hm ho
/-- a round finds what is found place by place -/
theorem untilR_full (hN : N = s.length + l.length) (good : Nat → Prop) (hg : ∀ m, m + 1 < N → good m → b.getD m false = true ∨ (a.getD m false = true ∧ good (m + 1))) :
    ∀ i out, i + 1 ≤ N → out.length = N → (∀ m, i ≤ m → m < N → good m → out.getD m false = true) → ∀ m, m < N → good m → (untilR s l a b i out).getD m false = true
  | 0, out, _, _, h, m, hm, hgm => h m (Nat.zero_le _) hm hgm
  | i + 1, out, hi, hl, h, m, hm, hgm => by
    refine untilR_full hN good hg i _ (by omega) (by simpa using hl) (fun m h1 hm hgm => ?_) m hm hgm
    rw [List.getD_eq_getElem?_getD, List.getElem?_set]
    split
    · rename_i hmi
      subst hmi
      rw [if_pos (by omega)]
      simp only [Option.getD_some, Bool.or_eq_true, Bool.and_eq_true]
      rcases hg i (by omega) hgm with hb | ⟨ha, hg'⟩
      · exact .inl hb
      · refine .inr ⟨ha, ?_⟩
        have : nextL s l i = i + 1 := by unfold nextL; rw [if_neg (by omega)]
        rw [this]
        exact h (i + 1) (Nat.le_refl _) (by omega) hg'
    · rename_i hmi
      rw [← List.getD_eq_getElem?_getD]
      exact h m (by omega) hm hgm
theorem untilL_sem (hN : N = s.length + l.length) (h0 : 0 < l.length) (hla : a.length = N) (ha : ∀ i, i < N → (a.getD i false = true ↔ A i)) (hb : ∀ i, i < N → (b.getD i false = true ↔ B i))
    (hA : ∀ j, s.length ≤ j → (A (j + l.length) ↔ A j)) (hB : ∀ j, s.length ≤ j → (B (j + l.length) ↔ B j)) : ∀ i, i < N → ((untilL s l a b).getD i false = true ↔ Til A B i) := by
  have hTN : Til A B N ↔ Til A B s.length := by
    refine Til.shift (fun j => ?_) (fun j => ?_)
    · rw [show N + j = (s.length + j) + l.length by omega]; exact hA _ (by omega)
    · rw [show N + j = (s.length + j) + l.length by omega]; exact hB _ (by omega)
  have hT : ∀ i, i < N → (Til A B (nextL s l i) ↔ Til A B (i + 1)) := by
    intro i hi
    unfold nextL
    split
    · rw [show i + 1 = N by omega]; exact hTN.symm
    · exact Iff.rfl
  -- a witness within the loop
  have hin : ∀ d j, j - N = d → s.length ≤ j → B j → (∀ m, s.length ≤ m → m < j → A m) → ∃ j', s.length ≤ j' ∧ j' < N ∧ B j' ∧ ∀ m, s.length ≤ m → m < j' → A m := by
    intro d
    induction d using Nat.strongRecOn with
    | _ d ih =>
      intro j hd hj hBj hAj
      by_cases h : j < N
      · exact ⟨j, hj, h, hBj, hAj⟩
      · have hB' : B (j - l.length) := by
          have := hB (j - l.length) (by omega)
          rw [show j - l.length + l.length = j by omega] at this
          exact this.1 hBj
        by_cases hjN : j - l.length < N
        · exact ⟨j - l.length, by omega, hjN, hB', fun m h1 h2 => hAj m h1 (by omega)⟩
        · exact ih (j - l.length - N) (by omega) (j - l.length) rfl (by omega) hB' (fun m h1 h2 => hAj m h1 (by omega))
  let good1 : Nat → Prop := fun m => ∃ j, m ≤ j ∧ j < N ∧ B j ∧ ∀ r, m ≤ r → r < j → A r
  have hrep : (List.replicate a.length false).length = N := by simp [hla]
  have hpos : 0 < N := by omega
  obtain ⟨M, hM⟩ : ∃ M, N = M + 1 := ⟨N - 1, by omega⟩
  -- the first round
  have r1 : ∀ m, m < N → good1 m → (untilR s l a b a.length (List.replicate a.length false)).getD m false = true := by
    intro m hm hg
    rw [show a.length = M + 1 by omega]
    simp only [untilR]
    refine untilR_full (N := N) hN good1 ?_ M _ (by omega) (by simp; omega) (fun m h1 h2 hg => ?_) m hm hg
    · rintro m hm ⟨j, h1, h2, h3, h4⟩
      by_cases hmj : m = j
      · subst hmj; exact .inl ((hb m h2).2 h3)
      · exact .inr ⟨(ha m (by omega)).2 (h4 m (Nat.le_refl _) (by omega)), j, by omega, h2, h3, fun r hr1 hr2 => h4 r (by omega) hr2⟩
    · have : m = M := by omega
      subst this
      obtain ⟨j, h1, h2, h3, h4⟩ := hg
      have : j = m := by omega
      subst this
      rw [List.getD_eq_getElem?_getD, List.getElem?_set, if_pos rfl, if_pos (by simp)]
      simp only [Option.getD_some, (hb j h2).2 h3, Bool.true_or]
  have hl1 : (untilR s l a b a.length (List.replicate a.length false)).length = N := by rw [untilR_len]; exact hrep
  intro i hi
  constructor
  · intro h
    unfold untilL at h
    refine untilR_sound hN h0 (fun i hi => (ha i hi).1) (fun i hi => (hb i hi).1) (fun i hi => (hT i hi).1) a.length _ (by omega) hl1 (fun m hm ho => ?_) i hi h
    refine untilR_sound hN h0 (fun i hi => (ha i hi).1) (fun i hi => (hb i hi).1) (fun i hi => (hT i hi).1) a.length _ (by omega) hrep (fun m hm ho => ?_) m hm ho
    rw [List.getD_eq_getElem?_getD, List.getElem?_replicate] at ho
    split at ho <;> simp at ho
  · intro h
    unfold untilL
    generalize untilR s l a b a.length (List.replicate a.length false) = out1 at *
    rw [show a.length = M + 1 by omega]
    simp only [untilR]
    refine untilR_full (N := N) hN (Til A B) ?_ M _ (by omega) (by simpa using hl1) (fun m h1 h2 hg => ?_) i hi h
    · intro m hm hg
      rcases Til.step.1 hg with h1 | ⟨h1, h2⟩
      · exact .inl ((hb m (by omega)).2 h1)
      · exact .inr ⟨(ha m (by omega)).2 h1, h2⟩
    · have : m = M := by omega
      subst this
      rw [List.getD_eq_getElem?_getD, List.getElem?_set, if_pos rfl, if_pos (by omega)]
      simp only [Option.getD_some, Bool.or_eq_true, Bool.and_eq_true]
      rcases Til.step.1 hg with h3 | ⟨h3, h4⟩
      · exact .inl ((hb m h2).2 h3)
      · refine .inr ⟨(ha m h2).2 h3, ?_⟩
        have hnx : nextL s l m = s.length := by unfold nextL; rw [if_pos (by omega)]
        rw [hnx]
        rw [← hM] at h4
        obtain ⟨j, hj, hBj, hAj⟩ := hTN.1 h4
        obtain ⟨j', k1, k2, k3, k4⟩ := hin (j - N) j rfl hj hBj hAj
        exact r1 s.length (by omega) ⟨j', k1, k2, k3, k4⟩
end

/- WHAT HOLDS -/
theorem lat_loop {s l : List Nat} {j : Nat} (hj : s.length ≤ j) : lat s l (j + l.length) = lat s l j := by
  unfold lat
  rw [if_neg (by omega), if_neg (by omega)]
  congr 1
  rw [show j + l.length - s.length = (j - s.length) + l.length by omega, Nat.add_mod_right]
theorem sem_loop {s l : List Nat} (t : Ltl) {j : Nat} (hj : s.length ≤ j) : sem (lat s l) t (j + l.length) ↔ sem (lat s l) t j := by
  refine sem_congr t _ _ (fun d => ?_)
  rw [show j + l.length + d = (j + d) + l.length by omega]
  exact lat_loop (by omega)
theorem notB {xs : List Bool} {N i : Nat} (hl : xs.length = N) (hi : i < N) : ((xs.map (!·)).getD i false = true ↔ ¬ xs.getD i false = true) := by
  rw [List.getD_eq_getElem?_getD, List.getD_eq_getElem?_getD, List.getElem?_map, List.getElem?_eq_getElem (by omega)]
  simp
theorem repB {N i : Nat} (hi : i < N) : (List.replicate N true).getD i false = true := by
  rw [List.getD_eq_getElem?_getD, List.getElem?_replicate, if_pos hi]; rfl
theorem sem_next {s l : List Nat} (t : Ltl) {i : Nat} (hi : i < s.length + l.length) : sem (lat s l) t (nextL s l i) ↔ sem (lat s l) t (i + 1) := by
  unfold nextL
  split
  · rename_i h
    rw [show i + 1 = s.length + l.length from h]
    exact (sem_loop t (Nat.le_refl _)).symm
  · exact Iff.rfl
theorem comb_sem {s l : List Nat} (h0 : 0 < l.length) {k n : Int} {kids : List Ltl} (hk : kidsK k = kids.length) (hw : wfTs kids)
    (ih : ∀ c (h : c < kids.length), ∀ i, i < s.length + l.length → ((holdsL s l kids[c]).getD i false = true ↔ sem (lat s l) kids[c] i)) :
    ∀ i, i < s.length + l.length → ((comb s l k n (holdsLs s l kids)).getD i false = true ↔ semK (lat s l) k n (sems (lat s l) kids) i) := by
  intro i hi
  have hc := kidsK_cases k
  have hlen := holdsLs_lens (s := s) (l := l) kids hw
  generalize hN : s.length + l.length = N at *
  -- one kid, two kids
  have one : kids.length = 1 → ∃ x, kids = [x] := fun h => List.length_eq_one_iff.1 h
  have two : kids.length = 2 → ∃ x y, kids = [x, y] := fun h => by
    match kids, h with
    | [x, y], _ => exact ⟨x, y, rfl⟩
  have pl : ∀ f : Nat → Bool, ((List.range N).map f).getD i false = f i := fun f => by
    rw [List.getD_eq_getElem?_getD, List.getElem?_map, List.getElem?_range hi]; rfl
  have hTrue : ∀ i, i < N → ((List.replicate N true).getD i false = true ↔ True) := fun i hi => by rw [repB hi]; simp
  have hrl : (List.replicate N true).length = N := by simp
  have hnx : nextL s l i < N := by unfold nextL; split <;> omega
  rcases hc with ⟨h1, hk'⟩ | ⟨h1, hk'⟩ | ⟨h1, hk'⟩ | h1
  · -- no kid
    rcases hk' with rfl | rfl | rfl
    · have e1 : ∀ ks, comb s l 1 n ks = List.replicate N true := fun ks => by simp [comb, hN]
      have e2 : ∀ ks, semK (lat s l) 1 n ks i = True := fun ks => by simp [semK]
      rw [e1, e2]; exact hTrue i hi
    · have e1 : ∀ ks, comb s l 2 n ks = (List.range N).map (placeK s l 2 n ks) := fun ks => by simp [comb, hN]
      have e2 : ∀ ks, semK (lat s l) 2 n ks i = False := fun ks => by simp [semK]
      rw [e1, e2, pl]; simp [placeK]
    · have e1 : ∀ ks, comb s l 3 n ks = (List.range N).map (placeK s l 3 n ks) := fun ks => by simp [comb, hN]
      have e2 : ∀ ks, semK (lat s l) 3 n ks i = (lat s l i >>> n.toNat &&& 1 = 1) := fun ks => by simp [semK]
      have e3 : ∀ ks, placeK s l 3 n ks i = decide (lat s l i >>> n.toNat &&& 1 = 1) := fun ks => by unfold placeK; rw [if_pos rfl]; rfl
      rw [e1, e2, pl, e3, decide_eq_true_eq]
  · obtain ⟨x, rfl⟩ := one (by omega)
    have hx := ih 0 (by simp)
    simp only [List.getElem_cons_zero] at hx
    have hlx : (holdsL s l x).length = N := hlen _ (by simp [holdsLs])
    have hlp : ∀ j, s.length ≤ j → (sem (lat s l) x (j + l.length) ↔ sem (lat s l) x j) := fun j hj => sem_loop x hj
    have hsn := sem_next (s := s) (l := l) x (i := i) (by omega)
    rw [show holdsLs s l [x] = [holdsL s l x] by simp [holdsLs], show sems (lat s l) [x] = [sem (lat s l) x] by simp [sems]]
    generalize holdsL s l x = u at *
    generalize sem (lat s l) x = q at *
    rcases hk' with rfl | rfl | rfl | rfl
    · have e1 : comb s l 4 n [u] = u.map (!·) := by simp [comb]
      have e2 : semK (lat s l) 4 n [q] i = ¬ q i := by simp [semK]
      rw [e1, e2]
      exact (notB hlx hi).trans (not_congr (hx i hi))
    · have e1 : comb s l 7 n [u] = (List.range N).map (placeK s l 7 n [u]) := by simp [comb, hN]
      have e2 : semK (lat s l) 7 n [q] i = q (i + 1) := by simp [semK]
      have e3 : placeK s l 7 n [u] i = u.getD (nextL s l i) false := by simp [placeK]
      rw [e1, e2, pl, e3]
      exact (hx _ hnx).trans hsn
    · have e1 : comb s l 10 n [u] = untilL s l (List.replicate N true) u := by simp [comb, hN]
      have e2 : semK (lat s l) 10 n [q] i = Til (fun _ => True) q i := by simp [semK]
      rw [e1, e2]
      exact untilL_sem (A := fun _ => True) (B := q) hN.symm h0 hrl hTrue hx (fun _ _ => Iff.rfl) hlp i hi
    · have e1 : comb s l 11 n [u] = (untilL s l (List.replicate N true) (u.map (!·))).map (!·) := by simp [comb, hN]
      have e2 : semK (lat s l) 11 n [q] i = ¬ Til (fun _ => True) (fun j => ¬ q j) i := by simp [semK]
      rw [e1, e2]
      refine (notB (by rw [untilL_len, hrl]) hi).trans (not_congr ?_)
      exact untilL_sem (A := fun _ => True) (B := fun j => ¬ q j) hN.symm h0 hrl hTrue (fun i hi => (notB hlx hi).trans (not_congr (hx i hi))) (fun _ _ => Iff.rfl) (fun j hj => not_congr (hlp j hj)) i hi
  · obtain ⟨x, y, rfl⟩ := two (by omega)
    have hx := ih 0 (by simp)
    have hy := ih 1 (by simp)
    simp only [List.getElem_cons_zero, List.getElem_cons_succ] at hx hy
    have hlx : (holdsL s l x).length = N := hlen _ (by simp [holdsLs])
    have hly : (holdsL s l y).length = N := hlen _ (by simp [holdsLs])
    have hpx : ∀ j, s.length ≤ j → (sem (lat s l) x (j + l.length) ↔ sem (lat s l) x j) := fun j hj => sem_loop x hj
    have hpy : ∀ j, s.length ≤ j → (sem (lat s l) y (j + l.length) ↔ sem (lat s l) y j) := fun j hj => sem_loop y hj
    rw [show holdsLs s l [x, y] = [holdsL s l x, holdsL s l y] by simp [holdsLs], show sems (lat s l) [x, y] = [sem (lat s l) x, sem (lat s l) y] by simp [sems]]
    generalize holdsL s l x = u at *
    generalize holdsL s l y = v at *
    generalize sem (lat s l) x = q at *
    generalize sem (lat s l) y = r at *
    rcases hk' with rfl | rfl | rfl | rfl
    · have e1 : comb s l 5 n [u, v] = (List.range N).map (placeK s l 5 n [u, v]) := by simp [comb, hN]
      have e2 : semK (lat s l) 5 n [q, r] i = (q i ∧ r i) := by simp [semK]
      have e3 : placeK s l 5 n [u, v] i = (u.getD i false && v.getD i false) := by simp [placeK]
      rw [e1, e2, pl, e3, Bool.and_eq_true]
      exact and_congr (hx i hi) (hy i hi)
    · have e1 : comb s l 6 n [u, v] = (List.range N).map (placeK s l 6 n [u, v]) := by simp [comb, hN]
      have e2 : semK (lat s l) 6 n [q, r] i = (q i ∨ r i) := by simp [semK]
      have e3 : placeK s l 6 n [u, v] i = (u.getD i false || v.getD i false) := by simp [placeK]
      rw [e1, e2, pl, e3, Bool.or_eq_true]
      exact or_congr (hx i hi) (hy i hi)
    · have e1 : comb s l 8 n [u, v] = untilL s l u v := by simp [comb]
      have e2 : semK (lat s l) 8 n [q, r] i = Til q r i := by simp [semK]
      rw [e1, e2]
      exact untilL_sem hN.symm h0 hlx hx hy hpx hpy i hi
    · have e1 : comb s l 9 n [u, v] = (untilL s l (u.map (!·)) (v.map (!·))).map (!·) := by simp [comb]
      have e2 : semK (lat s l) 9 n [q, r] i = ¬ Til (fun j => ¬ q j) (fun j => ¬ r j) i := by simp [semK]
      rw [e1, e2]
      refine (notB (by rw [untilL_len, List.length_map]; exact hlx) hi).trans (not_congr ?_)
      exact untilL_sem (A := fun j => ¬ q j) (B := fun j => ¬ r j) hN.symm h0 (by rw [List.length_map]; exact hlx) (fun i hi => (notB hlx hi).trans (not_congr (hx i hi))) (fun i hi => (notB hly hi).trans (not_congr (hy i hi))) (fun j hj => not_congr (hpx j hj)) (fun j hj => not_congr (hpy j hj)) i hi
  · omega
mutual
theorem holds_sem {s l : List Nat} (h0 : 0 < l.length) : ∀ t, wfT t → ∀ i, i < s.length + l.length → ((holdsL s l t).getD i false = true ↔ sem (lat s l) t i)
  | .mk k n kids, hw => by
    simp only [wfT] at hw
    simp only [holdsL, sem]
    exact comb_sem h0 hw.1 hw.2.2.2.2 (fun c h => holdss_sem h0 kids hw.2.2.2.2 c h)
theorem holdss_sem {s l : List Nat} (h0 : 0 < l.length) : ∀ (kids : List Ltl), wfTs kids → ∀ c (h : c < kids.length), ∀ i, i < s.length + l.length → ((holdsL s l kids[c]).getD i false = true ↔ sem (lat s l) kids[c] i)
  | x :: r, hw, 0, h => holds_sem h0 x hw.1
  | x :: r, hw, c + 1, h => holdss_sem h0 r hw.2 c (by simpa using h)
end
end Go.Proofs.Ythojdcbpglipeaa
