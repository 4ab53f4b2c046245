/-
  Tokens: what a step takes and puts; plain lists.
-/
import Derived.Test.YthojdcbpglipeaaGame6
set_option linter.unusedVariables false
set_option linter.unusedSimpArgs false
namespace Go.Proofs.Ythojdcbpglipeaa

theorem getDset {l : List Int} {i j : Nat} {v : Int} (h : i < l.length) : (l.set i v).getD j 0 = if i = j then v else l.getD j 0 := by
  simp only [List.getD_eq_getElem?_getD, List.getElem?_set]
  split
  · subst_vars; simp [h]
  · rfl
/-- numbers of places -/
def inL (N : Nat) (l : List Int) : Prop := ∀ x ∈ l, 0 ≤ x ∧ x < N
theorem inL_ins {fl : List LFlow} {n : Int} : inL fl.length (insL fl n) := fun x hx => by
  obtain ⟨j, rfl, h, _⟩ := insP_mem.1 hx; omega
theorem inL_outs {fl : List LFlow} {n : Int} : inL fl.length (outsL fl n) := fun x hx => by
  obtain ⟨j, rfl, h, _⟩ := outsP_mem.1 hx; omega
theorem outsL_nodup {fl : List LFlow} {n : Int} : (outsL fl n).Nodup := by
  unfold outsL outsP
  rw [List.Nodup, List.pairwise_map]
  exact (List.nodup_range.filter _).imp fun hab e => hab (by omega)
section
variable {s : LStep}
theorem takeAll_len : ∀ (l : List Int) (m : List Int), (takeAll s m l).length = m.length
  | [], m => rfl
  | f :: r, m => by rw [takeAll, takeAll_len r, List.length_set]
theorem takes_eq {m m' : List Int} {f : Int} (h : m.getD f.toNat 0 = m'.getD f.toNat 0) : takes m s f = takes m' s f := by unfold takes; rw [h]
theorem takeAll_get : ∀ (l : List Int) (m : List Int), inL m.length l → l.Nodup → ∀ j : Nat, (takeAll s m l).getD j 0 = if (j : Int) ∈ l then takes m s (j : Int) else m.getD j 0
  | [], m, _, _, j => by simp [takeAll]
  | f :: r, m, hl, hd, j => by
    rw [List.nodup_cons] at hd
    have hf := hl f (by simp)
    have ih := takeAll_get r (m.set f.toNat (takes m s f)) (fun x hx => by rw [List.length_set]; exact hl x (by simp [hx])) hd.2 j
    rw [takeAll, ih, getDset (by omega)]
    by_cases e : f.toNat = j
    · have ej : (j : Int) = f := by omega
      rw [if_pos e, ej, if_neg hd.1, if_pos (by simp)]
    · have ej : ¬ (j : Int) = f := by omega
      rw [if_neg e]
      by_cases hm : (j : Int) ∈ r
      · rw [if_pos hm, if_pos (by simp [hm])]
        exact takes_eq (by rw [Int.toNat_natCast, getDset (by omega), if_neg e])
      · rw [if_neg hm, if_neg (by simp [hm, ej])]
end
theorem putAll_len {n : Int} : ∀ (l : List Int) (k : Nat) (m m' : List Int), putAll n k m l = some m' → m'.length = m.length
  | [], k, m, m', h => by rw [putAll] at h; injection h with h; rw [h]
  | f :: r, k, m, m', h => by
    rw [putAll] at h
    split at h
    · split at h
      · cases h
      · rw [putAll_len r _ _ _ h, List.length_set]
    · exact putAll_len r _ _ _ h
/-- the bit of flow j, if it is among l -/
def bitAt (n : Int) : Nat → List Int → Int → Int
  | _, [], _ => 0
  | k, f :: r, j => if f = j then bitK n k else bitAt n (k + 1) r j
theorem bitAt_no {n : Int} : ∀ (l : List Int) (k : Nat) (j : Int), j ∉ l → bitAt n k l j = 0
  | [], k, j, _ => rfl
  | f :: r, k, j, h => by
    rw [bitAt, if_neg (fun e => h (by simp [e])), bitAt_no r _ j (fun hm => h (by simp [hm]))]
theorem bitK_01 (n : Int) (k : Nat) : bitK n k = 0 ∨ bitK n k = 1 := by unfold bitK; omega
/-- puts: each place within its bound -/
theorem putAll_get {n : Int} : ∀ (l : List Int) (k : Nat) (m : List Int), inL m.length l → l.Nodup →
    ((∀ x ∈ l, m.getD x.toNat 0 + bitAt n k l x ≤ 9 ∨ bitAt n k l x = 0) → ∃ m', putAll n k m l = some m' ∧ ∀ j : Nat, m'.getD j 0 = m.getD j 0 + bitAt n k l (j : Int)) ∧
    (∀ m', putAll n k m l = some m' → ∀ x ∈ l, m.getD x.toNat 0 + bitAt n k l x ≤ 9 ∨ bitAt n k l x = 0)
  | [], k, m, _, _ => ⟨fun _ => ⟨m, rfl, fun j => by simp [bitAt]⟩, fun _ _ x hx => by cases hx⟩
  | f :: r, k, m, hl, hd => by
    rw [List.nodup_cons] at hd
    have hf := hl f (by simp)
    have hlr : inL m.length r := fun x hx => hl x (by simp [hx])
    have hbf : bitAt n k (f :: r) f = bitK n k := by rw [bitAt, if_pos rfl]
    have hbx : ∀ x, x ≠ f → bitAt n k (f :: r) x = bitAt n (k + 1) r x := fun x h => by rw [bitAt, if_neg (fun e => h e.symm)]
    have hxr : ∀ x ∈ r, x ≠ f := fun x hx e => hd.1 (e ▸ hx)
    rcases bitK_01 n k with hb | hb
    · have ih := putAll_get (n := n) r (k + 1) m hlr hd.2
      have he : putAll n k m (f :: r) = putAll n (k + 1) m r := by rw [putAll, if_neg (by omega)]
      rw [he]
      refine ⟨fun h => ?_, fun m' h x hx => ?_⟩
      · obtain ⟨m', h1, h2⟩ := ih.1 (fun x hx => by have := h x (by simp [hx]); rwa [hbx x (hxr x hx)] at this)
        refine ⟨m', h1, fun j => ?_⟩
        rw [h2 j]
        by_cases e : (j : Int) = f
        · rw [e, hbf, hb, bitAt_no r _ f hd.1]
        · rw [hbx _ e]
      · rcases List.mem_cons.1 hx with rfl | hx
        · right; rw [hbf, hb]
        · rw [hbx x (hxr x hx)]; exact ih.2 m' h x hx
    · have hset : ∀ x : Int, 0 ≤ x → x ≠ f → (m.set f.toNat (m.getD f.toNat 0 + 1)).getD x.toNat 0 = m.getD x.toNat 0 := fun x h0 h => by
        rw [getDset (by omega), if_neg (by omega)]
      have ih := putAll_get (n := n) r (k + 1) (m.set f.toNat (m.getD f.toNat 0 + 1)) (fun x hx => by rw [List.length_set]; exact hlr x hx) hd.2
      have he : putAll n k m (f :: r) = if m.getD f.toNat 0 + 1 > 9 then none else putAll n (k + 1) (m.set f.toNat (m.getD f.toNat 0 + 1)) r := by rw [putAll, if_pos hb]
      rw [he]
      refine ⟨fun h => ?_, fun m' h x hx => ?_⟩
      · have h9 : ¬ m.getD f.toNat 0 + 1 > 9 := by
          have := h f (by simp)
          rw [hbf, hb] at this
          omega
        rw [if_neg h9]
        obtain ⟨m', h1, h2⟩ := ih.1 (fun x hx => by
          have := h x (by simp [hx])
          rw [hbx x (hxr x hx)] at this
          rwa [hset x (hlr x hx).1 (hxr x hx)])
        refine ⟨m', h1, fun j => ?_⟩
        rw [h2 j]
        by_cases e : (j : Int) = f
        · rw [getDset (by omega), if_pos (by omega), e, hbf, hb, bitAt_no r _ f hd.1]
          have : f.toNat = j := by omega
          rw [this]; omega
        · have := hset (j : Int) (by omega) e
          rw [Int.toNat_natCast] at this
          rw [hbx _ e, this]
      · split at h
        · cases h
        · rename_i h9
          rcases List.mem_cons.1 hx with rfl | hx
          · left; rw [hbf, hb]; omega
          · rw [hbx x (hxr x hx)]
            have := ih.2 m' h x hx
            rwa [hset x (hlr x hx).1 (hxr x hx)] at this
/- SUMS -/
theorem sum_set : ∀ (m : List Int) (i : Nat) (v : Int), i < m.length → (m.set i v).sum = m.sum - m.getD i 0 + v
  | [], i, v, h => by cases h
  | a :: r, 0, v, _ => by simp [List.getD_eq_getElem?_getD]; omega
  | a :: r, i + 1, v, h => by
    have := sum_set r i v (by simpa using h)
    simp only [List.set_cons_succ, List.sum_cons, List.getD_cons_succ, this]; omega
/-- how many are taken off l -/
def tookN (s : LStep) (m : List Int) (l : List Int) : Int := (l.map fun f => m.getD f.toNat 0 - takes m s f).sum
theorem takeAll_sum {s : LStep} : ∀ (l : List Int) (m : List Int), inL m.length l → l.Nodup → (takeAll s m l).sum = m.sum - tookN s m l
  | [], m, _, _ => by simp [takeAll, tookN]
  | f :: r, m, hl, hd => by
    rw [List.nodup_cons] at hd
    have hf := hl f (by simp)
    have ih := takeAll_sum (s := s) r (m.set f.toNat (takes m s f)) (fun x hx => by rw [List.length_set]; exact hl x (by simp [hx])) hd.2
    have ht : tookN s (m.set f.toNat (takes m s f)) r = tookN s m r := by
      unfold tookN
      congr 1
      apply List.map_congr_left
      intro x hx
      have hx0 := (hl x (by simp [hx])).1
      have hne : x ≠ f := fun e => hd.1 (e ▸ hx)
      have e1 : (m.set f.toNat (takes m s f)).getD x.toNat 0 = m.getD x.toNat 0 := by rw [getDset (by omega), if_neg (by omega)]
      rw [e1, takes_eq e1]
    rw [takeAll, ih, ht, sum_set m f.toNat _ (by omega)]
    unfold tookN
    simp only [List.map_cons, List.sum_cons]; omega
/-- how many are put -/
def putN (n : Int) (k c : Nat) : Int := ((List.range c).map fun i => bitK n (k + i)).sum
theorem putN_succ {n : Int} {k c : Nat} : putN n k (c + 1) = bitK n k + putN n (k + 1) c := by
  unfold putN
  rw [List.range_succ_eq_map, List.map_cons, List.sum_cons, List.map_map]
  congr 1
  congr 1
  apply List.map_congr_left
  intro i _
  show bitK n (k + (i + 1)) = bitK n (k + 1 + i)
  congr 1; omega
theorem putN_last {n : Int} {c : Nat} : putN n 0 (c + 1) = putN n 0 c + bitK n c := by
  unfold putN
  rw [List.range_succ, List.map_append, List.sum_append]; simp
theorem putAll_sum {n : Int} : ∀ (l : List Int) (k : Nat) (m m' : List Int), inL m.length l → putAll n k m l = some m' → m'.sum = m.sum + putN n k l.length
  | [], k, m, m', _, h => by rw [putAll] at h; injection h with h; subst h; simp [putN]
  | f :: r, k, m, m', hl, h => by
    have hf := hl f (by simp)
    have hlr : inL m.length r := fun x hx => hl x (by simp [hx])
    rw [List.length_cons, putN_succ]
    rw [putAll] at h
    split at h
    · rename_i hb
      split at h
      · cases h
      · have := putAll_sum r _ _ _ (fun x hx => by rw [List.length_set]; exact hlr x hx) h
        rw [this, sum_set m f.toNat _ (by omega), hb]; omega
    · rename_i hb
      have := putAll_sum r _ _ _ hlr h
      have := bitK_01 n k
      omega
theorem map1_sum : ∀ l : List Int, (l.map fun _ => (1 : Int)).sum = l.length
  | [] => rfl
  | a :: r => by rw [List.map_cons, List.sum_cons, map1_sum r, List.length_cons]; omega
theorem map01_sum {a : Int} : ∀ l : List Int, l.Nodup → (l.map fun f => if a = f then (1 : Int) else 0).sum = if a ∈ l then 1 else 0
  | [], _ => by simp
  | f :: r, hd => by
    rw [List.nodup_cons] at hd
    rw [List.map_cons, List.sum_cons, map01_sum r hd.2]
    by_cases e : a = f
    · subst e
      rw [if_pos rfl, if_neg hd.1, if_pos (by simp)]; rfl
    · rw [if_neg e]
      by_cases hm : a ∈ r
      · rw [if_pos hm, if_pos (by simp [hm])]; omega
      · rw [if_neg hm, if_neg (by simp [hm, e])]; rfl
/-- what is taken: one, or all -/
theorem took_one {s : LStep} {m l : List Int} (hd : l.Nodup) (h0 : 0 ≤ s.2.1) (hm : s.2.1 ∈ l) : tookN s m l = 1 := by
  have := map01_sum (a := s.2.1) l hd
  rw [if_pos hm] at this
  rw [← this]
  unfold tookN
  congr 1
  apply List.map_congr_left
  intro f _
  unfold takes
  by_cases e : s.2.1 = f
  · rw [if_pos (.inl e), if_pos e]; omega
  · rw [if_neg (by rintro (h | ⟨h, _⟩); exact e h; omega), if_neg e]; omega
theorem took_all {s : LStep} {m l : List Int} (h0 : s.2.1 < 0) (hm : ∀ f ∈ l, m.getD f.toNat 0 > 0) : tookN s m l = l.length := by
  rw [← map1_sum]
  unfold tookN
  congr 1
  apply List.map_congr_left
  intro f hf
  unfold takes
  rw [if_pos (.inr ⟨h0, hm f hf⟩)]; omega
end Go.Proofs.Ythojdcbpglipeaa
