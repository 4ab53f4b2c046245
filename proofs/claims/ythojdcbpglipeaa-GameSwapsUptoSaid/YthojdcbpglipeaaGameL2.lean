/-
  Tokens: a walk by dice: each marking is one, each step is enabled and leads on.
-/
import Derived.Test.YthojdcbpglipeaaGameL
set_option linter.unusedVariables false
set_option linter.unusedSimpArgs false
namespace Go.Proofs.Ythojdcbpglipeaa

def MarkOk (p : LProc) (m : List Int) : Prop := m.length = p.2.length ∧ ∀ j : Nat, 0 ≤ m.getD j 0 ∧ m.getD j 0 ≤ 9
theorem markOk_chk {p : LProc} {m : List Int} (hz : (stepsE p).2 = 0) (h : MarkOk p m) : chkM p m = 0 := by
  unfold chkM
  rw [if_neg (by simp [hz]), if_neg]
  rintro (e | e)
  · exact e h.1
  · obtain ⟨x, hx, ht⟩ := List.any_eq_true.1 e
    obtain ⟨j, hj, rfl⟩ := List.mem_iff_getElem.1 hx
    have := h.2 j
    rw [getDm_at hj] at this
    unfold tokB at ht
    simp at ht
    omega
theorem chk_markOk {p : LProc} {m : List Int} (h : chkM p m = 0) : MarkOk p m := by
  obtain ⟨_, h1, h2, _⟩ := chkM_ok h
  have h3 := tokI_of h2
  refine ⟨h1, fun j => ?_⟩
  by_cases hj : j < m.length
  · rw [getDm_at hj]; have := h3 j hj; omega
  · rw [List.getD_eq_getElem?_getD, List.getElem?_eq_none (by omega)]
    exact ⟨Int.le_refl _, by decide⟩
theorem begin_ok {p : LProc} : MarkOk p (beginL p) := by
  refine ⟨by simp [beginL], fun j => ?_⟩
  by_cases hj : j < (beginL p).length
  · rw [getDm_at hj]
    have e : (beginL p)[j] = if kindAt p (p.2[j]'(by simpa [beginL] using hj)).1.toNat = 1 then 1 else 0 := by simp [beginL]
    rw [e]
    split <;> omega
  · rw [List.getD_eq_getElem?_getD, List.getElem?_eq_none (by omega)]
    exact ⟨Int.le_refl _, by decide⟩
def StepAt (p : LProc) (m : List Int) (k : Int) (m' : List Int) : Prop :=
  0 ≤ k ∧ k < (stepsL p).length ∧ enabledP p m ((stepsL p).getD k.toNat (0, 0, 0)) = true ∧ fireP p m ((stepsL p).getD k.toNat (0, 0, 0)) = some m'
theorem fireE_ok {p : LProc} {m : List Int} {k : Int} (h : (fireE p m k).2 = 0) : chkM p m = 0 ∧ StepAt p m k (fireE p m k).1 := by
  unfold fireE at h ⊢
  split at h
  · rename_i h1; exact absurd h h1
  · rename_i h1
    split at h
    · cases h
    · rename_i h2
      split at h
      · cases h
      · rename_i h3
        rw [if_neg h1, if_neg h2, if_neg h3]
        refine ⟨by simpa using h1, by omega, by omega, by simpa using h3, ?_⟩
        dsimp only at h ⊢
        cases e : fireP p m ((stepsL p).getD k.toNat (0, 0, 0)) with
        | none => rw [e] at h; cases h
        | some r => rfl
theorem takes_range {m : List Int} {s : LStep} {f : Int} (h0 : 0 ≤ m.getD f.toNat 0) (h9 : m.getD f.toNat 0 ≤ 9) (hp : s.2.1 = f → m.getD f.toNat 0 > 0) : 0 ≤ takes m s f ∧ takes m s f ≤ 9 := by
  unfold takes
  split
  · rename_i h
    rcases h with h | h
    · have := hp h; omega
    · omega
  · exact ⟨h0, h9⟩
theorem bitAt_01 {n : Int} : ∀ (l : List Int) (k : Nat) (j : Int), 0 ≤ bitAt n k l j ∧ bitAt n k l j ≤ 1
  | [], k, j => ⟨Int.le_refl _, (by decide : (0 : Int) ≤ 1)⟩
  | f :: r, k, j => by
    rw [bitAt]
    split
    · have := bitK_01 n k; omega
    · exact bitAt_01 r _ j
theorem fire_next {p : LProc} {m m' : List Int} {s : LStep} (hm : MarkOk p m) (hen : enabledP p m s = true) (h : fireP p m s = some m') : MarkOk p m' := by
  unfold fireP at h
  split at h
  · injection h with h
    subst h
    refine ⟨by simpa using hm.1, fun j => ?_⟩
    by_cases hj : j < m.length
    · rw [getDm_at (by simpa using hj), List.getElem_map]; omega
    · rw [List.getD_eq_getElem?_getD, List.getElem?_eq_none (by simpa using hj)]
      exact ⟨Int.le_refl _, by decide⟩
  · have hil : inL m.length (insL p.2 s.1) := by rw [hm.1]; exact inL_ins
    have hg := takeAll_get (s := s) (insL p.2 s.1) m hil insL_nodup
    have hTl : (takeAll s m (insL p.2 s.1)).length = m.length := takeAll_len _ _
    have hol : inL (takeAll s m (insL p.2 s.1)).length (outsL p.2 s.1) := by rw [hTl, hm.1]; exact inL_outs
    have hP := putAll_get (n := s.2.2) (outsL p.2 s.1) 0 _ hol outsL_nodup
    have hb := hP.2 m' h
    obtain ⟨m2, h1, h2⟩ := hP.1 hb
    rw [h] at h1
    injection h1 with h1
    subst h1
    have hT : ∀ j : Nat, 0 ≤ (takeAll s m (insL p.2 s.1)).getD j 0 ∧ (takeAll s m (insL p.2 s.1)).getD j 0 ≤ 9 := fun j => by
      rw [hg j]
      have hmj := hm.2 j
      split
      · refine takes_range (by rw [Int.toNat_natCast]; exact hmj.1) (by rw [Int.toNat_natCast]; exact hmj.2) (fun e => ?_)
        unfold enabledP at hen
        rw [if_pos (by omega), e] at hen
        simpa using hen
      · exact hmj
    refine ⟨by rw [putAll_len _ _ _ _ h, hTl]; exact hm.1, fun j => ?_⟩
    rw [h2 j]
    have h3 := hT j
    have h4 := bitAt_01 (n := s.2.2) (outsL p.2 s.1) 0 (j : Int)
    by_cases hj : (j : Int) ∈ outsL p.2 s.1
    · have h5 := hb _ hj
      rw [Int.toNat_natCast] at h5
      omega
    · have h5 := bitAt_no (n := s.2.2) (outsL p.2 s.1) 0 (j : Int) hj
      omega
theorem walkGo_ok {p : LProc} : ∀ (dice : List Int) (m : List Int), MarkOk p m →
    (walkGo p dice m).1.length = (walkGo p dice m).2.length ∧ (∀ i, i < (walkGo p dice m).2.length → StepAt p ((m :: (walkGo p dice m).1).getD i []) ((walkGo p dice m).2.getD i 0) ((m :: (walkGo p dice m).1).getD (i + 1) [])) ∧ ∀ x ∈ (walkGo p dice m).1, MarkOk p x
  | [], m, _ => ⟨rfl, fun i h => absurd h (by simp [walkGo]), fun x hx => by simp [walkGo] at hx⟩
  | d :: r, m, hm => by
    rw [walkGo]
    split
    · exact ⟨rfl, fun i h => absurd h (by simp), fun x hx => by simp at hx⟩
    · split
      · exact ⟨rfl, fun i h => absurd h (by simp), fun x hx => by simp at hx⟩
      · rename_i h1 h2
        have h2 : (fireE p m (pickD d (canE p m))).2 = 0 := by simpa using h2
        obtain ⟨_, hst⟩ := fireE_ok h2
        have hn := fire_next hm hst.2.2.1 hst.2.2.2
        obtain ⟨i1, i2, i3⟩ := walkGo_ok r _ hn
        generalize pickD d (canE p m) = k at *
        generalize (fireE p m k).1 = m1 at *
        refine ⟨by simp [i1], fun i h => ?_, fun x hx => ?_⟩
        · cases i with
          | zero => exact hst
          | succ i => exact i2 i (by simpa using h)
        · rcases List.mem_cons.1 hx with rfl | hx
          · exact hn
          · exact i3 x hx
theorem walked_law {p : LProc} (dice : List Int) (h0 : (walkedP p dice).1 ≠ []) : (stepsE p).2 = 0 ∧ (walkedP p dice).1.length = (walkedP p dice).2.length + 1 ∧
    (∀ i, i < (walkedP p dice).2.length → StepAt p ((walkedP p dice).1.getD i []) ((walkedP p dice).2.getD i 0) ((walkedP p dice).1.getD (i + 1) [])) ∧ ∀ x ∈ (walkedP p dice).1, MarkOk p x := by
  unfold walkedP at h0 ⊢
  split at h0
  · exact absurd rfl h0
  · rename_i hz
    rw [if_neg hz]
    obtain ⟨i1, i2, i3⟩ := walkGo_ok dice (beginL p) begin_ok
    refine ⟨by simpa using hz, by simp [i1], i2, fun x hx => ?_⟩
    rcases List.mem_cons.1 hx with rfl | hx
    · exact begin_ok
    · exact i3 x hx
/-- the sum of the tokens -/
theorem step_sum {p : LProc} {m m' : List Int} {k : Int} {n : Nat} (hm : MarkOk p m) (h : StepAt p m k m') (hn : n < p.1.length) (hsn : (stepsL p).getD k.toNat (0, 0, 0) ∈ stepsN p n) (h7 : kindAt p n ≠ 7) (h3 : kindAt p n ≠ 3) :
    m'.sum = m.sum - (if kindAt p n = 6 then ((insL p.2 (n : Int)).length : Int) else 1) + putN ((stepsL p).getD k.toNat (0, 0, 0)).2.2 0 (outsL p.2 (n : Int)).length := by
  obtain ⟨_, _, hen, hf⟩ := h
  generalize (stepsL p).getD k.toNat (0, 0, 0) = s at *
  have q1 := stepsK_node _ hsn
  unfold fireP at hf
  rw [q1, Int.toNat_natCast, if_neg h3] at hf
  have hil : inL m.length (insL p.2 (n : Int)) := by rw [hm.1]; exact inL_ins
  have hTl : (takeAll s m (insL p.2 (n : Int))).length = m.length := takeAll_len _ _
  have hol : inL (takeAll s m (insL p.2 (n : Int))).length (outsL p.2 (n : Int)) := by rw [hTl, hm.1]; exact inL_outs
  rw [putAll_sum _ _ _ _ hol hf, takeAll_sum _ _ hil insL_nodup]
  congr 2
  unfold stepsN stepsK at hsn
  unfold enabledP at hen
  rw [q1, Int.toNat_natCast] at hen
  split at hsn
  · rename_i hk
    obtain ⟨f, hfm, rfl⟩ := List.mem_map.1 hsn
    rw [if_neg (by omega)]
    exact took_one insL_nodup (inL_ins f hfm).1 hfm
  split at hsn
  · rename_i hk
    obtain ⟨f, hfm, hsn⟩ := List.mem_flatMap.1 hsn
    obtain ⟨j, _, rfl⟩ := List.mem_map.1 hsn
    rw [if_neg (by omega)]
    exact took_one insL_nodup (inL_ins f hfm).1 hfm
  split at hsn
  · rename_i hk
    rw [List.mem_singleton] at hsn
    subst hsn
    rw [if_pos hk]
    refine took_all (by dsimp only; decide) (fun f hfm => ?_)
    dsimp only at hen
    rw [if_neg (by decide), if_neg (by omega), Bool.not_eq_true', List.any_eq_false] at hen
    have h1 := hen f hfm
    have h2 := hm.2 f.toNat
    have h3 : m.getD f.toNat 0 ≠ 0 := by simpa using h1
    omega
  cases hsn
end Go.Proofs.Ythojdcbpglipeaa
