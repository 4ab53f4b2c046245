/-
  The steps of a process: plain lists, no program in sight.
-/
import Derived.Test.YthojdcbpglipeaaProcPl
set_option linter.unusedVariables false
set_option linter.unusedSimpArgs false
namespace Go.Proofs.Ythojdcbpglipeaa

abbrev LStep := Int × Int × Int
def stepsK (kind n : Int) (ins : List Int) (o : Nat) : List LStep :=
  if kind = 4 ∨ kind = 2 ∨ kind = 3 then ins.map fun f => (n, f, (2 : Int) ^ o - 1)
  else if kind = 5 then ins.flatMap fun f => (List.range o).map fun k : Nat => (n, f, (2 : Int) ^ k)
  else if kind = 6 then [(n, -1, (2 : Int) ^ o - 1)]
  else if kind = 7 then (List.range (2 ^ o - 1)).map fun k : Nat => (n, -1, (k : Int) + 1)
  else []
def kindAt (p : LProc) (n : Nat) : Int := (p.1.getD n (⟨#[]⟩, 0)).2
def stepsN (p : LProc) (n : Nat) : List LStep := stepsK (kindAt p n) (n : Int) (insL p.2 (n : Int)) (outsL p.2 (n : Int)).length
def stepsP (p : LProc) (k : Nat) : List LStep := (List.range k).flatMap (stepsN p)
abbrev stepsL (p : LProc) : List LStep := stepsP p p.1.length
noncomputable def stepsE (p : LProc) : List LStep × Int := if chkPr p ≠ 0 then ([], chkPr p) else if (stepsL p).length > 60 then ([], 2) else (stepsL p, 0)
theorem stepsP_next {p : LProc} {k : Nat} : stepsP p (k + 1) = stepsP p k ++ stepsN p k := by
  unfold stepsP; rw [List.range_succ, List.flatMap_append]; simp
theorem pow_pos2 (o : Nat) : (1 : Int) ≤ 2 ^ o := by
  have := Nat.one_le_two_pow (n := o)
  exact_mod_cast this
theorem pow_le2 {o m : Nat} (h : o ≤ m) : (2 : Int) ^ o ≤ 2 ^ m := by
  have := Nat.pow_le_pow_right (n := 2) (by omega) h
  exact_mod_cast this
theorem pow_lt2 {o m : Nat} (h : o < m) : (2 : Int) ^ o < 2 ^ m := by
  have := Nat.pow_lt_pow_right (a := 2) (by omega) h
  exact_mod_cast this
section
variable {kind n : Int} {ins : List Int} {o : Nat}
theorem stepsK_node : ∀ s ∈ stepsK kind n ins o, s.1 = n := by
  intro s hs
  unfold stepsK at hs
  split at hs
  · obtain ⟨f, _, rfl⟩ := List.mem_map.1 hs; rfl
  split at hs
  · obtain ⟨f, _, hs⟩ := List.mem_flatMap.1 hs
    obtain ⟨k, _, rfl⟩ := List.mem_map.1 hs; rfl
  split at hs
  · rw [List.mem_singleton] at hs; subst hs; rfl
  split at hs
  · obtain ⟨k, _, rfl⟩ := List.mem_map.1 hs; rfl
  · cases hs
theorem stepsK_in : ∀ s ∈ stepsK kind n ins o, s.2.1 = -1 ∨ s.2.1 ∈ ins := by
  intro s hs
  unfold stepsK at hs
  split at hs
  · obtain ⟨f, h, rfl⟩ := List.mem_map.1 hs; exact .inr h
  split at hs
  · obtain ⟨f, h, hs⟩ := List.mem_flatMap.1 hs
    obtain ⟨k, _, rfl⟩ := List.mem_map.1 hs; exact .inr h
  split at hs
  · rw [List.mem_singleton] at hs; subst hs; exact .inl rfl
  split at hs
  · obtain ⟨k, _, rfl⟩ := List.mem_map.1 hs; exact .inl rfl
  · cases hs
theorem stepsK_out : ∀ s ∈ stepsK kind n ins o, 0 ≤ s.2.2 ∧ s.2.2 < 2 ^ o := by
  intro s hs
  have hp := pow_pos2 o
  unfold stepsK at hs
  split at hs
  · obtain ⟨f, h, rfl⟩ := List.mem_map.1 hs; dsimp only; omega
  split at hs
  · obtain ⟨f, h, hs⟩ := List.mem_flatMap.1 hs
    obtain ⟨k, hk, rfl⟩ := List.mem_map.1 hs
    have := pow_lt2 (List.mem_range.1 hk)
    have := pow_pos2 k
    dsimp only; omega
  split at hs
  · rw [List.mem_singleton] at hs; subst hs; dsimp only; omega
  split at hs
  · obtain ⟨k, hk, rfl⟩ := List.mem_map.1 hs
    have hk := List.mem_range.1 hk
    have : ((2 ^ o : Nat) : Int) = (2 : Int) ^ o := by push_cast; rfl
    dsimp only; omega
  · cases hs
theorem stepsK_nodup (h : ins.Nodup) : (stepsK kind n ins o).Nodup := by
  unfold stepsK
  split
  · rw [List.Nodup, List.pairwise_map]
    exact h.imp fun hab e => hab (by injection e with _ e; injection e)
  split
  · rw [List.Nodup, List.pairwise_flatMap]
    refine ⟨fun f _ => ?_, ?_⟩
    · rw [List.pairwise_map]
      refine List.nodup_range.imp fun {a b} hab e => hab ?_
      have e : (2 : Int) ^ a = 2 ^ b := by injection e with _ e; injection e
      rcases Nat.lt_trichotomy a b with h | h | h
      · have := pow_lt2 h; omega
      · exact h
      · have := pow_lt2 h; omega
    · refine h.imp fun {a b} hab x hx y hy e => hab ?_
      obtain ⟨k, _, rfl⟩ := List.mem_map.1 hx
      obtain ⟨j, _, rfl⟩ := List.mem_map.1 hy
      injection e with _ e; injection e
  split
  · simp
  split
  · rw [List.Nodup, List.pairwise_map]
    refine List.nodup_range.imp fun {a b} hab e => hab ?_
    have e : (a : Int) + 1 = b + 1 := by injection e with _ e; injection e
    omega
  · simp
theorem stepsK_len (h : ins.length ≤ 30) (ho : o ≤ 30) (h7 : kind = 7 → o ≤ 4) : (stepsK kind n ins o).length ≤ 900 := by
  unfold stepsK
  split
  · rw [List.length_map]; omega
  split
  · rw [List.length_flatMap]
    have : ∀ l : List Int, (l.map fun f : Int => ((List.range o).map fun k : Nat => ((n, f, (2 : Int) ^ k) : LStep)).length).sum = l.length * o := fun l => by
      induction l with
      | nil => simp
      | cons a l ih => rw [List.map_cons, List.sum_cons, ih, List.length_map, List.length_range, List.length_cons, Nat.add_mul]; omega
    rw [this]
    exact Nat.mul_le_mul h ho
  split
  · simp
  split
  · rename_i h7'
    have := h7 h7'
    rw [List.length_map, List.length_range]
    have : 2 ^ o ≤ 2 ^ 4 := Nat.pow_le_pow_right (by omega) this
    omega
  · simp
end
theorem insL_nodup {fl : List LFlow} {n : Int} : (insL fl n).Nodup := by
  unfold insL insP
  rw [List.Nodup, List.pairwise_map]
  exact (List.nodup_range.filter _).imp fun hab e => hab (by omega)
theorem okPr_outs {p : LProc} (h : OkPr p) {n : Nat} (hn : n < p.1.length) (hk : kindAt p n = 7) : (outsL p.2 (n : Int)).length ≤ 4 := by
  have := h.count n hn
  unfold kindAt at hk
  rw [hk] at this
  unfold countsB at this
  simp at this
  omega
theorem stepsP_len {p : LProc} (h : OkPr p) : ∀ k, k ≤ p.1.length → (stepsP p k).length ≤ 900 * k
  | 0, _ => by simp [stepsP]
  | k + 1, hk => by
    have ih := stepsP_len h k (by omega)
    rw [stepsP_next, List.length_append]
    have h1 : (insL p.2 (k : Int)).length ≤ p.2.length := insP_len
    have h2 : (outsL p.2 (k : Int)).length ≤ p.2.length := outsP_len
    have := h.f
    have := stepsK_len (kind := kindAt p k) (n := (k : Int)) (ins := insL p.2 (k : Int)) (o := (outsL p.2 (k : Int)).length) (by omega) (by omega) (fun h7 => okPr_outs h (by omega) h7)
    unfold stepsN
    omega
theorem stepsP_mem {p : LProc} {k : Nat} {s : LStep} : s ∈ stepsP p k ↔ ∃ n, n < k ∧ s ∈ stepsN p n := by
  unfold stepsP
  rw [List.mem_flatMap]
  exact exists_congr fun n => by rw [List.mem_range]
theorem stepsP_nodup {p : LProc} {k : Nat} : (stepsP p k).Nodup := by
  unfold stepsP
  rw [List.Nodup, List.pairwise_flatMap]
  refine ⟨fun n _ => stepsK_nodup insL_nodup, ?_⟩
  refine List.nodup_range.imp fun {a b} hab x hx y hy e => hab ?_
  have h1 := stepsK_node x hx
  have h2 := stepsK_node y hy
  rw [e] at h1
  omega
/-- each node but the start has a step -/
theorem stepsN_some {p : LProc} (h : OkPr p) {n : Nat} (hn : n < p.1.length) : (stepsN p n ≠ []) ↔ kindAt p n ≠ 1 := by
  have hc := h.count n hn
  have hnd := h.nodes n hn
  have hkk : 1 ≤ kindAt p n ∧ kindAt p n ≤ 7 := by
    unfold nodeE at hnd
    unfold kindAt
    split at hnd
    · cases hnd
    · rename_i hx
      rw [Bool.not_eq_true, Bool.or_eq_false_iff, Bool.or_eq_false_iff, decide_eq_false_iff_not, decide_eq_false_iff_not] at hx
      omega
  unfold stepsN
  unfold kindAt at hkk ⊢
  generalize (p.1.getD n (⟨#[]⟩, 0)).2 = k at *
  generalize insL p.2 (n : Int) = ins at *
  generalize (outsL p.2 (n : Int)).length = o at *
  have hne : ∀ (l : List LStep), l ≠ [] ↔ 0 < l.length := fun l => by cases l <;> simp
  rw [hne]
  unfold countsB at hc
  unfold stepsK
  rcases (show k = 1 ∨ k = 2 ∨ k = 3 ∨ k = 4 ∨ k = 5 ∨ k = 6 ∨ k = 7 by omega) with rfl | rfl | rfl | rfl | rfl | rfl | rfl
  · simp
  · simp at hc; simp; omega
  · simp at hc; simp; omega
  · simp at hc; simp; omega
  · simp at hc
    simp
    obtain ⟨h1, h2⟩ := hc
    obtain ⟨a, r, rfl⟩ := List.exists_cons_of_length_pos h1
    simp; omega
  · simp
  · simp at hc
    simp
    have : 2 ^ 1 ≤ 2 ^ o := Nat.pow_le_pow_right (by omega) (by omega)
    omega
end Go.Proofs.Ythojdcbpglipeaa
