/-
  Templates: a place at which nothing is seen makes no difference. Plain law.
-/
import Derived.Test.YthojdcbpglipeaaDeclare5
set_option linter.unusedVariables false
set_option linter.unusedSimpArgs false
namespace Go.Proofs.Ythojdcbpglipeaa

/-- what a letter shows -/
def seenX (t : LTpl) (x : Nat) : List (Bool × Bool) := if decide (x >>> 63 &&& 1 = 1) = true then [] else [(decide (x >>> t.2.1.toNat &&& 1 = 1), decide (x >>> t.2.2.1.toNat &&& 1 = 1))]
theorem seenR_X (t : LTpl) (s l : List Nat) (k : Nat) : seenR t s l k = ((List.range k).map (lat s l)).flatMap (seenX t) := by
  rw [List.flatMap_map]; rfl
theorem lat_list (s l : List Nat) : ∀ c : Nat, (List.range (s.length + c * l.length)).map (lat s l) = s ++ (List.replicate c l).flatten
  | 0 => by
    simp only [Nat.zero_mul, Nat.add_zero, List.replicate_zero, List.flatten_nil, List.append_nil]
    refine List.ext_getElem (by simp) fun i h1 h2 => ?_
    rw [List.getElem_map, List.getElem_range]
    unfold lat
    rw [if_pos h2, List.getD_eq_getElem?_getD, List.getElem?_eq_getElem h2]
    rfl
  | c + 1 => by
    rw [Nat.add_mul, Nat.one_mul, ← Nat.add_assoc, List.range_add, List.map_append, lat_list s l c, List.append_assoc]
    congr 1
    rw [List.replicate_succ', List.flatten_append, List.flatten_singleton]
    congr 1
    refine List.ext_getElem (by simp) fun i h1 h2 => ?_
    rw [List.getElem_map, List.getElem_map, List.getElem_range]
    unfold lat
    rw [if_neg (by omega), show s.length + c * l.length + i - s.length = i + l.length * c by rw [Nat.mul_comm]; omega, Nat.add_mul_mod_self_left, Nat.mod_eq_of_lt h2, List.getD_eq_getElem?_getD, List.getElem?_eq_getElem h2]
    rfl
theorem seenR_rep (t : LTpl) (s l : List Nat) (c : Nat) : seenR t s l (s.length + c * l.length) = s.flatMap (seenX t) ++ (List.replicate c (l.flatMap (seenX t))).flatten := by
  rw [seenR_X, lat_list, List.flatMap_append]
  congr 1
  induction c with
  | zero => rfl
  | succ c ih => rw [List.replicate_succ, List.replicate_succ, List.flatten_cons, List.flatten_cons, List.flatMap_append, ih]
theorem silent_ins {t : LTpl} {y : Nat} (hy : y >>> 63 &&& 1 = 1) (l : List Nat) (k : Nat) : (l.take k ++ y :: l.drop k).flatMap (seenX t) = l.flatMap (seenX t) := by
  have h0 : seenX t y = [] := by unfold seenX; rw [if_pos (decide_eq_true hy)]
  rw [List.flatMap_append, List.flatMap_cons, h0, List.nil_append, ← List.flatMap_append, List.take_append_drop]
theorem means_flat {t : LTpl} {s l s' l' : List Nat} (h : chkW s l = 0) (h' : chkW s' l' = 0) (hs : s'.flatMap (seenX t) = s.flatMap (seenX t)) (hl : l'.flatMap (seenX t) = l.flatMap (seenX t)) : meansT t s' l' = meansT t s l := by
  have e : ∀ c, seenR t s' l' (s'.length + c * l'.length) = seenR t s l (s.length + c * l.length) := fun c => by rw [seenR_rep, seenR_rep, hs, hl]
  have e6 : seenR t s' l' (farW s' l') = seenR t s l (farW s l) := by
    have := e 6
    unfold farW
    rwa [show s'.length + l'.length + 5 * l'.length = s'.length + 6 * l'.length by omega, show s.length + l.length + 5 * l.length = s.length + 6 * l.length by omega]
  have e1 := e 1
  rw [Nat.one_mul, Nat.one_mul] at e1
  unfold meansT
  rw [e6, e1, h, h']
theorem means_silent {t : LTpl} {s l s' l' : List Nat} {y k : Nat} (hy : y >>> 63 &&& 1 = 1) (hz : (meansT t s l).2 = 0) (h : s' = s.take k ++ y :: s.drop k ∧ l' = l ∨ s' = s ∧ l' = l.take k ++ y :: l.drop k) :
    (meansT t s' l').2 = 2 ∨ meansT t s' l' = meansT t s l := by
  obtain ⟨hT, hW⟩ := meansT_okk hz
  have hW' := chkW_ok hW
  have hfl : s'.flatMap (seenX t) = s.flatMap (seenX t) ∧ l'.flatMap (seenX t) = l.flatMap (seenX t) ∧ 0 < l'.length := by
    rcases h with ⟨rfl, rfl⟩ | ⟨rfl, rfl⟩
    · exact ⟨silent_ins hy _ _, rfl, hW'.2⟩
    · exact ⟨rfl, silent_ins hy _ _, by simp only [List.length_append, List.length_cons]; omega⟩
  by_cases hc : chkW s' l' = 0
  · exact .inr (means_flat hW hc hfl.1 hfl.2.1)
  · left
    have h2 : chkW s' l' = 2 := by
      unfold chkW at hc ⊢
      split at hc
      · rename_i h; rw [if_pos h]
      · rw [if_neg (show ¬ l'.length = 0 by omega)] at hc
        exact absurd rfl hc
    unfold meansT
    rw [if_neg (by simp [hT]), if_pos (by rw [h2]; decide), h2]
end Go.Proofs.Ythojdcbpglipeaa
