/-
  The cells of a row after an insertion in place. Plain.
-/
import Derived.Test.YthojdcbpglipeaaCopy
set_option linter.unusedVariables false
set_option linter.unusedSimpArgs false
namespace Go.Proofs.Ythojdcbpglipeaa
open Go.RowKit

def ovr {β : Type} (l : List β) (o : Nat) (cs : List β) : List β := l.take o ++ cs ++ l.drop (o + cs.length)
theorem ovr_len {β : Type} {l : List β} {o : Nat} {cs : List β} (h : o + cs.length ≤ l.length) : (ovr l o cs).length = l.length := by
  unfold ovr
  rw [List.length_append, List.length_append, List.length_take, List.length_drop]; omega
theorem ovr_get {β : Type} {l : List β} {o : Nat} {cs : List β} (h : o + cs.length ≤ l.length) (j : Nat) : (ovr l o cs)[j]? = if o ≤ j ∧ j < o + cs.length then cs[j - o]? else l[j]? := by
  have ht : (l.take o).length = o := by rw [List.length_take]; omega
  unfold ovr
  rw [List.append_assoc]
  by_cases h1 : j < o
  · rw [List.getElem?_append_left (by omega), List.getElem?_take_of_lt h1, if_neg (by omega)]
  · rw [List.getElem?_append_right (by omega), ht]
    by_cases h2 : j < o + cs.length
    · rw [List.getElem?_append_left (by omega), if_pos (by omega)]
    · rw [List.getElem?_append_right (by omega), List.getElem?_drop, if_neg (by omega)]
      congr 1
      omega
theorem ins_cells {β : Type} {l : List β} {off n i : Nat} {y : β} (hi : i < n) (hl : off + n + 1 ≤ l.length) :
    ((ovr (ovr l (off + i + 1) (((l.drop off).take n).drop i)) (off + i) [y]).drop off).take (n + 1) = ((l.drop off).take n).take i ++ y :: ((l.drop off).take n).drop i := by
  have hC : ((l.drop off).take n).length = n := by rw [List.length_take, List.length_drop]; omega
  have hD : (((l.drop off).take n).drop i).length = n - i := by rw [List.length_drop, hC]
  have hT : (((l.drop off).take n).take i).length = i := by rw [List.length_take, hC]; omega
  have h1 : (off + i + 1) + (((l.drop off).take n).drop i).length ≤ l.length := by omega
  have h2 : (off + i) + [y].length ≤ (ovr l (off + i + 1) (((l.drop off).take n).drop i)).length := by rw [ovr_len h1]; simp; omega
  apply List.ext_getElem?
  intro j
  by_cases hj : j < n + 1
  · rw [List.getElem?_take_of_lt hj, List.getElem?_drop, ovr_get h2, ovr_get h1, hD]
    by_cases ha : j < i
    · rw [if_neg (by simp; omega), if_neg (by omega), List.getElem?_append_left (by omega), List.getElem?_take_of_lt ha, List.getElem?_take_of_lt (by omega), List.getElem?_drop]
    · rw [List.getElem?_append_right (by omega), hT]
      by_cases hb : j = i
      · subst hb
        rw [if_pos (by simp), Nat.sub_self, Nat.sub_self]; rfl
      · rw [if_neg (by simp; omega), if_pos (by omega), show j - i = (j - i - 1) + 1 by omega, List.getElem?_cons_succ]
        congr 1
        omega
  · rw [List.getElem?_eq_none (by rw [List.length_take]; omega), List.getElem?_eq_none (by rw [List.length_append, List.length_cons, hT, hD]; omega)]
end Go.Proofs.Ythojdcbpglipeaa
