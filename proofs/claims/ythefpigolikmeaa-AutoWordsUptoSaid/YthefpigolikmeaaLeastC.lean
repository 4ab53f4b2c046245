/-
  The least form of a word fits.
-/
import Derived.Test.YthefpigolikmeaaLeastPl
set_option linter.unusedVariables false
set_option linter.unusedSimpArgs false
namespace Go.Proofs.Ythefpigolikmeaa
open Go.RowKit

theorem rollGo_len : ∀ (f : Nat) (s l : List Nat), 0 < l.length → (rollGo f s l).1.length ≤ s.length ∧ (rollGo f s l).2.length = l.length
  | 0, s, l, _ => by simp [rollGo]
  | f + 1, s, l, h => by
    unfold rollGo
    split
    · have hl : (l.getD (l.length - 1) 0 :: l.take (l.length - 1)).length = l.length := by rw [List.length_cons, List.length_take]; omega
      have := rollGo_len f (s.take (s.length - 1)) (l.getD (l.length - 1) 0 :: l.take (l.length - 1)) (by omega)
      rw [List.length_take] at this
      exact ⟨by omega, by omega⟩
    · exact ⟨Nat.le_refl _, rfl⟩
theorem leastL_chk {s l : List Nat} (h : chkW s l = 0) : chkW (leastL s l).1 (leastL s l).2 = 0 ∧ leastL (leastL s l).1 (leastL s l).2 = leastL s l := by
  have hW := chkW_ok h
  have sp := leastL_spec (s := s) hW.2
  have hpos := sp.pos
  have h1 : (leastL s l).1.length ≤ s.length ∧ (leastL s l).2.length ≤ l.length := by
    have h := perGo_spec (s := s) hW.2 l.length 1 (by omega) (by omega) (fun d hd hd1 => by omega)
    have hp : (perL l).length ≤ l.length := h.2.2.2
    have := rollGo_len s.length s (perL l) h.1
    exact ⟨this.1, by show (rollGo s.length s (perL l)).2.length ≤ _; omega⟩
  constructor
  · unfold chkW
    rw [if_neg (by omega), if_neg (by omega)]
  · exact leastL_eq hpos hW.2 sp.same
end Go.Proofs.Ythefpigolikmeaa
