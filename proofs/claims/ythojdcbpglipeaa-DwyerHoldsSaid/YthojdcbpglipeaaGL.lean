/-
  Formulas all of whose blocks lie at B or behind.
-/
import Derived.Test.YthojdcbpglipeaaPushW
set_option linter.unusedVariables false
set_option linter.unusedSimpArgs false
namespace Go.Proofs.Ythojdcbpglipeaa
open Go.RowKit

abbrev GL (B : Nat) (w : World) (v : Value) (t : Ltl) : Prop := Rd w (fun b => B ≤ b ∧ b < w.heap.size) v t
theorem GL.ext {B : Nat} {w w' : World} {v : Value} {t : Ltl} (h : GL B w v t) (hE : Ext w w') : GL B w' v t := (Rd.up0 h hE (fun b hb => hb.2)).wk (fun b hb => ⟨hb.1, Nat.lt_of_lt_of_le hb.2 hE.size⟩)
theorem GL.st {B r : Nat} {w w' : World} {v : Value} {t : Ltl} (h : GL B w v t) (hg : w.grownBy w' (some r)) (hr : r < B) : GL B w' v t :=
  (Rd.kept h hg (fun b hb => ⟨hb.2, fun e => by have := Option.some.inj e; have := hb.1; omega⟩)).wk (fun b hb => ⟨hb.1, Nat.lt_of_lt_of_le hb.2 hg.size⟩)
theorem GL.low {B B' : Nat} {w : World} {v : Value} {t : Ltl} (h : GL B w v t) (hB : B' ≤ B) : GL B' w v t := Rd.wk h (fun b hb => ⟨Nat.le_trans hB hb.1, hb.2⟩)
theorem GL.plus {B : Nat} {w w' : World} (hB : B ≤ w.heap.size) (hE : Ext w w') : ∀ b, Plus (fun b => B ≤ b ∧ b < w.heap.size) w w' b → B ≤ b ∧ b < w'.heap.size := fun b hb => by
  have := hE.size
  rcases hb with hb | hb
  · exact ⟨hb.1, by omega⟩
  · exact ⟨by omega, hb.2⟩
theorem GL.old {B : Nat} {w : World} {v : Value} {t : Ltl} (h : GL B w v t) : Rd w (Old w) v t := Rd.wk h (fun b hb => hb.2)
theorem fin_wrap {w w1 w2 w3 w9 : World} {F : Nat → Prop} {v : Value} {t : Ltl} (hv : Rd w3 (Plus F w2 w3) v t) (hg : w3.grownBy w9 (some w1.heap.size)) (hF : ∀ b, F b → b < w.heap.size) (h1 : w.heap.size ≤ w1.heap.size) (h2 : w1.heap.size < w2.heap.size) (h3 : w.heap.size ≤ w2.heap.size) (h4 : w2.heap.size ≤ w3.heap.size) :
    Rd w9 (Plus F w w9) v t := by
  refine (hv.kept hg (fun b hb => ⟨?_, fun e => ?_⟩)).wk (fun b hb => ?_)
  · rcases hb with hb | hb
    · have := hF b hb; omega
    · exact hb.2
  · have := Option.some.inj e
    rcases hb with hb | hb
    · have := hF b hb; omega
    · have := hb.1; omega
  · rcases hb with hb | hb
    · exact .inl hb
    · exact .inr ⟨by have := hb.1; omega, Nat.lt_of_lt_of_le hb.2 hg.size⟩
theorem ret_size {w w' : World} {r : Nat} (h : Ext w w') {w9 : World} (hg : w'.grownBy w9 (some r)) (hr : w.heap.size ≤ r) : Ext w w9 := h.grown hg h.size (fun g hg => by cases hg; exact hr)
end Go.Proofs.Ythojdcbpglipeaa
