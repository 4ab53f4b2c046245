/-
  lasso.Holds; the small makers of formulas.
-/
import Derived.Test.YthojdcbpglipeaaRet
import Derived.Test.YthojdcbpglipeaaLasso3
set_option linter.unusedVariables false
set_option linter.unusedSimpArgs false
namespace Go.Proofs.Ythojdcbpglipeaa
open Go.RowKit

def holdsE (s l : List Nat) (t : Ltl) : List Bool × Int := if (chkF t 1 0).1 ≠ 0 then ([], (chkF t 1 0).1) else if chkW s l ≠ 0 then ([], chkW s l) else (holdsL s l t, 0)
theorem Holds_ok (w : World) {F : Nat → Prop} {t : Ltl} {ao : Option Addr} {cap : Nat} {so lo : Option Addr} {sc lc : Nat} {s l : List Nat} (hk : Sl w F ao cap t.kids) (hs : Sl w F so sc s) (hl : Sl w F lo lc l) (hF : ∀ b, F b → b < w.heap.size) :
    Rt Try.prog 82 [ltlV t.k t.n ao t.kids.length cap, wordV so sc lo lc s l].toArray w fun v w' => ∃ u, v = .tuple ⟨[u, .int .i64 (holdsE s l t).2]⟩ ∧ Own w' w.heap.size 4 Non u (holdsE s l t).1 ∧ Ext w w' := by
  refine Rt.enter2 Try.func82 Try.ntmps82 rfl rfl ?_
  (repeat (first | (apply CW.seq) | (apply CW.region)))
  refine WL.boxB rfl rfl rfl fun w1 hf hE1 => ?_
  refine WL.boxB rfl rfl rfl fun w2 hw hE2 => ?_
  have hf := hf.ext hE2
  have hE2 := hE1.trans hE2
  (repeat (first | (apply WL.pure; rfl; rfl; rfl) | (apply WL.nil) | (apply EX.thenN) | (apply CW.seq) | (apply CW.region) | (apply WL.ldA; rfl; rfl; rfl; assumption; rfl)))
  refine WL.call rfl rfl rfl (ltlCheck w2 (hk.mono (fun b hb => hE2.block b (hF b hb)) fun _ h => h) (fun b hb => Nat.lt_of_lt_of_le (hF b hb) hE2.size)) ?_
  rintro v w3 ⟨rfl, hE3⟩
  have hf := hf.ext hE3
  have hw := hw.ext hE3
  have hE3 := hE2.trans hE3
  (repeat (first | (apply WL.pure; rfl; rfl; rfl) | (apply WL.nil) | (apply EX.thenN) | (apply CW.seq) | (apply CW.region)))
  refine CW.cond rfl (fun h => ?_) (fun h => ?_) <;> simp at h
  · (repeat (first | (apply WL.pure; rfl; rfl; rfl) | (apply WL.nil) | (apply EX.thenN) | (apply CW.seq) | (apply CW.region) | (apply CW.ret) | (apply EX.thenR)))
    have he : holdsE s l t = ([], (chkF t 1 0).1) := by unfold holdsE; rw [if_pos h]
    rw [he]
    exact EX.ret2 rfl rfl rfl ⟨.slice none 0 0, rfl, Own.nil, hE3⟩
  (repeat (first | (apply EX.thenN) | (apply CW.seq) | (apply CW.region) | (apply WL.ldA; rfl; rfl; rfl; assumption; rfl) | (apply CW.skip)))
  refine WL.call rfl rfl rfl (lassoCheck w3 hs.len63 hl.len63) ?_
  rintro v w4 ⟨rfl, hE4⟩
  have hf := hf.ext hE4
  have hw := hw.ext hE4
  have hE4 := hE3.trans hE4
  (repeat (first | (apply WL.pure; rfl; rfl; rfl) | (apply WL.nil) | (apply EX.thenN) | (apply CW.seq) | (apply CW.region)))
  refine CW.cond rfl (fun h1 => ?_) (fun h1 => ?_) <;> simp at h1
  · (repeat (first | (apply WL.pure; rfl; rfl; rfl) | (apply WL.nil) | (apply EX.thenN) | (apply CW.seq) | (apply CW.region) | (apply CW.ret) | (apply EX.thenR)))
    have he : holdsE s l t = ([], chkW s l) := by unfold holdsE; rw [if_neg (by simp [h]), if_pos h1]
    rw [he]
    exact EX.ret2 rfl rfl rfl ⟨.slice none 0 0, rfl, Own.nil, hE4⟩
  have he : holdsE s l t = (holdsL s l t, 0) := by unfold holdsE; rw [if_neg (by simp [h]), if_neg (by simp [h1])]
  (repeat (first | (apply EX.thenN) | (apply CW.seq) | (apply CW.region) | (apply WL.ldA; rfl; rfl; rfl; assumption; rfl) | (apply CW.skip)))
  refine WL.call rfl rfl rfl (holds_ok t.nodes t (Nat.le_refl _) (chkF_wf t 1 0 h) w4 F ao cap so lo sc lc s l (hk.mono (fun b hb => hE4.block b (hF b hb)) fun _ h => h) (hs.mono (fun b hb => hE4.block b (hF b hb)) fun _ h => h) (hl.mono (fun b hb => hE4.block b (hF b hb)) fun _ h => h) (fun b hb => Nat.lt_of_lt_of_le (hF b hb) hE4.size) h1) ?_
  rintro v w5 ⟨ho, hE5⟩
  (repeat (first | (apply WL.pure; rfl; rfl; rfl) | (apply WL.nil) | (apply EX.thenN) | (apply CW.ret)))
  rw [he]
  exact EX.ret2 rfl rfl rfl ⟨v, rfl, ho.low hE4.size, hE4.trans hE5⟩
/-- a formula that stands in memory -/
def RL (w : World) (v : Value) (t : Ltl) : Prop := Rd w (Old w) v t
theorem RL.ext {w w' : World} {v : Value} {t : Ltl} (h : RL w v t) (hE : Ext w w') : RL w' v t := Rd.mono h (fun b hb => hE.block b hb) (fun b hb => Nat.lt_of_lt_of_le hb hE.size)
def Plus (F : Nat → Prop) (w w' : World) : Nat → Prop := fun b => F b ∨ (w.heap.size ≤ b ∧ b < w'.heap.size)
def truthL (s l : List Nat) (t : Ltl) : Bool × Bool := if (holdsE s l t).2 ≠ 0 ∨ (holdsE s l t).1.length = 0 then (false, false) else ((holdsE s l t).1.getD 0 false, true)
theorem truth_ok (w : World) {F : Nat → Prop} {t : Ltl} {ao : Option Addr} {cap : Nat} {so lo : Option Addr} {sc lc : Nat} {s l : List Nat} (hk : Sl w F ao cap t.kids) (hs : Sl w F so sc s) (hl : Sl w F lo lc l) (hF : ∀ b, F b → b < w.heap.size) :
    Rt Try.prog 32 [ltlV t.k t.n ao t.kids.length cap, wordV so sc lo lc s l].toArray w fun v w' => v = .tuple ⟨[.bool (truthL s l t).1, .bool (truthL s l t).2]⟩ ∧ Ext w w' := by
  refine Rt.enter2 Try.func32 Try.ntmps32 rfl rfl ?_
  (repeat (first | (apply CW.seq) | (apply CW.region)))
  refine WL.boxB rfl rfl rfl fun w1 hf hE1 => ?_
  refine WL.boxB rfl rfl rfl fun w2 hw hE2 => ?_
  have hf := hf.ext hE2
  have hE2 := hE1.trans hE2
  (repeat (first | (apply WL.pure; rfl; rfl; rfl) | (apply WL.nil) | (apply EX.thenN) | (apply CW.seq) | (apply CW.region) | (apply WL.ldA; rfl; rfl; rfl; assumption; rfl)))
  refine WL.call rfl rfl rfl (Holds_ok w2 (hk.up0 hE2 hF) (hs.up0 hE2 hF) (hl.up0 hE2 hF) (fun b hb => Nat.lt_of_lt_of_le (hF b hb) hE2.size)) ?_
  rintro v w3 ⟨u, rfl, ho, hE3⟩
  have hE3 := hE2.trans hE3
  unfold truthL
  generalize holdsE s l t = r at *
  obtain ⟨xs, e⟩ := r
  simp only at ho
  (repeat (first | (apply WL.pure; rfl; rfl; rfl) | (apply WL.nil) | (apply EX.thenN) | (apply CW.seq) | (apply CW.region)))
  (refine WL.lookG rfl rfl (fun h => ?_) (fun h => ?_)) <;> simp at h
  · (repeat (first | (apply WL.pure; rfl; rfl; rfl) | (apply WL.nil) | (apply EX.thenN) | (apply CW.seq) | (apply CW.region) | (apply WL.pass; rfl; rfl) | (apply CW.condT; rfl) | (apply CW.ret) | (apply EX.thenR)))
    refine EX.ret2 rfl rfl rfl ⟨?_, hE3⟩
    rw [if_pos (.inl h)]
  · (repeat (first | (apply WL.pure; rfl; rfl; rfl) | (apply WL.nil) | (apply EX.thenN) | (refine WL.lenO rfl rfl rfl (by assumption) ?_)))
    refine CW.cond rfl (fun h1 => ?_) (fun h1 => ?_) <;> simp at h1
    · (repeat (first | (apply WL.pure; rfl; rfl; rfl) | (apply WL.nil) | (apply EX.thenN) | (apply CW.seq) | (apply CW.region) | (apply CW.ret) | (apply EX.thenR)))
      refine EX.ret2 rfl rfl rfl ⟨?_, hE3⟩
      rw [if_pos (.inr (by simp [h1]))]
    · have hp : 0 < xs.length := by cases xs with | nil => exact absurd rfl h1 | cons x r => simp
      (repeat (first | (apply WL.pure; rfl; rfl; rfl) | (apply EX.thenN) | (apply CW.seq) | (apply CW.region) | (apply CW.skip)))
      refine WL.elemON (i := 0) rfl rfl rfl rfl rfl ho hp (fun _ => rfl) (fun q p hq => ?_)
      have hq := hq.bool
      subst hq
      (repeat (first | (apply WL.pure; rfl; rfl; rfl) | (apply WL.nil) | (apply EX.thenN) | (apply CW.ret)))
      refine EX.ret2 rfl rfl rfl ⟨?_, hE3⟩
      rw [if_neg (by simp only; omega)]
      have : xs.getD 0 false = xs[0] := by rw [List.getD_eq_getElem?_getD, List.getElem?_eq_getElem hp]; rfl
      simp only [this]
end Go.Proofs.Ythojdcbpglipeaa
