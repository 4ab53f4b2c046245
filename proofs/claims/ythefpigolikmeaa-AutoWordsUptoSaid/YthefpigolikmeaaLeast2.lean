/-
  lasso.Least walked.
-/
import Derived.Test.YthefpigolikmeaaLeast
set_option linter.unusedVariables false
set_option linter.unusedSimpArgs false
namespace Go.Proofs.Ythefpigolikmeaa
open Go.RowKit

instance iLeast2a : IsF Try.prog 87 := ⟨_, Try.func87, rfl, by decide⟩
def leastE (s l : List Nat) : LWord := if chkW s l ≠ 0 then ([], []) else leastL s l
theorem Least_okF (w0 : World) {so lo : Option Addr} {sc lc : Nat} {s l : List Nat} (hs : Sl w0 (Old w0) so sc s) (hl : Sl w0 (Old w0) lo lc l) :
    Rt Try.prog 87 [wordV so sc lo lc s l].toArray w0 fun v w' => ∃ x, v = .tuple ⟨[x, .int .i64 (chkW s l)]⟩ ∧ Rd w' (fun b => w0.heap.size ≤ b ∧ b < w'.heap.size) x (leastE s l) ∧ Ext w0 w' := by
  refine Rt.enter1 Try.func87 Try.ntmps87 rfl rfl ?_
  (repeat (first | (apply CW.seq) | (apply CW.region)))
  refine WL.boxB rfl rfl rfl fun w1 hb1 hE1 => ?_
  skip
  refine WL.alloc rfl rfl (fun w2 hr hE2 => ?_)
  have hb2 := hb1.ext hE2
  have hE2 := hE1.trans hE2
  have hsz := hE1.size
  (repeat (first | (apply WL.pure; rfl; rfl; rfl) | (apply WL.nil) | (apply EX.thenN) | (apply CW.seq) | (apply CW.region) | (apply WL.ldA; rfl; rfl; rfl; assumption; rfl)))
  refine WL.call rfl rfl rfl (lassoCheck w2 hs.len63 hl.len63) ?_
  rintro _ w3 ⟨rfl, e3⟩
  have hb3 := hb2.ext e3
  have hr3 := hr.ext e3
  have hE3 := hE2.trans e3
  unfold leastE
  (repeat (first | (apply WL.pure; rfl; rfl; rfl) | (apply WL.nil) | (apply EX.thenN) | (apply CW.seq) | (apply CW.region)))
  refine CW.cond rfl (fun h => ?_) (fun h => ?_)
  · have h : chkW s l ≠ 0 := by simpa using h
    rw [if_pos h]
    (repeat (first | (apply CW.seq) | (apply CW.region)))
    refine WL.build (parts := []) rfl rfl rfl rfl ?_
    (repeat (apply WL.pure; rfl; rfl; rfl))
    refine WL.st rfl rfl rfl hr3 rfl rfl (ones_of rfl) (fun w4 hr4 hg4 => ?_)
    have hE4 : Ext w0 w4 := hE3.grown hg4 hE3.size (fun g hg => by cases hg; omega)
    (repeat (first | (apply WL.pure; rfl; rfl; rfl) | (apply WL.nil) | (apply EX.thenN) | (apply CW.ret) | (apply EX.thenR)))
    exact EX.retC2 rfl rfl rfl hr4 rfl ⟨_, rfl, Rd.mkPr (rd_mkSl (Sl.zero _ _)) (rd_mkSl (Sl.zero _ _)), hE4⟩
  have h : chkW s l = 0 := by simpa using h
  rw [if_neg (by simp [h])]
  have k := chkW_ok h
  (repeat (first | (apply EX.thenN) | (apply CW.seq) | (apply CW.region) | (apply WL.ldA; rfl; rfl; rfl; assumption; rfl) | (apply CW.skip)))
  refine WL.call rfl rfl rfl (least_ok w3 (hs.at hE3) (hl.at hE3) (fun b hb => Nat.lt_of_lt_of_le hb hE3.size) k.2 (by omega)) ?_
  rintro v w4 ⟨h4, e4⟩
  have hr4 := hr3.ext e4
  have hE4 := hE3.trans e4
  have hlt := hr3.lt
  obtain ⟨xo, xc, yo, yc, rfl, hx, hy⟩ := h4.word
  skip
  refine WL.st rfl rfl rfl hr4 rfl rfl (ones_of rfl) (fun w5 hr5 hg5 => ?_)
  have hE5 : Ext w0 w5 := hE4.grown hg5 hE4.size (fun g hg => by cases hg; omega)
  have hF : ∀ b, (w3.heap.size ≤ b ∧ b < w4.heap.size) → w5.heap[b]? = w4.heap[b]? := fun b hb => hg5.block b hb.2 (fun e => by cases e; omega)
  have hO : ∀ b, (w3.heap.size ≤ b ∧ b < w4.heap.size) → (w0.heap.size ≤ b ∧ b < w5.heap.size) := fun b hb => ⟨Nat.le_trans hE3.size hb.1, Nat.lt_of_lt_of_le hb.2 hg5.size⟩
  rw [h]
  (repeat (first | (apply WL.pure; rfl; rfl; rfl) | (apply WL.nil) | (apply EX.thenN) | (apply CW.ret)))
  exact EX.retC2 rfl rfl rfl hr5 rfl ⟨_, rfl, Rd.mkPr (rd_mkSl (hx.mono hF hO)) (rd_mkSl (hy.mono hF hO)), hE5⟩
theorem Least_ok (w0 : World) {so lo : Option Addr} {sc lc : Nat} {s l : List Nat} (hs : Sl w0 (Old w0) so sc s) (hl : Sl w0 (Old w0) lo lc l) :
    Rt Try.prog 87 [wordV so sc lo lc s l].toArray w0 fun v w' => ∃ x, v = .tuple ⟨[x, .int .i64 (chkW s l)]⟩ ∧ Rd w' (Old w') x (leastE s l) ∧ Ext w0 w' :=
  (Least_okF w0 hs hl).mono fun v w' ⟨x, h1, h2, h3⟩ => ⟨x, h1, h2.mono (fun _ _ => rfl) (fun b hb => hb.2), h3⟩
end Go.Proofs.Ythefpigolikmeaa
