/-
  Package auto: Accepts.
-/
import Derived.Test.YthefpigolikmeaaAuto5
import Derived.Test.YthefpigolikmeaaLeastC
set_option linter.unusedVariables false
set_option linter.unusedSimpArgs false
namespace Go.Proofs.Ythefpigolikmeaa
open Go.RowKit

noncomputable def accF (A : LAuto) (s l : List Nat) : Bool × Int := if chkA A ≠ 0 then (false, chkA A) else if chkW s l ≠ 0 then (false, chkW s l) else (accB A (lat s l), 0)
theorem accB_none {A : LAuto} (h : OkA A) (h0 : A.2.1.length = 0) (L : Nat → Nat) : accB A L = false := by
  rw [← Bool.not_eq_true, accB_iff]
  rintro ⟨r, h1, _⟩
  have := h.st _ h1
  omega
theorem Accepts_ok (w0 : World) {v0 : Value} {A : LAuto} {s l : List Nat} {so lo : Option Addr} {sc lc : Nat} (ha : AutoAt w0 (Old w0) v0 A) (hs : Sl w0 (Old w0) so sc s) (hl : Sl w0 (Old w0) lo lc l)
    (hT : edges A.2.1 + A.1.length ≤ 8589934592) :
    Rt Try.prog 46 [v0, wordV so sc lo lc s l].toArray w0 fun v w' => v = .tuple ⟨[.bool (accF A s l).1, .int .i64 (accF A s l).2]⟩ ∧ Ext w0 w' := by
  have hms := hs.len63
  have hml := hl.len63
  obtain ⟨a1, c1, a2, c2, a3, c3, a4, c4, a5, c5, hv0, h1, h2, h3, h4, h5⟩ := ha.ok
  refine Rt.enter2 Try.func46 Try.ntmps46 rfl rfl ?_
  have hE := Ext.refl w0
  (repeat (first | (apply CW.seq) | (apply CW.region)))
  refine WL.boxB rfl rfl rfl fun w1 hb2 e1 => ?_
  have hE := hE.trans e1
  have z1 := hb2.lt
  skip
  refine WL.boxB rfl rfl rfl fun w2 hb3 e2 => ?_
  have hb2 := hb2.ext e2
  have hE := hE.trans e2
  have z2 := e1.size
  subst hv0
  unfold accF
  (repeat (first | (apply WL.pure; rfl; rfl; rfl) | (apply WL.nil) | (apply EX.thenN) | (apply CW.seq) | (apply CW.region) | (apply WL.ldA; rfl; rfl; rfl; assumption; rfl)))
  refine WL.call rfl rfl rfl (aCheck_ok w2 (A := A) ⟨a1, c1, a2, c2, a3, c3, a4, c4, a5, c5, rfl, h1.up hE, h2.up hE, h3.up hE, h4.up hE, h5.up hE⟩) ?_
  rintro _ w3 ⟨rfl, e3⟩
  have hb2 := hb2.ext e3
  have hb3 := hb3.ext e3
  have hE := hE.trans e3
  (repeat (first | (apply WL.pure; rfl; rfl; rfl) | (apply WL.nil) | (apply EX.thenN) | (apply CW.seq) | (apply CW.region)))
  refine CW.cond rfl (fun h => ?_) (fun h => ?_)
  · have h : chkA A ≠ 0 := by simpa using h
    (repeat (first | (apply WL.pure; rfl; rfl; rfl) | (apply WL.nil) | (apply EX.thenN) | (apply CW.seq) | (apply CW.region) | (apply CW.ret) | (apply EX.thenR)))
    refine EX.ret2 rfl rfl rfl ⟨?_, hE⟩
    rw [if_pos h]
  have hA : chkA A = 0 := by simpa using h
  have hok := chkA_ok hA
  rw [if_neg (by simp [hA])]
  (repeat (first | (apply EX.thenN) | (apply CW.seq) | (apply CW.region) | (apply WL.ldA; rfl; rfl; rfl; assumption; rfl) | (apply CW.skip)))
  refine WL.call rfl rfl rfl (lassoCheck w3 hs.len63 hl.len63) ?_
  rintro _ w4 ⟨rfl, e4⟩
  have hb2 := hb2.ext e4
  have hb3 := hb3.ext e4
  have z3 := hb3.lt
  have hE := hE.trans e4
  (repeat (first | (apply WL.pure; rfl; rfl; rfl) | (apply WL.nil) | (apply EX.thenN) | (apply CW.seq) | (apply CW.region)))
  refine CW.cond rfl (fun h => ?_) (fun h => ?_)
  · have h : chkW s l ≠ 0 := by simpa using h
    (repeat (first | (apply WL.pure; rfl; rfl; rfl) | (apply WL.nil) | (apply EX.thenN) | (apply CW.seq) | (apply CW.region) | (apply CW.ret) | (apply EX.thenR)))
    refine EX.ret2 rfl rfl rfl ⟨?_, hE⟩
    rw [if_pos h]
  have hW : chkW s l = 0 := by simpa using h
  rw [if_neg (by simp [hW])]
  have hk := chkW_ok hW
  (repeat (first | (apply EX.thenN) | (apply CW.seq) | (apply CW.region) | (apply WL.ldA; rfl; rfl; rfl; assumption; rfl) | (apply CW.skip)))
  refine WL.call rfl rfl rfl (Least_okF w4 (hs.up hE) (hl.up hE)) ?_
  rintro _ w5 ⟨x, rfl, hx, e5⟩
  have hb2 := hb2.ext e5
  have hb3 := hb3.ext e5
  have hE := hE.trans e5
  have hle : leastE s l = leastL s l := by unfold leastE; rw [if_neg (by simp [hW])]
  rw [hle] at hx
  have hsp := leastL_spec (s := s) hk.2
  have hck := leastL_chk hW
  generalize leastL s l = sl at hx hsp hck
  obtain ⟨s', l'⟩ := sl
  obtain ⟨so', sc', lo', lc', rfl, hs', hl'⟩ := hx.word
  dsimp only at hs' hl' hsp hck ⊢
  have hk' := chkW_ok hck.1
  (repeat (apply WL.pure; rfl; rfl; rfl))
  refine WL.st rfl rfl rfl hb3 rfl rfl (ones_of rfl) (fun w6 hb3 hg6 => ?_)
  have hb2 := hb2.kept hg6 (by simp; omega)
  have hE6 : Ext w0 w6 := hE.grown hg6 hE.size (fun g hg => by cases hg; exact z2)
  have hz4 := e5.size
  have hF : ∀ b, (w4.heap.size ≤ b ∧ b < w5.heap.size) → w6.heap[b]? = w5.heap[b]? := fun b hb => hg6.block b hb.2 (fun e => by cases e; have := z3; omega)
  have hO : ∀ b, (w4.heap.size ≤ b ∧ b < w5.heap.size) → Old w6 b := fun b hb => Nat.lt_of_lt_of_le hb.2 hg6.size
  have hs6 := hs'.mono hF hO
  have hl6 := hl'.mono hF hO
  (repeat (first | (apply WL.pure; rfl; rfl; rfl) | (apply WL.nil) | (apply EX.thenN) | (apply CW.seq) | (apply CW.region) | (apply WL.lenS; rfl; rfl; rfl) | (apply WL.fa; rfl; rfl; rfl) | (apply WL.ld; rfl; rfl; rfl; assumption; rfl)))
  refine CW.cond rfl (fun h => ?_) (fun h => ?_)
  · have h0 : A.2.1.length = 0 := by simpa using h
    (repeat (first | (apply WL.pure; rfl; rfl; rfl) | (apply WL.nil) | (apply EX.thenN) | (apply CW.seq) | (apply CW.region) | (apply CW.ret) | (apply EX.thenR)))
    refine EX.ret2 rfl rfl rfl ⟨?_, hE6⟩
    rw [accB_none hok h0]
  have h0 : 0 < A.2.1.length := by simp at h; exact Nat.pos_of_ne_zero (fun e => h (List.eq_nil_of_length_eq_zero e))
  (repeat (first | (apply WL.pure; rfl; rfl; rfl) | (apply EX.thenN) | (apply CW.seq) | (apply CW.region) | (apply WL.ldA; rfl; rfl; rfl; assumption; rfl) | (apply CW.skip)))
  refine WL.call rfl rfl rfl (accepts_ok w6 (A := A) ⟨a1, c1, a2, c2, a3, c3, a4, c4, a5, c5, rfl, h1.up hE6, h2.up hE6, h3.up hE6, h4.up hE6, h5.up hE6⟩ hok hs6 hl6 hk'.2 hk'.1 hT h0) ?_
  rintro _ w7 ⟨rfl, e7⟩
  (repeat (first | (apply WL.pure; rfl; rfl; rfl) | (apply WL.nil) | (apply EX.thenN) | (apply CW.ret)))
  refine EX.ret2 rfl rfl rfl ⟨?_, hE6.trans e7⟩
  rw [show lat s' l' = lat s l from funext hsp.same]
end Go.Proofs.Ythefpigolikmeaa
