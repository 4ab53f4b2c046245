/-
  watchkeep.ones, ever; slices.Clone at [][]int.
-/
import Derived.Test.YthefpigolikmeaaAuto6
import Derived.Test.YthefpigolikmeaaLitF
set_option linter.unusedVariables false
set_option linter.unusedSimpArgs false
namespace Go.Proofs.Ythefpigolikmeaa
open Go.RowKit

def onesA : LAuto := ([0, 1], [[0, 1], [0, 1]], [1, 0], [0, 1], [[0]])
theorem rdU (w : World) (F : Nat → Prop) (x : Nat) (h : x < 18446744073709551616) : Rd w F (.int .u64 (x : Int)) x := ⟨_, rfl, rd_mkU64 _ _ _ h⟩
theorem ones_ok (w0 : World) : Rt Try.prog 16 [].toArray w0 fun v w' => AutoAt w' (Old w') v onesA ∧ Ext w0 w' := by
  refine Rt.enter0 Try.func16 Try.ntmps16 rfl ?_
  (repeat (first | (apply CW.seq) | (apply CW.region)))
  refine WL.alloc rfl rfl (fun w1 hb hE1 => ?_)
  have hc1 : w0.heap.size + 1 ≤ w1.heap.size := hb.lt
  generalize hcc : w0.heap.size + 1 = c at hc1
  (repeat (first | (apply WL.nil) | (apply EX.thenN) | (apply CW.seq) | (apply CW.region)))
  refine WL.litF c (by omega) [(0 : Int), 1] rfl rfl rfl rfl rfl (.cons (Rd.mkInt _ _ _) (.cons (Rd.mkInt _ _ _) .nil)) (by decide) (fun v2 w2 e2 r2 => ?_)
  have z2 := e2.size
  refine WL.litF c (by omega) [(0 : Int), 1] rfl rfl rfl rfl rfl (.cons (Rd.mkInt _ _ _) (.cons (Rd.mkInt _ _ _) .nil)) (by decide) (fun v3 w3 e3 r3 => ?_)
  have z3 := e3.size
  refine WL.litF c (by omega) [(0 : Int), 1] rfl rfl rfl rfl rfl (.cons (Rd.mkInt _ _ _) (.cons (Rd.mkInt _ _ _) .nil)) (by decide) (fun v4 w4 e4 r4 => ?_)
  have z4 := e4.size
  refine WL.litF c (by omega) [[(0 : Int), 1], [0, 1]] rfl rfl rfl rfl rfl (.cons (r3.upF e4) (.cons r4 .nil)) (by decide) (fun v5 w5 e5 r5 => ?_)
  have z5 := e5.size
  refine WL.litF c (by omega) [(1 : Nat), 0] rfl rfl rfl rfl rfl (.cons (rdU _ _ 1 (by decide)) (.cons (rdU _ _ 0 (by decide)) .nil)) (by decide) (fun v6 w6 e6 r6 => ?_)
  have z6 := e6.size
  refine WL.litF c (by omega) [(0 : Nat), 1] rfl rfl rfl rfl rfl (.cons (rdU _ _ 0 (by decide)) (.cons (rdU _ _ 1 (by decide)) .nil)) (by decide) (fun v7 w7 e7 r7 => ?_)
  have z7 := e7.size
  refine WL.litF c (by omega) [(0 : Int)] rfl rfl rfl rfl rfl (.cons (Rd.mkInt _ _ _) .nil) (by decide) (fun v8 w8 e8 r8 => ?_)
  have z8 := e8.size
  refine WL.litF c (by omega) [[(0 : Int)]] rfl rfl rfl rfl rfl (.cons r8 .nil) (by decide) (fun v9 w9 e9 r9 => ?_)
  replace r2 := r2.upF (e3.trans (e4.trans (e5.trans (e6.trans (e7.trans (e8.trans e9))))))
  replace r5 := r5.upF (e6.trans (e7.trans (e8.trans e9)))
  replace r6 := r6.upF (e7.trans (e8.trans e9))
  replace r7 := r7.upF (e8.trans e9)
  have hb9 := hb.ext (e2.trans (e3.trans (e4.trans (e5.trans (e6.trans (e7.trans (e8.trans e9)))))))
  have hE9 := hE1.trans (e2.trans (e3.trans (e4.trans (e5.trans (e6.trans (e7.trans (e8.trans e9)))))))
  clear r3 r4 r8 e2 e3 e4 e5 e6 e7 e8 e9 hE1
  obtain ⟨a1, c1, rfl, s1⟩ := r2.sl
  obtain ⟨a2, c2, rfl, s2⟩ := r5.sl
  obtain ⟨a3, c3, rfl, s3⟩ := r6.sl
  obtain ⟨a4, c4, rfl, s4⟩ := r7.sl
  obtain ⟨a5, c5, rfl, s5⟩ := r9.sl
  skip
  refine WL.build rfl rfl rfl rfl ?_
  skip
  refine WL.st rfl rfl rfl hb9 rfl rfl (ones_of rfl) (fun w10 hb10 hg10 => ?_)
  have hE10 : Ext w0 w10 := hE9.grown hg10 hE9.size (fun g hg => by cases hg; exact Nat.le_refl _)
  have hF : ∀ b, From c w9 b → w10.heap[b]? = w9.heap[b]? := fun b hb => hg10.block b hb.2 (fun e => by cases e; have := hb.1; omega)
  have hO : ∀ b, From c w9 b → Old w10 b := fun b hb => Nat.lt_of_lt_of_le hb.2 hg10.size
  (repeat (first | (apply WL.nil) | (apply EX.thenN) | (apply CW.ret)))
  exact EX.retC rfl rfl hb10 rfl ⟨⟨a1, c1, a2, c2, a3, c3, a4, c4, a5, c5, rfl, s1.mono hF hO, s2.mono hF hO, s3.mono hF hO, s4.mono hF hO, s5.mono hF hO⟩, hE10⟩
theorem onesA_ok : chkA onesA = 0 := by decide
theorem ones_yes : accF onesA [0] [1, 0] = (true, 0) := by
  unfold accF
  rw [if_neg (by simp [onesA_ok]), if_neg (by decide)]
  have : accB onesA (lat [0] [1, 0]) = true := by
    rw [accB_iff]
    have hL : ∀ i, lat [0] [1, 0] i = i % 2 := by
      intro i
      unfold lat
      split
      · rename_i h; simp at h; subst h; rfl
      · rename_i h
        simp at h
        simp only [List.length_cons, List.length_nil]
        rcases Nat.mod_two_eq_zero_or_one i with h1 | h1
        · rw [h1, show (i - (0 + 1)) % (0 + 1 + 1) = 1 by omega]; rfl
        · rw [h1, show (i - (0 + 1)) % (0 + 1 + 1) = 0 by omega]; rfl
    refine ⟨fun i => (i + 1) % 2, ?_, ?_, ?_, ?_⟩
    · show ((0 + 1) % 2 : Int) ∈ [(0 : Int), 1]; decide
    · intro i
      rw [hL]
      show fitB [1, 0] [0, 1] ((i + 1) % 2) (i % 2) = true
      rcases Nat.mod_two_eq_zero_or_one i with h1 | h1
      · rw [h1, show (i + 1) % 2 = 1 by omega]; decide
      · rw [h1, show (i + 1) % 2 = 0 by omega]; decide
    · intro i
      show (((i + 1 + 1) % 2 : Nat) : Int) ∈ ([[0, 1], [0, 1]] : List (List Int)).getD ((i + 1) % 2) []
      rcases Nat.mod_two_eq_zero_or_one i with h1 | h1
      · rw [show (i + 1) % 2 = 1 by omega, show (i + 1 + 1) % 2 = 0 by omega]; decide
      · rw [show (i + 1) % 2 = 0 by omega, show (i + 1 + 1) % 2 = 1 by omega]; decide
    · intro F hF i
      have : F = [0] := by simpa [onesA] using hF
      subst this
      refine ⟨2 * i + 1, by omega, ?_⟩
      show (((2 * i + 1 + 1) % 2 : Nat) : Int) ∈ [(0 : Int)]
      rw [show (2 * i + 1 + 1) % 2 = 0 by omega]; decide
  rw [this]
theorem ones_no : accF onesA [1] [0] = (false, 0) := by
  unfold accF
  rw [if_neg (by simp [onesA_ok]), if_neg (by decide)]
  have : accB onesA (lat [1] [0]) = false := by
    rw [← Bool.not_eq_true, accB_iff]
    rintro ⟨r, h1, h2, h3, h4⟩
    obtain ⟨j, hj, hm⟩ := h4 [0] (by simp [onesA]) 1
    have hr : r j = 0 := by simp at hm; omega
    have := h2 j
    have hL : lat [1] [0] j = 0 := by
      unfold lat
      rw [if_neg (by simp; omega)]
      simp only [List.length_cons, List.length_nil]
      rw [show (j - (0 + 1)) % (0 + 1) = 0 by omega]; rfl
    rw [hr, hL] at this
    exact absurd this (by decide)
  rw [this]
theorem ever_ok (w0 : World) : Rt Try.prog 45 [].toArray w0 fun v w' => v = .bool true ∧ Ext w0 w' := by
  refine Rt.enter0 Try.func45 Try.ntmps45 rfl ?_
  have hE := Ext.refl w0
  (repeat (first | (apply WL.pure; rfl; rfl; rfl) | (apply WL.nil) | (apply EX.thenN) | (apply CW.seq) | (apply CW.region)))
  refine WL.call rfl rfl rfl (ones_ok w0) ?_
  rintro v1 w1 ⟨ha, e1⟩
  obtain ⟨a1, c1, a2, c2, a3, c3, a4, c4, a5, c5, rfl, h1, h2, h3, h4, h5⟩ := ha.ok
  have hE := hE.trans e1
  skip
  refine WL.litF w1.heap.size (Nat.le_refl _) [(0 : Nat)] rfl rfl rfl rfl rfl (.cons (rdU _ _ 0 (by decide)) .nil) (by decide) (fun v2 w2 e2 r2 => ?_)
  refine WL.litF w1.heap.size e2.size [(1 : Nat), 0] rfl rfl rfl rfl rfl (.cons (rdU _ _ 1 (by decide)) (.cons (rdU _ _ 0 (by decide)) .nil)) (by decide) (fun v3 w3 e3 r3 => ?_)
  have r2 := r2.upF e3
  have e3 := e2.trans e3
  have hE := hE.trans e3
  obtain ⟨p2, q2, rfl, s2⟩ := r2.sl
  obtain ⟨p3, q3, rfl, s3⟩ := r3.sl
  skip
  refine WL.build rfl rfl rfl rfl ?_
  skip
  refine WL.call rfl rfl rfl (Accepts_ok w3 (A := onesA) ⟨a1, c1, a2, c2, a3, c3, a4, c4, a5, c5, rfl, h1.up e3, h2.up e3, h3.up e3, h4.up e3, h5.up e3⟩ (s2.lift fun b hb => hb.2) (s3.lift fun b hb => hb.2) (by decide)) ?_
  rintro _ w4 ⟨rfl, e4⟩
  rw [ones_yes]
  have hE := hE.trans e4
  clear h1 h2 h3 h4 h5 s2 s3 e1 e2 e3 e4 ha r2 r3
  (repeat (first | (apply WL.pure; rfl; rfl; rfl) | (apply WL.nil) | (apply EX.thenN) | (apply CW.seq) | (apply CW.region)))
  refine WL.call rfl rfl rfl (ones_ok w4) ?_
  rintro v5 w5 ⟨ha, e5⟩
  obtain ⟨b1, d1, b2, d2, b3, d3, b4, d4, b5, d5, rfl, h1, h2, h3, h4, h5⟩ := ha.ok
  have hE := hE.trans e5
  skip
  refine WL.litF w5.heap.size (Nat.le_refl _) [(1 : Nat)] rfl rfl rfl rfl rfl (.cons (rdU _ _ 1 (by decide)) .nil) (by decide) (fun v6 w6 e6 r6 => ?_)
  refine WL.litF w5.heap.size e6.size [(0 : Nat)] rfl rfl rfl rfl rfl (.cons (rdU _ _ 0 (by decide)) .nil) (by decide) (fun v7 w7 e7 r7 => ?_)
  have r6 := r6.upF e7
  have e7 := e6.trans e7
  have hE := hE.trans e7
  obtain ⟨p6, q6, rfl, s6⟩ := r6.sl
  obtain ⟨p7, q7, rfl, s7⟩ := r7.sl
  skip
  refine WL.build rfl rfl rfl rfl ?_
  skip
  refine WL.call rfl rfl rfl (Accepts_ok w7 (A := onesA) ⟨b1, d1, b2, d2, b3, d3, b4, d4, b5, d5, rfl, h1.up e7, h2.up e7, h3.up e7, h4.up e7, h5.up e7⟩ (s6.lift fun b hb => hb.2) (s7.lift fun b hb => hb.2) (by decide)) ?_
  rintro _ w8 ⟨rfl, e8⟩
  rw [ones_no]
  (repeat (first | (apply WL.pure; rfl; rfl; rfl) | (apply WL.nil) | (apply EX.thenN) | (apply CW.seq) | (apply CW.region) | (apply CW.ret)))
  exact EX.ret1 rfl rfl ⟨rfl, hE.trans e8⟩
theorem clone_ll (w0 : World) {F : Nat → Prop} {ao : Option Addr} {cap : Nat} {xs : List (List Int)} (hs : Sl w0 F ao cap xs) (hF : ∀ b, F b → b < w0.heap.size) (hb : xs.length * 24 ≤ 140737488355328) :
    Rt Try.prog 48 [.slice ao xs.length cap].toArray w0 fun v w' => Own w' w0.heap.size 22 F v xs ∧ Ext w0 w' := by
  have hm := hs.len63
  refine Rt.enter1 Try.func48 Try.ntmps48 rfl rfl ?_
  (repeat (first | (apply WL.pure; rfl; rfl; rfl) | (apply WL.nil) | (apply EX.thenN) | (apply CW.seq) | (apply CW.region) | (apply WL.isNil; rfl; rfl; rfl)))
  refine CW.cond rfl (fun h => ?_) (fun h => ?_)
  · (repeat (first | (apply WL.pure; rfl; rfl; rfl) | (apply WL.nil) | (apply EX.thenN) | (apply CW.seq) | (apply CW.region) | (apply CW.ret) | (apply EX.thenR)))
    refine EX.ret1 rfl rfl ⟨?_, Ext.refl _⟩
    have h0 : ao = none := by simpa using h
    have : xs = [] := List.eq_nil_of_length_eq_zero (by have := hs.nil h0; have := hs.le; omega)
    subst this
    exact Own.nil
  · (repeat (first | (apply EX.thenN) | (apply CW.seq) | (apply CW.region) | (apply CW.skip)))
    refine WL.lit0 (α := List Int) rfl rfl (fun w1 ho hg => ?_)
    have ho := ho.wk (F' := F) (fun _ h => h.elim) (fun g hg hf => by cases hg; exact absurd (hF _ hf) (Nat.lt_irrefl _))
    (repeat (apply WL.pure; rfl; rfl; rfl))
    have hE : Ext w0 w1 := (Below.refl _ _).grown hg (Nat.le_refl _) (fun k h => by cases h)
    refine WL.app (F := F) rfl rfl rfl rfl ho (hs.up0 hE hF).src hE.size (fun b hb => Nat.lt_of_lt_of_le (hF b hb) hE.size) (by simp [maxLen]; omega) (by simpa using hb) (fun v w2 ho2 hg2 _ => ?_)
    (repeat (first | (apply WL.pure; rfl; rfl; rfl) | (apply WL.nil) | (apply EX.thenN) | (apply CW.ret)))
    refine EX.ret1 rfl rfl ⟨by simpa using ho2, hE.grown hg2 hE.size ?_⟩
    intro k hk
    exact (ho.lt k hk).1
end Go.Proofs.Ythefpigolikmeaa
