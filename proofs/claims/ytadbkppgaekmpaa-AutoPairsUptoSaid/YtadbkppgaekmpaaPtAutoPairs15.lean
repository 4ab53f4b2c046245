import Derived.Test.YtadbkppgaekmpaaRows
import Derived.OpenShut
import Derived.JoinedCond
import Derived.Test.YtadbkppgaekmpaaPtAutoPairs14
/-
  watchkeep.ones, ever; slices.Clone at [][]int.
-/
set_option linter.unusedVariables false
set_option linter.unusedSimpArgs false
namespace Go.Proofs.Ytadbkppgaekmpaa
open Go.RowKit

def onesA : LAuto := ([0, 1], [[0, 1], [0, 1]], [1, 0], [0, 1], [[0]])
theorem rdU (w : World) (F : Nat → Prop) (x : Nat) (h : x < 18446744073709551616) : Rd w F (.int .u64 (x : Int)) x := ⟨_, rfl, rd_mkU64 _ _ _ h⟩
theorem ones_ok (w0 : World) : Rt Try.prog 14 [].toArray w0 fun v w' => AutoAt w' (Old w') v onesA ∧ Ext w0 w' := by
  refine Rt.enter0 Try.func14 Try.ntmps14 rfl ?_
  (repeat (first | (apply CW.seq) | (apply CW.region)))
  refine WL.alloc rfl rfl (fun w1 hb hE1 => ?_)
  have hc1 : w0.heap.size + 1 ≤ w1.heap.size := hb.lt
  generalize hcc : w0.heap.size + 1 = c at hc1
  (repeat (first | (apply WL.nil) | (apply EX.thenN) | (apply CW.seq) | (apply CW.region)))
  refine WL.litF c (by omega) [(0 : Int), 1] rfl rfl rfl rfl rfl (.cons (Rd.mkInt _ _ _) (.cons (Rd.mkInt _ _ _) .nil)) (by decide) (fun v2 w2 e2 r2 => ?_)
  have z2 := e2.size
  refine WL.litF c (by omega) [(0 : Int), 1] rfl rfl rfl rfl rfl (.cons (Rd.mkInt _ _ _) (.cons (Rd.mkInt _ _ _) .nil)) (by decide) (fun v3 w3 e3 r3 => ?_)
  have z3 := e3.size
  refine WL.litF c (by omega) [(0 : Int), 1] rfl rfl rfl rfl rfl (.cons (Rd.mkInt _ _ _) (.cons (Rd.mkInt _ _ _) .nil)) (by decide) (fun v4 w4 e4 r4 => ?_)
  have z4 := e4.size
  refine WL.litF c (by omega) [[(0 : Int), 1], [0, 1]] rfl rfl rfl rfl rfl (.cons (r3.upF e4) (.cons r4 .nil)) (by decide) (fun v5 w5 e5 r5 => ?_)
  have z5 := e5.size
  refine WL.litF c (by omega) [(1 : Nat), 0] rfl rfl rfl rfl rfl (.cons (rdU _ _ 1 (by decide)) (.cons (rdU _ _ 0 (by decide)) .nil)) (by decide) (fun v6 w6 e6 r6 => ?_)
  have z6 := e6.size
  refine WL.litF c (by omega) [(0 : Nat), 1] rfl rfl rfl rfl rfl (.cons (rdU _ _ 0 (by decide)) (.cons (rdU _ _ 1 (by decide)) .nil)) (by decide) (fun v7 w7 e7 r7 => ?_)
  have z7 := e7.size
  refine WL.litF c (by omega) [(0 : Int)] rfl rfl rfl rfl rfl (.cons (Rd.mkInt _ _ _) .nil) (by decide) (fun v8 w8 e8 r8 => ?_)
  have z8 := e8.size
  refine WL.litF c (by omega) [[(0 : Int)]] rfl rfl rfl rfl rfl (.cons r8 .nil) (by decide) (fun v9 w9 e9 r9 => ?_)
  replace r2 := r2.upF (e3.trans (e4.trans (e5.trans (e6.trans (e7.trans (e8.trans e9))))))
  replace r5 := r5.upF (e6.trans (e7.trans (e8.trans e9)))
  replace r6 := r6.upF (e7.trans (e8.trans e9))
  replace r7 := r7.upF (e8.trans e9)
  have hb9 := hb.ext (e2.trans (e3.trans (e4.trans (e5.trans (e6.trans (e7.trans (e8.trans e9)))))))
  have hE9 := hE1.trans (e2.trans (e3.trans (e4.trans (e5.trans (e6.trans (e7.trans (e8.trans e9)))))))
  clear r3 r4 r8 e2 e3 e4 e5 e6 e7 e8 e9 hE1
  obtain ⟨a1, c1, rfl, s1⟩ := r2.sl
  obtain ⟨a2, c2, rfl, s2⟩ := r5.sl
  obtain ⟨a3, c3, rfl, s3⟩ := r6.sl
  obtain ⟨a4, c4, rfl, s4⟩ := r7.sl
  obtain ⟨a5, c5, rfl, s5⟩ := r9.sl
  skip
  refine WL.build rfl rfl rfl rfl ?_
  skip
  refine WL.st rfl rfl rfl hb9 rfl rfl (ones_of rfl) (fun w10 hb10 hg10 => ?_)
  have hE10 : Ext w0 w10 := hE9.grown hg10 hE9.size (fun g hg => by cases hg; exact Nat.le_refl _)
  have hF : ∀ b, From c w9 b → w10.heap[b]? = w9.heap[b]? := fun b hb => hg10.block b hb.2 (fun e => by cases e; have := hb.1; omega)
  have hO : ∀ b, From c w9 b → Old w10 b := fun b hb => Nat.lt_of_lt_of_le hb.2 hg10.size
  (repeat (first | (apply WL.nil) | (apply EX.thenN) | (apply CW.ret)))
  exact EX.retC rfl rfl hb10 rfl ⟨⟨a1, c1, a2, c2, a3, c3, a4, c4, a5, c5, rfl, s1.mono hF hO, s2.mono hF hO, s3.mono hF hO, s4.mono hF hO, s5.mono hF hO⟩, hE10⟩
theorem onesA_ok : chkA onesA = 0 := by decide
theorem ones_yes : accF onesA [0] [1, 0] = (true, 0) := by
  unfold accF
  rw [if_neg (by simp [onesA_ok]), if_neg (by decide)]
  have : accB onesA (lat [0] [1, 0]) = true := by
    rw [accB_iff]
    have hL : ∀ i, lat [0] [1, 0] i = i % 2 := by
      intro i
      unfold lat
      split
      · rename_i h; simp at h; subst h; rfl
      · rename_i h
        simp at h
        simp only [List.length_cons, List.length_nil]
        rcases Nat.mod_two_eq_zero_or_one i with h1 | h1
        · rw [h1, show (i - (0 + 1)) % (0 + 1 + 1) = 1 by omega]; rfl
        · rw [h1, show (i - (0 + 1)) % (0 + 1 + 1) = 0 by omega]; rfl
    refine ⟨fun i => (i + 1) % 2, ?_, ?_, ?_, ?_⟩
    · show ((0 + 1) % 2 : Int) ∈ [(0 : Int), 1]; decide
    · intro i
      rw [hL]
      show fitB [1, 0] [0, 1] ((i + 1) % 2) (i % 2) = true
      rcases Nat.mod_two_eq_zero_or_one i with h1 | h1
      · rw [h1, show (i + 1) % 2 = 1 by omega]; decide
      · rw [h1, show (i + 1) % 2 = 0 by omega]; decide
    · intro i
      show (((i + 1 + 1) % 2 : Nat) : Int) ∈ ([[0, 1], [0, 1]] : List (List Int)).getD ((i + 1) % 2) []
      rcases Nat.mod_two_eq_zero_or_one i with h1 | h1
      · rw [show (i + 1) % 2 = 1 by omega, show (i + 1 + 1) % 2 = 0 by omega]; decide
      · rw [show (i + 1) % 2 = 0 by omega, show (i + 1 + 1) % 2 = 1 by omega]; decide
    · intro F hF i
      have : F = [0] := by simpa [onesA] using hF
      subst this
      refine ⟨2 * i + 1, by omega, ?_⟩
      show (((2 * i + 1 + 1) % 2 : Nat) : Int) ∈ [(0 : Int)]
      rw [show (2 * i + 1 + 1) % 2 = 0 by omega]; decide
  rw [this]
theorem ones_no : accF onesA [1] [0] = (false, 0) := by
  unfold accF
  rw [if_neg (by simp [onesA_ok]), if_neg (by decide)]
  have : accB onesA (lat [1] [0]) = false := by
    rw [← Bool.not_eq_true, accB_iff]
    rintro ⟨r, h1, h2, h3, h4⟩
    obtain ⟨j, hj, hm⟩ := h4 [0] (by simp [onesA]) 1
    have hr : r j = 0 := by simp at hm; omega
    have := h2 j
    have hL : lat [1] [0] j = 0 := by
      unfold lat
      rw [if_neg (by simp; omega)]
      simp only [List.length_cons, List.length_nil]
      rw [show (j - (0 + 1)) % (0 + 1) = 0 by omega]; rfl
    rw [hr, hL] at this
    exact absurd this (by decide)
  rw [this]
theorem ever_ok (w0 : World) : Rt Try.prog 24 [].toArray w0 fun v w' => v = .bool true ∧ Ext w0 w' := by
  refine Rt.enter0 Try.func24 Try.ntmps24 rfl ?_
  have hE := Ext.refl w0
  (repeat (first | (apply WL.pure; rfl; rfl; rfl) | (apply WL.nil) | (apply EX.thenN) | (apply CW.seq) | (apply CW.region)))
  refine WL.call rfl rfl rfl (ones_ok w0) ?_
  rintro v1 w1 ⟨ha, e1⟩
  obtain ⟨a1, c1, a2, c2, a3, c3, a4, c4, a5, c5, rfl, h1, h2, h3, h4, h5⟩ := ha.ok
  have hE := hE.trans e1
  skip
  refine WL.litF w1.heap.size (Nat.le_refl _) [(0 : Nat)] rfl rfl rfl rfl rfl (.cons (rdU _ _ 0 (by decide)) .nil) (by decide) (fun v2 w2 e2 r2 => ?_)
  refine WL.litF w1.heap.size e2.size [(1 : Nat), 0] rfl rfl rfl rfl rfl (.cons (rdU _ _ 1 (by decide)) (.cons (rdU _ _ 0 (by decide)) .nil)) (by decide) (fun v3 w3 e3 r3 => ?_)
  have r2 := r2.upF e3
  have e3 := e2.trans e3
  have hE := hE.trans e3
  obtain ⟨p2, q2, rfl, s2⟩ := r2.sl
  obtain ⟨p3, q3, rfl, s3⟩ := r3.sl
  skip
  refine WL.build rfl rfl rfl rfl ?_
  skip
  refine WL.call rfl rfl rfl (Accepts_ok w3 (A := onesA) ⟨a1, c1, a2, c2, a3, c3, a4, c4, a5, c5, rfl, h1.up e3, h2.up e3, h3.up e3, h4.up e3, h5.up e3⟩ (s2.lift fun b hb => hb.2) (s3.lift fun b hb => hb.2) (by decide)) ?_
  rintro _ w4 ⟨rfl, e4⟩
  rw [ones_yes]
  have hE := hE.trans e4
  clear h1 h2 h3 h4 h5 s2 s3 e1 e2 e3 e4 ha r2 r3
  (repeat (first | (apply WL.pure; rfl; rfl; rfl) | (apply WL.nil) | (apply EX.thenN) | (apply CW.seq) | (apply CW.region)))
  refine WL.call rfl rfl rfl (ones_ok w4) ?_
  rintro v5 w5 ⟨ha, e5⟩
  obtain ⟨b1, d1, b2, d2, b3, d3, b4, d4, b5, d5, rfl, h1, h2, h3, h4, h5⟩ := ha.ok
  have hE := hE.trans e5
  skip
  refine WL.litF w5.heap.size (Nat.le_refl _) [(1 : Nat)] rfl rfl rfl rfl rfl (.cons (rdU _ _ 1 (by decide)) .nil) (by decide) (fun v6 w6 e6 r6 => ?_)
  refine WL.litF w5.heap.size e6.size [(0 : Nat)] rfl rfl rfl rfl rfl (.cons (rdU _ _ 0 (by decide)) .nil) (by decide) (fun v7 w7 e7 r7 => ?_)
  have r6 := r6.upF e7
  have e7 := e6.trans e7
  have hE := hE.trans e7
  obtain ⟨p6, q6, rfl, s6⟩ := r6.sl
  obtain ⟨p7, q7, rfl, s7⟩ := r7.sl
  skip
  refine WL.build rfl rfl rfl rfl ?_
  skip
  refine WL.call rfl rfl rfl (Accepts_ok w7 (A := onesA) ⟨b1, d1, b2, d2, b3, d3, b4, d4, b5, d5, rfl, h1.up e7, h2.up e7, h3.up e7, h4.up e7, h5.up e7⟩ (s6.lift fun b hb => hb.2) (s7.lift fun b hb => hb.2) (by decide)) ?_
  rintro _ w8 ⟨rfl, e8⟩
  rw [ones_no]
  (repeat (first | (apply WL.pure; rfl; rfl; rfl) | (apply WL.nil) | (apply EX.thenN) | (apply CW.seq) | (apply CW.region) | (apply CW.ret)))
  exact EX.ret1 rfl rfl ⟨rfl, hE.trans e8⟩
end Go.Proofs.Ytadbkppgaekmpaa
/-
  AutoWords: walked.
-/
set_option linter.unusedVariables false
set_option linter.unusedSimpArgs false
namespace Go.Proofs.Ytadbkppgaekmpaa
open Go.RowKit

theorem AutoAt.up {w w' : World} {v : Value} {A : LAuto} (h : AutoAt w (Old w) v A) (hE : Ext w w') : AutoAt w' (Old w') v A := by
  obtain ⟨a1, c1, a2, c2, a3, c3, a4, c4, a5, c5, hv, h1, h2, h3, h4, h5⟩ := h.ok
  exact ⟨a1, c1, a2, c2, a3, c3, a4, c4, a5, c5, hv, h1.up hE, h2.up hE, h3.up hE, h4.up hE, h5.up hE⟩
theorem accF_ok {A : LAuto} {s l : List Nat} (h : (accF A s l).2 = 0) : OkA A ∧ chkW s l = 0 ∧ (accF A s l).1 = accB A (lat s l) := by
  unfold accF at h ⊢
  split at h
  · rename_i h1; exact absurd h h1
  rename_i h1
  split at h
  · rename_i h2; exact absurd h h2
  rename_i h2
  rw [if_neg h1, if_neg h2]
  exact ⟨chkA_ok (by simpa using h1), by simpa using h2, rfl⟩
theorem accF_err {A : LAuto} {s l : List Nat} (h : (accF A s l).2 ≠ 0) : (accF A s l).1 = false := by
  unfold accF at h ⊢
  split
  · rfl
  split
  · rfl
  rename_i h1 h2
  rw [if_neg h1, if_neg h2] at h
  exact absurd rfl h
theorem accB_le {A B : LAuto} {L : Nat → Nat} (h : Acc A.1 A.2.1 A.2.2.1 A.2.2.2.1 A.2.2.2.2 L → Acc B.1 B.2.1 B.2.2.1 B.2.2.2.1 B.2.2.2.2 L) (ha : accB A L = true) : accB B L = true := accB_iff.2 (h (accB_iff.1 ha))
end Go.Proofs.Ytadbkppgaekmpaa
/-
  AutoPairs: walked.
-/
set_option linter.unusedVariables false
set_option linter.unusedSimpArgs false
namespace Go.Proofs.Ytadbkppgaekmpaa
open Go.RowKit

theorem okA_pos {A : LAuto} (h : OkA A) : PosA A := ⟨fun x hx => (h.st x hx).1, fun k x hx => (okG_row h.nx k x hx).1⟩
theorem accF_at {A : LAuto} {s l : List Nat} (h : OkA A) (hW : chkW s l = 0) : accF A s l = (accB A (lat s l), 0) := by
  unfold accF
  rw [if_neg (by simp [chkA_of h]), if_neg (by simp [hW])]
theorem bool_iff {a b c : Bool} (h : a = true ↔ b = true ∧ c = true) : a = (b && c) := by
  cases a <;> cases b <;> cases c <;> simp_all
theorem bothE_ok {A B : LAuto} (h : (bothE A B).2 = 0) : OkA A ∧ OkA B ∧ (madeE (bothNext A B) (bothStart A B)).2.1 = true ∧ A.2.2.2.2.length + B.2.2.2.2.length ≤ 80 ∧ (bothE A B).1 = bothL A B := by
  unfold bothE at h ⊢
  split at h
  · rename_i g; exact absurd h g
  rename_i g1
  split at h
  · rename_i g; exact absurd h g
  rename_i g2
  split at h
  case isFalse => simp at h
  rename_i g3
  rw [if_neg g1, if_neg g2, if_pos g3]
  exact ⟨chkA_ok (by simpa using g1), chkA_ok (by simpa using g2), g3.1, g3.2, rfl⟩
theorem bothE_err {A B : LAuto} (h : (bothE A B).2 ≠ 0) : (bothE A B).1 = nilA := by
  unfold bothE at h ⊢
  split
  · rfl
  rename_i g1
  split
  · rfl
  rename_i g2
  rw [if_neg g1, if_neg g2] at h
  split
  · rename_i g3; rw [if_pos g3] at h; exact absurd rfl h
  · rfl
theorem AutoPairs_ok (w0 : World) {va vb : Value} {A B : LAuto} {s l : List Nat} {so lo : Option Addr} {sc lc : Nat} (ha : AutoAt w0 (Old w0) va A) (hb : AutoAt w0 (Old w0) vb B) (hs : Sl w0 (Old w0) so sc s) (hl : Sl w0 (Old w0) lo lc l)
    (sA : ∀ j, (A.2.1.getD j []).length ≤ 1048576) (sB : ∀ j, (B.2.1.getD j []).length ≤ 1048576) (tA : A.1.length ≤ 1048576) (tB : B.1.length ≤ 1048576) (eA : edges A.2.1 + A.1.length ≤ 8589934592) (eB : edges B.2.1 + B.1.length ≤ 8589934592) :
    Rt Try.prog 5 [va, vb, wordV so sc lo lc s l].toArray w0 fun v w' => v = .bool true ∧ Ext w0 w' := by
  have ha0 := ha
  have hb0 := hb
  obtain ⟨a1, c1, a2, c2, a3, c3, a4, c4, a5, c5, rfl, h1, h2, h3, h4, h5⟩ := ha.ok
  obtain ⟨k1, d1, k2, d2, k3, d3, k4, d4, k5, d5, rfl, g1, g2, g3, g4, g5⟩ := hb.ok
  clear ha hb h1 h2 h3 h4 h5 g1 g2 g3 g4 g5
  refine Rt.enter3 Try.func5 Try.ntmps5 rfl rfl ?_
  have hE := Ext.refl w0
  (repeat (first | (apply CW.seq) | (apply CW.region)))
  refine WL.boxB rfl rfl rfl fun w1 hb3 e1 => ?_
  have hE := hE.trans e1
  skip
  refine WL.boxB rfl rfl rfl fun w2 hb4 e2 => ?_
  have hb3 := hb3.ext e2
  have hE := hE.trans e2
  skip
  refine WL.boxB rfl rfl rfl fun w3 hb5 e3 => ?_
  have hb3 := hb3.ext e3
  have hb4 := hb4.ext e3
  have hE := hE.trans e3
  (repeat (first | (apply WL.pure; rfl; rfl; rfl) | (apply WL.nil) | (apply EX.thenN) | (apply CW.seq) | (apply CW.region)))
  refine WL.call rfl rfl rfl (ever_ok w3) ?_
  rintro _ w4 ⟨rfl, e4⟩
  have hb3 := hb3.ext e4
  have hb4 := hb4.ext e4
  have hb5 := hb5.ext e4
  have hE := hE.trans e4
  clear e1 e2 e3 e4
  (repeat (first | (apply WL.pure; rfl; rfl; rfl) | (apply WL.nil) | (apply EX.thenN) | (apply CW.seq) | (apply CW.region) | (apply WL.ldA; rfl; rfl; rfl; assumption; rfl) | (apply CW.condF; rfl) | (apply CW.skip)))
  refine WL.call rfl rfl rfl (Both_ok w4 (ha0.up hE) (hb0.up hE) sA sB tA tB) ?_
  rintro _ w5 ⟨⟨rv, rfl, hr⟩, e5⟩
  have hb3 := hb3.ext e5
  have hb4 := hb4.ext e5
  have hb5 := hb5.ext e5
  have hE := hE.trans e5
  have hok := bothE_ok (A := A) (B := B)
  have herr := bothE_err (A := A) (B := B)
  generalize (bothE A B).2 = e at *
  generalize (bothE A B).1 = C at *
  obtain ⟨q1, f1, q2, f2, q3, f3, q4, f4, q5, f5, rfl, p1, p2, p3, p4, p5⟩ := hr.ok
  clear hr
  (repeat (apply WL.pure; rfl; rfl; rfl))
  refine WL.alloc rfl rfl (fun w6 hb7 e6 => ?_)
  skip
  refine WL.st rfl rfl rfl hb7 rfl rfl (ones_of rfl) (fun w7 hb7 hg7 => ?_)
  have e7 : Ext w5 w7 := e6.grown hg7 e6.size (fun g hg => by cases hg; exact Nat.le_refl _)
  have hb3 := hb3.ext e7
  have hb4 := hb4.ext e7
  have hb5 := hb5.ext e7
  have hE := hE.trans e7
  have hC : AutoAt w7 (Old w7) _ C := ⟨q1, f1, q2, f2, q3, f3, q4, f4, q5, f5, rfl, p1.up e7, p2.up e7, p3.up e7, p4.up e7, p5.up e7⟩
  clear e5 e6 e7 hg7 p1 p2 p3 p4 p5
  (repeat (first | (apply WL.pure; rfl; rfl; rfl) | (apply WL.nil) | (apply EX.thenN) | (apply CW.seq) | (apply CW.region) | (apply WL.ldA; rfl; rfl; rfl; assumption; rfl)))
  refine WL.call rfl rfl rfl (Accepts_ok w7 (A := A) (ha0.up hE) (hs.up hE) (hl.up hE) eA) ?_
  rintro _ w8 ⟨rfl, e8⟩
  have hb3 := hb3.ext e8
  have hb4 := hb4.ext e8
  have hb5 := hb5.ext e8
  have hb7 := hb7.ext e8
  have hE := hE.trans e8
  have hC := hC.up e8
  have hfA := accF_ok (A := A) (s := s) (l := l)
  generalize (accF A s l).1 = x at *
  generalize (accF A s l).2 = f at *
  (repeat (first | (apply WL.pure; rfl; rfl; rfl) | (apply WL.nil) | (apply EX.thenN) | (apply CW.seq) | (apply CW.region) | (apply WL.ldA; rfl; rfl; rfl; assumption; rfl)))
  refine WL.call rfl rfl rfl (Accepts_ok w8 (A := B) (hb0.up hE) (hs.up hE) (hl.up hE) eB) ?_
  rintro _ w9 ⟨rfl, e9⟩
  have hb5 := hb5.ext e9
  have hb7 := hb7.ext e9
  have hE := hE.trans e9
  have hC := hC.up e9
  have hfB := accF_ok (A := B) (s := s) (l := l)
  generalize (accF B s l).1 = y at *
  generalize (accF B s l).2 = g at *
  clear e8 e9 hb3 hb4
  by_cases he : e = 0
  case neg =>
    have be : (e != 0) = true := by simpa using he
    have be2 : (e == 0) = false := by simpa using he
    obtain rfl := herr he
    (repeat (first | (apply WL.pure; rfl; rfl; rfl) | (apply WL.nil) | (apply EX.thenN) | (apply CW.seq) | (apply CW.region)))
    rw [be]
    (repeat (first | (apply WL.pure; rfl; rfl; rfl) | (apply WL.nil) | (apply EX.thenN) | (apply CW.seq) | (apply CW.region) | (apply WL.pass; rfl; rfl) | (apply CW.condT; rfl)))
    rw [be2]
    (repeat (first | (apply WL.pure; rfl; rfl; rfl) | (apply WL.nil) | (apply EX.thenN) | (apply WL.lenS; rfl; rfl; rfl) | (apply WL.fa; rfl; rfl; rfl) | (apply WL.ld; rfl; rfl; rfl; assumption; rfl) | (apply CW.ret) | (apply EX.thenR)))
    exact EX.ret1 rfl rfl ⟨rfl, hE⟩
  subst he
  obtain ⟨okA, okB, hm, h80, rfl⟩ := hok rfl
  by_cases hf : f = 0
  case neg =>
    have be : (f != 0) = true := by simpa using hf
    (repeat (first | (apply WL.pure; rfl; rfl; rfl) | (apply WL.nil) | (apply EX.thenN) | (apply CW.seq) | (apply CW.region)))
    rw [be]
    (repeat (first | (apply WL.pure; rfl; rfl; rfl) | (apply WL.nil) | (apply EX.thenN) | (apply CW.seq) | (apply CW.region) | (apply WL.pass; rfl; rfl) | (apply CW.condT; rfl) | (apply CW.ret) | (apply EX.thenR)))
    exact EX.ret1 rfl rfl ⟨rfl, hE⟩
  subst hf
  obtain ⟨_, hW, rfl⟩ := hfA rfl
  by_cases hg : g = 0
  case neg =>
    have be : (g != 0) = true := by simpa using hg
    (repeat (first | (apply WL.pure; rfl; rfl; rfl) | (apply WL.nil) | (apply EX.thenN) | (apply CW.seq) | (apply CW.region)))
    rw [be]
    (repeat (first | (apply WL.pure; rfl; rfl; rfl) | (apply WL.nil) | (apply EX.thenN) | (apply CW.seq) | (apply CW.region) | (apply WL.pass; rfl; rfl) | (apply CW.condT; rfl) | (apply CW.ret) | (apply EX.thenR)))
    exact EX.ret1 rfl rfl ⟨rfl, hE⟩
  subst hg
  obtain ⟨_, _, rfl⟩ := hfB rfl
  obtain ⟨okC, eC⟩ := both_okA hm h80
  have hlaw := both_law (L := lat s l) (okA_pos okA) (okA_pos okB) hm
  unfold AccA at hlaw
  rw [← accB_iff, ← accB_iff, ← accB_iff] at hlaw
  have hz := bool_iff hlaw
  have hacc := accF_at (s := s) (l := l) okC hW
  (repeat (first | (apply WL.pure; rfl; rfl; rfl) | (apply WL.nil) | (apply EX.thenN) | (apply CW.seq) | (apply CW.region) | (apply WL.ldA; rfl; rfl; rfl; assumption; rfl) | (apply CW.condF; rfl) | (apply CW.skip)))
  refine WL.call rfl rfl rfl (Accepts_ok w9 (A := bothL A B) hC (hs.up hE) (hl.up hE) eC) ?_
  rintro _ w10 ⟨rfl, e10⟩
  have hb7 := hb7.ext e10
  have hE := hE.trans e10
  have hC := hC.up e10
  rw [hacc, hz]
  generalize accB A (lat s l) = x at *
  generalize accB B (lat s l) = y at *
  clear hz hlaw hacc hfA hfB
  have hxy : ((x && y) == (x && y)) = true := beq_self_eq_true _
  cases x <;> cases y
  all_goals
    (repeat (first | (apply WL.pure; rfl; rfl; rfl) | (apply WL.nil) | (apply EX.thenN) | (apply CW.seq) | (apply CW.region) | (apply WL.pass; rfl; rfl) | (apply WL.eqB; rfl; rfl; rfl; rfl) | (apply WL.ldA; rfl; rfl; rfl; assumption; rfl)))
    refine WL.call rfl rfl rfl (aCheck_ok w10 (A := bothL A B) hC) ?_
    rintro _ w11 ⟨rfl, e11⟩
    rw [chkA_of okC]
    (repeat (first | (apply WL.pure; rfl; rfl; rfl) | (apply WL.nil) | (apply EX.thenN) | (apply CW.ret)))
    exact EX.ret1 rfl rfl ⟨rfl, hE.trans e11⟩
end Go.Proofs.Ytadbkppgaekmpaa
/-
  From the form's readings of the arguments to our own, and back: what a law's proof needs at its two ends.
-/
set_option linter.unusedVariables false
set_option linter.unusedSimpArgs false
namespace Go.Proofs.Ytadbkppgaekmpaa
open Go.RowKit Go.ChangeShapes Go.WideShapes Go.ChangeAt

theorem bulk_one {H : Type} (d : DataW H) : 1 ≤ Rows.uptoBulk d := by
  cases d with
  | lit l => cases l <;> simp [Rows.uptoBulk]
  | nil => simp [Rows.uptoBulk]
  | ptr d => simp [Rows.uptoBulk]
  | slice elems spare => simp [Rows.uptoBulk]
  | agg parts => simp [Rows.uptoBulk]
  | iface t d => simp [Rows.uptoBulk]
  | map entries => simp [Rows.uptoBulk]
  | held h => simp [Rows.uptoBulk]
theorem bulk_app {H : Type} (l r : List (DataW H)) : Rows.uptoBulkAll (l ++ r) = Rows.uptoBulkAll l + Rows.uptoBulkAll r := by
  induction l with
  | nil => simp [Rows.uptoBulkAll]
  | cons x l ih => simp only [List.cons_append, Rows.uptoBulkAll, ih]; omega

/-- the bound, as the form hands it over -/
theorem bound {H : Type} {l : List (DataW H)} (hk : Rows.uptoSmall H l = true) : Rows.uptoBulkAll l ≤ 1048576 := by
  simpa [Rows.uptoSmall] using hk
/-- how many values a value of ours holds -/
class Bk (α : Type) where
  bk : α → Nat
abbrev bk {α : Type} [Bk α] : α → Nat := Bk.bk
instance iOpen1 : Bk Int := ⟨fun _ => 1⟩
instance iOpen2 : Bk Bool := ⟨fun _ => 1⟩
instance iOpen3 : Bk Nat := ⟨fun _ => 1⟩
instance iOpen4 : Bk ByteArray := ⟨fun s => s.size + 1⟩
def bkL {α : Type} [Bk α] : List α → Nat
  | [] => 0
  | x :: r => bk x + bkL r
instance iOpen8 {α : Type} [Bk α] : Bk (List α) := ⟨fun l => bkL l + 1⟩

/-- what the form reads at a type, we read, too -/
class Opn (P : Program) (t : TypeId) (α : Type) [Rep α] [Bk α] : Prop where
  op : ∀ {H : Type} {enc : TypeId × Value → H} {w : World} {fuel : Nat} {cs : List Value} {d : DataW H} {ps : List MemPlace}, DataW.trod enc P w 0 (fun _ => true) true fuel t cs = some (d, ps) → ∃ x : α, rd w (Old w) cs x ∧ bk x ≤ Rows.uptoBulk d

theorem Opn.int {P : Program} {t : TypeId} (h : P.underlying t = some (.int .i64)) : Opn P t Int where
  op := by
    intro H enc w fuel cs d ps hd
    cases fuel with
    | zero => simp [DataW.trod] at hd
    | succ fuel =>
      unfold DataW.trod at hd
      rw [h] at hd
      split at hd <;> try (simp at *; done)
      rename_i k k' n e1
      simp at e1
      split at hd
      · rename_i hk
        simp at hd
        obtain ⟨rfl, rfl⟩ := hd
        exact ⟨n, by rw [hk.1, ← e1]; rfl, bulk_one _⟩
      · cases hd
theorem Opn.bool {P : Program} {t : TypeId} (h : P.underlying t = some .bool) : Opn P t Bool where
  op := by
    intro H enc w fuel cs d ps hd
    cases fuel with
    | zero => simp [DataW.trod] at hd
    | succ fuel =>
      unfold DataW.trod at hd
      rw [h] at hd
      split at hd <;> try (simp at *; done)
      rename_i b e1
      simp at hd
      obtain ⟨rfl, rfl⟩ := hd
      exact ⟨b, rfl, bulk_one _⟩
theorem Opn.u64 {P : Program} {t : TypeId} (h : P.underlying t = some (.int .u64)) : Opn P t Nat where
  op := by
    intro H enc w fuel cs d ps hd
    cases fuel with
    | zero => simp [DataW.trod] at hd
    | succ fuel =>
      unfold DataW.trod at hd
      rw [h] at hd
      split at hd <;> try (simp at *; done)
      rename_i k k' n e1
      simp at e1
      split at hd
      · rename_i hk
        simp at hd
        obtain ⟨rfl, rfl⟩ := hd
        have hwf := hk.2
        rw [← e1] at hwf
        have hb : 0 ≤ n ∧ n ≤ 18446744073709551615 := by simpa [Lit.wf, IntKind.min, IntKind.max, IntKind.signed, IntKind.bits] using hwf
        refine ⟨n.toNat, ⟨?_, by omega⟩, bulk_one _⟩
        rw [hk.1, ← e1, Int.toNat_of_nonneg hb.1]
      · cases hd
theorem Opn.string {P : Program} {t : TypeId} (h : P.underlying t = some .string) : Opn P t ByteArray where
  op := by
    intro H enc w fuel cs d ps hd
    cases fuel with
    | zero => simp [DataW.trod] at hd
    | succ fuel =>
      unfold DataW.trod at hd
      rw [h] at hd
      split at hd <;> try (simp at *; done)
      rename_i s e1
      split at hd
      · rename_i hk
        simp at hd
        obtain ⟨rfl, rfl⟩ := hd
        refine ⟨s, ⟨rfl, hk⟩, ?_⟩
        show s.size + 1 ≤ _
        simp only [Rows.uptoBulk]
        have e : s.data.toList.length = s.size := by rw [Array.length_toList]; rfl
        omega
      · cases hd

theorem mapM_range {β : Type} (f : Nat → Option β) : ∀ (n : Nat) (es : List β), (List.range n).mapM f = some es → es.length = n ∧ ∀ i (h : i < es.length), f i = some es[i]
  | 0, es, h => by
    simp at h; subst h
    exact ⟨rfl, fun i hi => absurd hi (by simp)⟩
  | n + 1, es, h => by
    rw [List.range_succ, List.mapM_append] at h
    simp only [List.mapM_cons, List.mapM_nil, Option.bind_eq_bind, Option.pure_def] at h
    cases h1 : (List.range n).mapM f with
    | none => rw [h1] at h; cases h
    | some l =>
      rw [h1] at h
      cases h2 : f n with
      | none => rw [h2] at h; cases h
      | some y =>
        rw [h2] at h
        simp at h
        subst h
        obtain ⟨hl, hi⟩ := mapM_range f n l h1
        refine ⟨by simp [hl], fun i hlt => ?_⟩
        by_cases hi' : i < l.length
        · rw [List.getElem_append_left hi']; exact hi i hi'
        · have : i = n := by simp at hlt; omega
          subst this
          rw [List.getElem_append_right (by omega)]
          simpa [hl] using h2
theorem mapM_cells {w : World} {a : Addr} {n : Nat} {cs : List Value} (h : w.cells? 0 a n = some cs) : cs.length = n ∧ ∀ j (hj : j < cs.length), w.cell? (a.add j) = some cs[j] := by
  unfold World.cells? at h
  rw [if_pos (Nat.zero_le _)] at h
  exact mapM_range _ n cs h

theorem slice_op {P : Program} {t e : TypeId} {α : Type} [Rep α] [Bk α] [hs : IsS P t e] [ht : IsT P e α] {H : Type} {enc : TypeId × Value → H} {w : World} {fuel : Nat}
    (ho : ∀ {cs : List Value} {d : DataW H} {ps : List MemPlace}, DataW.trod enc P w 0 (fun _ => true) true fuel e cs = some (d, ps) → ∃ x : α, rd w (Old w) cs x ∧ bk x ≤ Rows.uptoBulk d)
    {cs : List Value} {d : DataW H} {ps : List MemPlace} (hd : DataW.trod enc P w 0 (fun _ => true) true (fuel + 1) t cs = some (d, ps)) : ∃ x : List α, rd w (Old w) cs x ∧ bk x ≤ Rows.uptoBulk d := by
  unfold DataW.trod at hd
  rw [hs.ok] at hd
  obtain ⟨i0, hi1, hi2⟩ := IsT.info (P := P) (t := e) (α := α)
  have hsz : P.cellsOf e = sz α := by simp [Program.cellsOf, hi1, hi2]
  have hp : 0 < sz α := Rep.pos
  split at hd <;> try (simp at *; done)
  · simp at hd
    obtain ⟨rfl, rfl⟩ := hd
    exact ⟨[], ⟨none, 0, rfl, by simp, by simp [maxLen], fun _ => rfl, fun i hi => absurd hi (by simp)⟩, bulk_one _⟩
  · rename_i e' a len cap e1
    cases e1
    simp only at hd
    split at hd
    · rename_i hc
      obtain ⟨_, hle, hmx⟩ := hc
      rw [hsz] at hd
      cases hm : (List.range len).mapM (fun i => (w.cells? 0 (a.add (i * sz α)) (sz α)).bind (DataW.trod enc P w 0 (fun _ => true) true fuel e)) with
      | none => rw [hm] at hd; cases hd
      | some elems =>
        rw [hm] at hd
        simp only [Option.bind_some, if_true] at hd
        obtain ⟨rest, _, hd2⟩ := Option.map_eq_some_iff.1 hd
        simp only [Prod.mk.injEq] at hd2
        obtain ⟨rfl, _⟩ := hd2
        obtain ⟨hlen, hget⟩ := mapM_range _ len elems hm
        -- one element at a time
        have one : ∀ i (h : i < elems.length), ∃ x : α, (∃ b off, some a = some ⟨b, off, none⟩ ∧ Old w b ∧ ∃ es, Cells w b (off + i * sz α) es ∧ rd w (Old w) es x) ∧ bk x ≤ Rows.uptoBulk (elems[i]).1 := by
          intro i hi
          have h1 := hget i hi
          cases hcs : w.cells? 0 (a.add (i * sz α)) (sz α) with
          | none => rw [hcs] at h1; cases h1
          | some es =>
            rw [hcs] at h1
            simp only [Option.bind_some] at h1
            obtain ⟨x, hr, hb⟩ := ho (d := (elems[i]).1) (ps := (elems[i]).2) h1
            obtain ⟨hl, hc⟩ := mapM_cells hcs
            have h0 := hc 0 (by omega)
            have hspot : a.spot = none := by
              cases hsp : a.spot with
              | none => rfl
              | some k =>
                -- the first element's first cell lies at the address itself
                have h2 := hget 0 (by omega)
                cases hcs0 : w.cells? 0 (a.add (0 * sz α)) (sz α) with
                | none => rw [hcs0] at h2; cases h2
                | some es0 =>
                  obtain ⟨hl0, hc0⟩ := mapM_cells hcs0
                  have h3 := hc0 0 (by omega)
                  have e3 : (a.add (0 * sz α)).add 0 = a := by simp [Addr.add]
                  rw [e3] at h3
                  unfold World.cell? at h3
                  split at h3
                  · simp [hsp] at h3
                  · cases h3
            obtain ⟨b, off, sp⟩ := a
            simp only at hspot
            subst hspot
            rw [WideShapes.add_plain] at hc h0
            have hblt : b < w.heap.size := World.block_lt_of_cell? w _ h0
            refine ⟨x, ⟨b, off, rfl, hblt, es, ?_, hr⟩, hb⟩
            intro j u hu
            obtain ⟨hj, rfl⟩ := List.getElem?_eq_some_iff.1 hu
            have := hc j hj
            rwa [WideShapes.add_plain] at this
        have all : ∀ k, k ≤ elems.length → ∃ xs : List α, xs.length = k ∧ (∀ i (h : i < xs.length), ∃ b off, some a = some ⟨b, off, none⟩ ∧ Old w b ∧ ∃ es, Cells w b (off + i * sz α) es ∧ rd w (Old w) es xs[i]) ∧ bkL xs ≤ Rows.uptoBulkAll ((elems.map (·.1)).take k) := by
          intro k
          induction k with
          | zero => intro _; exact ⟨[], rfl, fun i hi => absurd hi (by simp), by simp [bkL, Rows.uptoBulkAll]⟩
          | succ k ih =>
            intro hk
            obtain ⟨xs, h1, h2, h3⟩ := ih (by omega)
            obtain ⟨x, h4, h5⟩ := one k (by omega)
            refine ⟨xs ++ [x], by simp [h1], ?_, ?_⟩
            · intro i hi
              by_cases hlt : i < xs.length
              · rw [List.getElem_append_left hlt]; exact h2 i hlt
              · have : i = k := by simp at hi; omega
                subst this
                rw [List.getElem_append_right (by omega)]
                simpa [h1] using h4
            · have hb : ∀ (l : List α), bkL (l ++ [x]) = bkL l + bk x := by
                intro l; induction l with
                | nil => simp [bkL]
                | cons y l ih => simp only [List.cons_append, bkL, ih]; omega
              rw [hb, List.take_succ_eq_append_getElem (by simp; omega), bulk_app]
              simp only [List.getElem_map, Rows.uptoBulkAll]
              omega
        obtain ⟨xs, h1, h2, h3⟩ := all elems.length (Nat.le_refl _)
        have hx : xs.length = len := by omega
        refine ⟨xs, ⟨some a, cap, by rw [hx], ⟨by omega, hmx, (fun h => by cases h), h2⟩⟩, ?_⟩
        show bkL xs + 1 ≤ _
        rw [List.take_of_length_le (by simp)] at h3
        simp only [Rows.uptoBulk]
        omega
    · cases hd

theorem Opn.slice {P : Program} {t e : TypeId} {α : Type} [Rep α] [Bk α] [hs : IsS P t e] [ht : IsT P e α] [ho : Opn P e α] : Opn P t (List α) where
  op := by
    intro H enc w fuel cs d ps hd
    cases fuel with
    | zero => simp [DataW.trod] at hd
    | succ fuel => exact slice_op (e := e) (fun h => ho.op h) hd

theorem okWide_form {P : Program} {w : World} {r : Reach} {base : Nat} {t : TypeId} {v : Value} {d : TypeDesc} (hu : P.underlying t = some d) (h : Value.okWide P w r base t v) :
    (aggD d = false → v.oneCell' = true) ∧ (aggD d = true → ∃ cs, v = .agg cs) := by
  unfold Value.okWide at h
  rw [hu] at h
  constructor
  · intro hd
    cases v <;> first
      | rfl
      | (exfalso; cases d <;> simp [aggD] at hd <;> simp [Cell.okWide, Cell.ok, hu] at h)
  · intro hd
    cases d <;> simp [aggD] at hd <;> (obtain ⟨cs, rfl, _⟩ := h; exact ⟨cs, rfl⟩)
/-- an argument, opened -/
theorem Opn.arg {P : Program} {t : TypeId} {α : Type} [Rep α] [Bk α] [ht : IsT P t α] [ho : Opn P t α] {H : Type} {enc : TypeId × Value → H} {w : World} {v : Value} {d : DataW H} {ps : List MemPlace} {r : Reach} {base : Nat}
    (hv : Value.okWide P w r base t v) (h : DataW.Trod enc P w 0 (fun _ => true) true t v d ps) : ∃ x : α, Rd w (Old w) v x ∧ bk x ≤ Rows.uptoBulk d := by
  obtain ⟨i, dd, _, _, h3, h4⟩ := ht.ok
  obtain ⟨f1, f2⟩ := okWide_form h3 hv
  obtain ⟨fuel, hf⟩ := h
  obtain ⟨x, hr, hb⟩ := ho.op hf
  refine ⟨x, ⟨v.cells.toList, ?_, hr⟩, hb⟩
  unfold vOf
  split
  · rename_i he
    obtain ⟨cs, rfl⟩ := f2 (h4.trans he)
    simp [Value.cells]
  · rename_i he
    have := f1 (h4.trans he)
    cases v <;> first | rfl | (simp [Value.oneCell'] at this)

theorem trodAll_below {H : Type} {enc : TypeId × Value → H} {P : Program} (hl : laidOutB P = true) {W W' : World} (hb : Ext W W') : ∀ {ts : List TypeId} {vs : List Value} {ds : List (DataW H)} {ps : List MemPlace},
    (∀ t ∈ ts, P.readableRec t = true ∧ t < P.types.size) → DataW.TrodAll enc P W 0 (fun _ => true) true ts vs ds ps → (∀ x ∈ ps, x.block < W.heap.size) →
    DataW.TrodAll enc P W' 0 (fun b => decide (b < W.heap.size)) true ts vs ds ps
  | [], [], [], _, _, h, _ => h
  | t :: ts, v :: vs, d :: ds, ps, hr, h, hlt => by
    obtain ⟨p, q, h1, h2, rfl⟩ := h
    exact ⟨p, q, Below.trod hl (hr t (by simp)).1 (hr t (by simp)).2 h1 hb (fun x hx => hlt x (by simp [hx])),
      trodAll_below hl hb (fun t ht => hr t (by simp [ht])) h2 (fun x hx => hlt x (by simp [hx])), rfl⟩
  | [], [], _ :: _, _, _, h, _ => h.elim
  | [], _ :: _, [], _, _, h, _ => h.elim
  | [], _ :: _, _ :: _, _, _, h, _ => h.elim
  | _ :: _, [], [], _, _, h, _ => h.elim
  | _ :: _, [], _ :: _, _, _, h, _ => h.elim
  | _ :: _, _ :: _, [], _, _, h, _ => h.elim

/-- the law's end: it returned true, and only new memory was made -/
theorem law_post {H : Type} {enc : TypeId × Value → H} {P : Program} {fn : Func} {s : ChangeSpec} {W W' : World} {args : Array Value} {ds gs : List (DataW H)} {before : List MemPlace} {tb : TypeId}
    (hl : laidOutB P = true) (hW : DataW.Whole enc P fn.params.toList s.vars false W args.toList ds gs before) (hv : s.vars = []) (hr : ∀ t ∈ fn.params.toList, P.readableRec t = true ∧ t < P.types.size)
    (hsp : (s.fn H (ds ++ gs)).results = [.lit (.bool true)] ∧ (s.fn H (ds ++ gs)).args = ds ∧ (s.fn H (ds ++ gs)).vars = []) (hres : fn.resultTypes = #[tb]) (hb : P.underlying tb = some .bool) (hE : Ext W W') :
    s.post enc P fn false true false false W args (.bool true) W' := by
  have hlt := hW.lt
  have hW' := hW
  obtain ⟨p, q, hA, hV, rfl, _, _⟩ := hW
  rw [hv] at hV
  obtain ⟨e1, e2, e3⟩ := hsp
  refine ⟨ds, gs, p ++ q, [], p, [], hW', ?_, ?_, ?_, hE.frame _, fun h => by cases h⟩
  · rw [e1, hres]
    exact trodAll_mk1 (shut_bool hb true)
  · rw [e2]
    exact trodAll_below hl hE hr hA (fun x hx => hlt x (by simp [hx]))
  · rw [e3, hv]
    exact rfl
/- structs -/
instance iOpen9 {α β : Type} [Bk α] [Bk β] : Bk (α × β) := ⟨fun x => bk x.1 + bk x.2⟩
/-- a list of fields, from an offset on -/
class OpnFs (P : Program) (fs : List (TypeId × Nat)) (off : Nat) (α : Type) [Rep α] [Bk α] : Prop where
  op : ∀ {H : Type} {enc : TypeId × Value → H} {w : World} {fuel : Nat} {cs : List Value} {xs : List (DataW H × List MemPlace)}, off + sz α = cs.length →
    (fs.mapM fun f => DataW.trod enc P w 0 (fun _ => true) true fuel f.1 ((cs.drop f.2).take (P.cellsOf f.1))) = some xs → ∃ x : α, rd w (Old w) (cs.drop off) x ∧ bk x ≤ Rows.uptoBulkAll (xs.map (·.1))
theorem cellsOf_T {P : Program} {t : TypeId} {α : Type} [Rep α] [ht : IsT P t α] : P.cellsOf t = sz α := by
  obtain ⟨i, h1, h2⟩ := IsT.info (P := P) (t := t) (α := α)
  simp [Program.cellsOf, h1, h2]
instance OpnFs.one {P : Program} {t : TypeId} {off : Nat} {α : Type} [Rep α] [Bk α] [ht : IsT P t α] [ho : Opn P t α] : OpnFs P [(t, off)] off α where
  op := by
    intro H enc w fuel cs xs hl h
    simp only [List.mapM_cons, List.mapM_nil, Option.bind_eq_bind, Option.pure_def] at h
    cases h1 : DataW.trod enc P w 0 (fun _ => true) true fuel t ((cs.drop off).take (P.cellsOf t)) with
    | none => rw [h1] at h; cases h
    | some d =>
      rw [h1] at h; simp at h; subst h
      obtain ⟨d, ps⟩ := d
      obtain ⟨x, hr, hb⟩ := ho.op h1
      rw [cellsOf_T (α := α), List.take_of_length_le (by rw [List.length_drop]; omega)] at hr
      exact ⟨x, hr, by simpa [Rows.uptoBulkAll] using hb⟩
instance OpnFs.cons {P : Program} {t : TypeId} {off : Nat} {f : TypeId × Nat} {fs : List (TypeId × Nat)} {α β : Type} [Rep α] [Bk α] [Rep β] [Bk β] [ht : IsT P t α] [ho : Opn P t α] [hr : OpnFs P (f :: fs) (off + sz α) β] : OpnFs P ((t, off) :: f :: fs) off (α × β) where
  op := by
    intro H enc w fuel cs xs hl h
    rw [List.mapM_cons] at h
    simp only [Option.bind_eq_bind, Option.pure_def] at h
    have hl' : off + sz α + sz β = cs.length := by
      have : sz (α × β) = sz α + sz β := rfl
      omega
    cases h1 : DataW.trod enc P w 0 (fun _ => true) true fuel t ((cs.drop off).take (P.cellsOf t)) with
    | none => rw [h1] at h; cases h
    | some d =>
      rw [h1] at h
      simp only [Option.bind_some] at h
      obtain ⟨ys, h2, h3⟩ := Option.bind_eq_some_iff.1 h
      cases h3
      obtain ⟨d, ps⟩ := d
      obtain ⟨x, hx, hb⟩ := ho.op h1
      obtain ⟨y, hy, hc⟩ := hr.op hl' h2
      rw [cellsOf_T (α := α)] at hx
      refine ⟨(x, y), ⟨(cs.drop off).take (sz α), cs.drop (off + sz α), ?_, hx, hy⟩, ?_⟩
      · rw [← List.drop_drop, List.take_append_drop]
      · show bk x + bk y ≤ _
        simp only [List.map_cons, Rows.uptoBulkAll]
        omega
def stFact (P : Program) (t : TypeId) : Option (List (TypeId × Nat)) := match P.underlying t with
  | some (.struct fs) => some (fs.toList.map fun f => (f.type, f.offset))
  | _ => none
theorem Opn.struct {P : Program} {t : TypeId} {fs : List (TypeId × Nat)} {α : Type} [Rep α] [Bk α] [ht : IsT P t α] [hf : OpnFs P fs 0 α] (h : stFact P t = some fs) : Opn P t α where
  op := by
    intro H enc w fuel cs d ps hd
    unfold stFact at h
    split at h
    · rename_i gs hu
      cases h
      cases fuel with
      | zero => simp [DataW.trod] at hd
      | succ fuel =>
        unfold DataW.trod at hd
        rw [hu] at hd
        simp only at hd
        split at hd
        · rename_i hl
          obtain ⟨xs, h1, h2⟩ := Option.map_eq_some_iff.1 hd
          cases h2
          have := hf.op (enc := enc) (w := w) (fuel := fuel) (cs := cs) (xs := xs) (by rw [hl, cellsOf_T (α := α)]; omega) (by rw [List.mapM_map]; exact h1)
          obtain ⟨x, hr, hb⟩ := this
          exact ⟨x, by simpa using hr, by simp only [Rows.uptoBulk]; omega⟩
        · cases hd
    · cases h
instance iOpen5 : Opn Try.prog 3 Int := Opn.int Try.underlying3
instance iOpen6 : Opn Try.prog 22 (List Int) := Opn.slice
instance iOpen7 : Opn Try.prog 23 (List (List Int)) := Opn.slice
end Go.Proofs.Ytadbkppgaekmpaa
/-
  The types of the arguments, as the form reads them.
-/
set_option linter.unusedVariables false
namespace Go.Proofs.Ytadbkppgaekmpaa
open Go.RowKit

instance iOpn1 : Opn Try.prog 4 Bool := Opn.bool Try.underlying4
instance iOpn2 : Opn Try.prog 33 Nat := Opn.u64 Try.underlying33
instance iOpn3 : Opn Try.prog 9 ByteArray := Opn.string Try.underlying9
instance iOpn4 : Opn Try.prog 27 Int := Opn.int Try.underlying27
instance iOpn5 : Opn Try.prog 97 (List Bool) := Opn.slice
instance iOpn6 : Opn Try.prog 24 (List Nat) := Opn.slice
instance iOpn10 : Opn Try.prog 59 (ByteArray × Int) := Opn.struct (fs := [(9, 0), (3, 1)]) (by kernel_rfl)
instance iOpn11 : Opn Try.prog 62 (Int × Int) := Opn.struct (fs := [(3, 0), (3, 1)]) (by kernel_rfl)
instance iOpn12 : Opn Try.prog 92 (Int × Int × Int) := Opn.struct (fs := [(3, 0), (3, 1), (3, 2)]) (by kernel_rfl)
instance iOpn13 : Opn Try.prog 77 (Int × Int) := Opn.struct (fs := [(3, 0), (3, 1)]) (by kernel_rfl)
instance iOpn14 : Opn Try.prog 50 (List (ByteArray × Int)) := Opn.slice
instance iOpn15 : Opn Try.prog 51 (List (Int × Int)) := Opn.slice
instance iOpn16 : Opn Try.prog 86 (List (Int × Int × Int)) := Opn.slice
instance iOpn17 : Opn Try.prog 74 (List (Int × Int)) := Opn.slice
instance iOpn18 : Opn Try.prog 42 (List Nat × List Nat) := Opn.struct (fs := [(24, 0), (24, 1)]) (by kernel_rfl)
instance iOpn19 : Opn Try.prog 101 (List Int × List Int) := Opn.struct (fs := [(22, 0), (22, 1)]) (by kernel_rfl)
instance iOpn22 : Opn Try.prog 81 (List Int × List (List Int) × List Nat × List (List Int)) := Opn.struct (fs := [(22, 0), (23, 1), (24, 2), (23, 3)]) (by kernel_rfl)
instance iOpn23 : Opn Try.prog 26 (List Int × List (List Int) × List Nat × List Nat × List (List Int)) := Opn.struct (fs := [(22, 0), (23, 1), (24, 2), (24, 3), (23, 4)]) (by kernel_rfl)
instance iOpn24 : Opn Try.prog 53 (List (ByteArray × Int) × List (Int × Int)) := Opn.struct (fs := [(50, 0), (51, 1)]) (by kernel_rfl)
instance iOpn25 : Opn Try.prog 116 (Bool × List Int × List Int) := Opn.struct (fs := [(4, 0), (22, 1), (22, 2)]) (by kernel_rfl)
end Go.Proofs.Ytadbkppgaekmpaa
/-
  Bulk of lists of numbers.
-/
namespace Go.Proofs.Ytadbkppgaekmpaa
open Go.RowKit

theorem bulk_flat {α : Type} [Bk α] (h : ∀ x : α, bk x = 1) : ∀ l : List α, bkL l = l.length
  | [] => rfl
  | x :: r => by simp only [bkL, h, bulk_flat h r, List.length_cons]; omega
theorem bulk_l (l : List Int) : l.length + 1 = bk l := by show _ = bkL l + 1; rw [bulk_flat (fun _ => rfl)]
theorem bulk_b (l : List Bool) : l.length + 1 = bk l := by show _ = bkL l + 1; rw [bulk_flat (fun _ => rfl)]
theorem bulk_n (l : List Nat) : l.length + 1 = bk l := by show _ = bkL l + 1; rw [bulk_flat (fun _ => rfl)]
theorem bulk_g : ∀ g : List (List Int), edges g + g.length ≤ bkL g
  | [] => by simp [edges, bkL]
  | l :: g => by
    have h1 := bulk_g g
    have h3 : bk l = l.length + 1 := (bulk_l l).symm
    simp only [bkL, h3, edges, List.map_cons, List.sum_cons, List.length_cons] at h1 ⊢
    omega
theorem bulk_gg (g : List (List Int)) : edges g + g.length + 1 ≤ bk g := by
  have := bulk_g g
  show _ ≤ bkL g + 1
  omega
end Go.Proofs.Ytadbkppgaekmpaa
