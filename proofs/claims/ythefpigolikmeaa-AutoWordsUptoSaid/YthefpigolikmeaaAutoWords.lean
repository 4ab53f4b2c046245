/-
  AutoWords: walked.
-/
import Derived.Test.YthefpigolikmeaaOnes
set_option linter.unusedVariables false
set_option linter.unusedSimpArgs false
namespace Go.Proofs.Ythefpigolikmeaa
open Go.RowKit

theorem AutoAt.up {w w' : World} {v : Value} {A : LAuto} (h : AutoAt w (Old w) v A) (hE : Ext w w') : AutoAt w' (Old w') v A := by
  obtain ⟨a1, c1, a2, c2, a3, c3, a4, c4, a5, c5, hv, h1, h2, h3, h4, h5⟩ := h.ok
  exact ⟨a1, c1, a2, c2, a3, c3, a4, c4, a5, c5, hv, h1.up hE, h2.up hE, h3.up hE, h4.up hE, h5.up hE⟩
theorem accF_ok {A : LAuto} {s l : List Nat} (h : (accF A s l).2 = 0) : OkA A ∧ chkW s l = 0 ∧ (accF A s l).1 = accB A (lat s l) := by
  unfold accF at h ⊢
  split at h
  · rename_i h1; exact absurd h h1
  rename_i h1
  split at h
  · rename_i h2; exact absurd h h2
  rename_i h2
  rw [if_neg h1, if_neg h2]
  exact ⟨chkA_ok (by simpa using h1), by simpa using h2, rfl⟩
theorem accF_err {A : LAuto} {s l : List Nat} (h : (accF A s l).2 ≠ 0) : (accF A s l).1 = false := by
  unfold accF at h ⊢
  split
  · rfl
  split
  · rfl
  rename_i h1 h2
  rw [if_neg h1, if_neg h2] at h
  exact absurd rfl h
theorem accB_le {A B : LAuto} {L : Nat → Nat} (h : Acc A.1 A.2.1 A.2.2.1 A.2.2.2.1 A.2.2.2.2 L → Acc B.1 B.2.1 B.2.2.1 B.2.2.2.1 B.2.2.2.2 L) (ha : accB A L = true) : accB B L = true := accB_iff.2 (h (accB_iff.1 ha))
theorem AutoWords_ok (w0 : World) {v0 : Value} {A : LAuto} {s l : List Nat} {so lo to : Option Addr} {sc lc tc : Nat} {set : List Int} (ha : AutoAt w0 (Old w0) v0 A) (hs : Sl w0 (Old w0) so sc s) (hl : Sl w0 (Old w0) lo lc l) (ht : Sl w0 (Old w0) to tc set) (k : Int)
    (hT : edges A.2.1 + A.1.length ≤ 8589934592) :
    Rt Try.prog 7 [v0, wordV so sc lo lc s l, .int .i64 k, .slice to set.length tc].toArray w0 fun v w' => v = .bool true ∧ Ext w0 w' := by
  obtain ⟨a1, c1, a2, c2, a3, c3, a4, c4, a5, c5, rfl, h1, h2, h3, h4, h5⟩ := ha.ok
  obtain ⟨st, nx, mu, no, fr⟩ := A
  dsimp only at *
  have hm1 := h1.len63
  have hm5 := h5.len63
  refine Rt.enter4 Try.func7 Try.ntmps7 rfl rfl ?_
  have hE := Ext.refl w0
  (repeat (first | (apply CW.seq) | (apply CW.region)))
  refine WL.boxB rfl rfl rfl fun w1 hb4 e1 => ?_
  have hE := hE.trans e1
  have y1 := hb4.lt
  skip
  refine WL.boxB rfl rfl rfl fun w2 hb5 e2 => ?_
  have hb4 := hb4.ext e2
  have hE := hE.trans e2
  have y2 := hb5.lt
  have z1 := e1.size
  have z2 := e2.size
  (repeat (first | (apply WL.pure; rfl; rfl; rfl) | (apply WL.nil) | (apply EX.thenN) | (apply CW.seq) | (apply CW.region)))
  refine WL.call rfl rfl rfl (ever_ok w2) ?_
  rintro _ w3 ⟨rfl, e3⟩
  have hb4 := hb4.ext e3
  have hb5 := hb5.ext e3
  have hE := hE.trans e3
  have z3 := e3.size
  (repeat (first | (apply WL.pure; rfl; rfl; rfl) | (apply WL.nil) | (apply EX.thenN) | (apply CW.seq) | (apply CW.region) | (apply WL.ldA; rfl; rfl; rfl; assumption; rfl) | (apply CW.condF; rfl) | (apply CW.skip)))
  refine WL.call rfl rfl rfl (Accepts_ok w3 (A := (st, nx, mu, no, fr)) (ha.up hE) (hs.up hE) (hl.up hE) hT) ?_
  rintro _ w4 ⟨rfl, e4⟩
  have hb4 := hb4.ext e4
  have hb5 := hb5.ext e4
  have hE := hE.trans e4
  have z4 := e4.size
  clear e1 e2 e3 e4
  (repeat (first | (apply WL.pure; rfl; rfl; rfl) | (apply WL.nil) | (apply EX.thenN) | (apply CW.seq) | (apply CW.region)))
  refine CW.cond rfl (fun h => ?_) (fun h => ?_)
  · have h : (accF (st, nx, mu, no, fr) s l).2 ≠ 0 := by simpa using h
    (repeat (first | (apply WL.pure; rfl; rfl; rfl) | (apply WL.nil) | (apply EX.thenN) | (apply CW.seq) | (apply CW.region) | (apply CW.ret) | (apply EX.thenR)))
    refine EX.ret1 rfl rfl ⟨?_, hE⟩
    rw [accF_err h]; rfl
  have h : (accF (st, nx, mu, no, fr) s l).2 = 0 := by simpa using h
  obtain ⟨hok, hW, hx⟩ := accF_ok h
  rw [hx]
  obtain ⟨h60, h0⟩ := chkW_ok hW
  have hf80 := hok.f
  dsimp only at hf80
  clear h hx
  (repeat (first | (apply WL.pure; rfl; rfl; rfl) | (apply EX.thenN) | (apply CW.seq) | (apply CW.region) | (apply WL.ldA; rfl; rfl; rfl; assumption; rfl) | (apply CW.skip)))
  refine WL.call rfl rfl rfl (unrolled_ok w4 (hs.up hE) (hl.up hE) k (by omega)) ?_
  rintro _ w5 ⟨hv, e5⟩
  have hb4 := hb4.ext e5
  have hb5 := hb5.ext e5
  have hE := hE.trans e5
  have z5 := e5.size
  have hn := Int.emod_nonneg k (show ((l.length : Int) + 1) ≠ 0 by omega)
  have hn2 := Int.emod_lt_of_pos k (show (0 : Int) < (l.length : Int) + 1 by omega)
  have hlat := fun i => lat_unroll (s := s) h0 (n := (k % ((l.length : Int) + 1)).toNat) (by omega) i
  generalize s ++ l.take (k % ((l.length : Int) + 1)).toNat = s' at hv hlat
  generalize l.drop (k % ((l.length : Int) + 1)).toNat ++ l.take (k % ((l.length : Int) + 1)).toNat = l' at hv hlat
  obtain ⟨so', sc', lo', lc', rfl, hs', hl'⟩ := hv.word
  have hs' := hs'.mono (F' := Old w5) (fun _ _ => rfl) (fun b hb => hb.2)
  have hl' := hl'.mono (F' := Old w5) (fun _ _ => rfl) (fun b hb => hb.2)
  dsimp only at hs' hl'
  skip
  refine WL.alloc rfl rfl (fun w6 hb6 e6 => ?_)
  have hb4 := hb4.ext e6
  have hb5 := hb5.ext e6
  have hE := hE.trans e6
  have z6 := hb6.lt
  skip
  refine WL.st rfl rfl rfl hb6 rfl rfl (ones_of rfl) (fun w7 hb7 hg7 => ?_)
  have e7 : Ext w5 w7 := e6.grown hg7 e6.size (fun g hg => by cases hg; exact Nat.le_refl _)
  have hb4 := hb4.kept hg7 (by simp; omega)
  have hb5 := hb5.kept hg7 (by simp; omega)
  have hE : Ext w0 w7 := hE.grown hg7 hE.size (fun g hg => by cases hg; omega)
  have hs' := hs'.up e7
  have hl' := hl'.up e7
  have z7 := e7.size
  clear e5 e6 e7 hg7 hv
  (repeat (first | (apply WL.nil) | (apply EX.thenN) | (apply CW.seq) | (apply CW.region) | (apply WL.ldA; rfl; rfl; rfl; assumption; rfl)))
  refine WL.call rfl rfl rfl (Accepts_ok w7 (A := (st, nx, mu, no, fr)) (ha.up hE) hs' hl' hT) ?_
  rintro _ w8 ⟨rfl, e8⟩
  have hb4 := hb4.ext e8
  have hb5 := hb5.ext e8
  have hE := hE.trans e8
  have z8 := e8.size
  clear hs' hl' e8
  have hy : (accF (st, nx, mu, no, fr) s' l').2 = 0 → (accF (st, nx, mu, no, fr) s' l').1 = accB (st, nx, mu, no, fr) (lat s l) := fun h => by
    rw [(accF_ok h).2.2, show lat s' l' = lat s l from funext hlat]
  generalize (accF (st, nx, mu, no, fr) s' l').1 = y1' at *
  generalize (accF (st, nx, mu, no, fr) s' l').2 = y2' at *
  (repeat (apply WL.pure; rfl; rfl; rfl))
  apply WL.nil
  apply EX.thenN
  refine CW.cut [(3, .slice to set.length tc), (4, .pointer (some ⟨w0.heap.size, 0, none⟩)), (5, .pointer (some ⟨w1.heap.size, 0, none⟩)), (9, .bool (accB (st, nx, mu, no, fr) (lat s l)))] ?_ ?_
  · (repeat (first | (apply WL.pure; rfl; rfl; rfl) | (apply CW.seq) | (apply CW.region)))
    by_cases hy2 : y2' = 0
    · rw [hy hy2, hy2]
      (repeat (first | (apply WL.pure; rfl; rfl; rfl) | (apply WL.nil) | (apply EX.thenN) | (apply WL.neB; rfl; rfl; rfl; rfl)))
      refine CW.cond rfl (fun h => ?_) (fun h => ?_)
      · simp at h
      · exact CW.skip (EX.cut (by repeat (first | exact trivial | refine ⟨rfl, ?_⟩)))
    · have : (y2' == 0) = false := by simpa using hy2
      rw [this]
      (repeat (first | (apply WL.pure; rfl; rfl; rfl) | (apply WL.nil) | (apply EX.thenN) | (apply WL.pass; rfl; rfl) | (apply CW.condF; rfl) | (apply CW.skip)))
      exact EX.cut (by repeat (first | exact trivial | refine ⟨rfl, ?_⟩))
  clear hy
  (repeat (first | (apply CW.seq) | (apply CW.region) | (apply WL.ldA; rfl; rfl; rfl; assumption; rfl)))
  refine WL.alloc rfl rfl (fun w9 hb14 e9 => ?_)
  have hb4 := hb4.ext e9
  have hb5 := hb5.ext e9
  have y14 := hb14.lt
  skip
  refine WL.st rfl rfl rfl hb14 rfl rfl (ones_of rfl) (fun w10 hb14 hg10 => ?_)
  have e10 : Ext w8 w10 := e9.grown hg10 e9.size (fun g hg => by cases hg; exact Nat.le_refl _)
  have hb4 := hb4.kept hg10 (by simp; omega)
  have hb5 := hb5.kept hg10 (by simp; omega)
  have hE10 := hE.trans e10
  have z10 := e10.size
  have y14b := hb14.lt
  clear hg10 e9
  (repeat (first | (apply WL.nil) | (apply EX.thenN) | (apply CW.seq) | (apply CW.region) | (apply WL.fa; rfl; rfl; rfl) | (apply WL.ld; rfl; rfl; rfl; assumption; rfl)))
  refine WL.call rfl rfl rfl (clone_ll w10 (h5.at hE10) (fun b hb => Nat.lt_of_lt_of_le hb hE10.size) (by omega)) ?_
  rintro cV w11 ⟨hoc, e11⟩
  have hb4 := hb4.ext e11
  have hb5 := hb5.ext e11
  have hb14 := hb14.ext e11
  have hE11 := hE10.trans e11
  have z11 := e11.size
  (repeat (apply WL.pure; rfl; rfl; rfl))
  refine WL.app1 (F := Old w0) (yv := set) rfl rfl (fun _ => rfl) rfl rfl (fun _ => rfl) hoc ((ht.at hE11).rd) e11.size (fun b hb => Nat.lt_of_lt_of_le hb hE11.size) (by decide) (by unfold maxLen; omega) (by omega) (fun v' w12 p ho12 hg12 hnb => ?_)
  have hcb : ∀ b, cV.ownBlock = some b → w10.heap.size ≤ b := fun b hb => (hoc.lt b hb).1
  have hb4 := hb4.kept hg12 (fun e => by have := hcb _ e.symm; omega)
  have hb5 := hb5.kept hg12 (fun e => by have := hcb _ e.symm; omega)
  have hb14 := hb14.kept hg12 (fun e => by have := hcb _ e.symm; have := hb14.lt; omega)
  have hE12 : Ext w0 w12 := hE11.grown hg12 hE11.size (fun b hb => by have := hcb b hb; omega)
  have z12 := hg12.size
  obtain ⟨fo, fc, hfv, hfr⟩ := ho12.sl
  subst hfv
  rw [show (fr ++ [set]).length = fr.length + 1 by simp]
  (repeat (apply WL.fa; rfl; rfl; rfl))
  refine WL.st rfl rfl rfl hb14 rfl rfl (ones_of rfl) (fun w13 hb14' hg13 => ?_)
  have hb4 := hb4.kept hg13 (by simp; omega)
  have hb5 := hb5.kept hg13 (by simp; omega)
  have hE13 : Ext w0 w13 := hE12.grown hg13 hE12.size (fun g hg => by cases hg; omega)
  have z13 := hg13.size
  have hfr13 : Sl w13 (Old w13) fo fc (fr ++ [set]) := hfr.mono (fun b hb => hg13.block b (hb.elim (fun h => Nat.lt_of_lt_of_le h hE12.size) (fun h => (ho12.lt b h).2.1)) (fun e => by
      cases e
      rcases hb with h | h
      · have : w8.heap.size < w0.heap.size := h
        omega
      · have := (ho12.lt _ h).1; omega)) (fun b hb => hb.elim (fun h => Nat.lt_of_lt_of_le h hE13.size) (fun h => Nat.lt_of_lt_of_le (ho12.lt b h).2.1 z13))
  clear ho12 hfr hoc hg12 hg13 hnb hcb e11 e10 hE10 hE11 hE12 hb14
  skip
  apply WL.nil
  apply EX.thenN
  refine CW.cutE [(4, .pointer (some ⟨w0.heap.size, 0, none⟩)), (5, .pointer (some ⟨w1.heap.size, 0, none⟩)), (9, .bool (accB (st, nx, mu, no, fr) (lat s l)))] ?_ ?_
  · (repeat (first | (apply CW.seq) | (apply CW.region) | (apply WL.ldA; rfl; rfl; rfl; assumption; rfl)))
    refine WL.call rfl rfl rfl (Accepts_ok w13 (A := (st, nx, mu, no, fr ++ [set])) ⟨a1, c1, a2, c2, a3, c3, a4, c4, fo, fc, by simp, h1.up hE13, h2.up hE13, h3.up hE13, h4.up hE13, hfr13⟩ (hs.up hE13) (hl.up hE13) hT) ?_
    rintro _ w14 ⟨rfl, e14⟩
    have hz : (accF (st, nx, mu, no, fr ++ [set]) s l).2 = 0 → (accF (st, nx, mu, no, fr ++ [set]) s l).1 = true → accB (st, nx, mu, no, fr) (lat s l) = true := fun h h' => by
      rw [(accF_ok h).2.2] at h'
      exact accB_le (fun h => h.more (fun F hF => List.mem_append.2 (.inl hF))) h'
    generalize (accF (st, nx, mu, no, fr ++ [set]) s l).1 = z1' at *
    generalize (accF (st, nx, mu, no, fr ++ [set]) s l).2 = z2' at *
    by_cases hz2 : z2' = 0
    · rw [hz2]
      by_cases hz1 : z1' = true
      · rw [hz1, hz hz2 hz1]
        (repeat (first | (apply WL.pure; rfl; rfl; rfl) | (apply WL.nil) | (apply EX.thenN) | (apply CW.seq) | (apply CW.region) | (apply CW.condF; rfl) | (apply CW.skip)))
        exact EX.cutE (by repeat (first | exact trivial | refine ⟨rfl, ?_⟩)) e14
      · have hz1 : z1' = false := by simpa using hz1
        rw [hz1]
        (repeat (first | (apply WL.pure; rfl; rfl; rfl) | (apply WL.nil) | (apply EX.thenN) | (apply CW.seq) | (apply CW.region) | (apply WL.pass; rfl; rfl) | (apply CW.condF; rfl) | (apply CW.skip)))
        exact EX.cutE (by repeat (first | exact trivial | refine ⟨rfl, ?_⟩)) e14
    · have : (z2' == 0) = false := by simpa using hz2
      (repeat (first | (apply WL.pure; rfl; rfl; rfl) | (apply WL.nil) | (apply EX.thenN) | (apply CW.seq) | (apply CW.region)))
      rw [this]
      (repeat (first | (apply WL.pure; rfl; rfl; rfl) | (apply WL.nil) | (apply EX.thenN) | (apply WL.pass; rfl; rfl) | (apply CW.condF; rfl) | (apply CW.skip)))
      exact EX.cutE (by repeat (first | exact trivial | refine ⟨rfl, ?_⟩)) e14
  rintro w14 e14
  have hb4 := hb4.ext e14
  have hb5 := hb5.ext e14
  have hE14 := hE13.trans e14
  have z14 := e14.size
  (repeat (first | (apply CW.seq) | (apply CW.region) | (apply WL.ldA; rfl; rfl; rfl; assumption; rfl)))
  refine WL.alloc rfl rfl (fun w15 hb17 e15 => ?_)
  have hb4 := hb4.ext e15
  have hb5 := hb5.ext e15
  have y17 := hb17.lt
  skip
  refine WL.st rfl rfl rfl hb17 rfl rfl (ones_of rfl) (fun w16 hb17 hg16 => ?_)
  have e16 : Ext w14 w16 := e15.grown hg16 e15.size (fun g hg => by cases hg; exact Nat.le_refl _)
  have hb4 := hb4.kept hg16 (by simp; omega)
  have hb5 := hb5.kept hg16 (by simp; omega)
  have hE16 := hE14.trans e16
  have z16 := e16.size
  (repeat (first | (apply WL.nil) | (apply EX.thenN) | (apply CW.seq) | (apply CW.region) | (apply WL.lenS; rfl; rfl; rfl) | (apply WL.fa; rfl; rfl; rfl) | (apply WL.ld; rfl; rfl; rfl; assumption; rfl)))
  refine WL.quo rfl rfl rfl rfl (by omega) (by omega) (by omega) ?_
  rw [show (st.length : Int) / 2 = ((st.length / 2 : Nat) : Int) by omega]
  have hle := h1.le
  refine WL.cutHi (α := Int) (st.length / 2) rfl rfl rfl rfl rfl (by omega) ?_
  (repeat (apply WL.fa; rfl; rfl; rfl))
  refine WL.st rfl rfl rfl hb17 rfl rfl (ones_of rfl) (fun w17 hb17 hg17 => ?_)
  have hb4 := hb4.kept hg17 (by simp; omega)
  have hb5 := hb5.kept hg17 (by simp; omega)
  have hE17 : Ext w0 w17 := hE16.grown hg17 hE16.size (fun g hg => by cases hg; omega)
  have htl : (st.take (st.length / 2)).length = st.length / 2 := by rw [List.length_take]; omega
  have hst2 := (h1.up hE17).take (k := st.length / 2) (by omega)
  (repeat (first | (apply WL.nil) | (apply EX.thenN) | (apply CW.seq) | (apply CW.region) | (apply WL.ldA; rfl; rfl; rfl; assumption; rfl)))
  refine WL.call rfl rfl rfl (Accepts_ok w17 (A := (st.take (st.length / 2), nx, mu, no, fr)) ⟨a1, c1, a2, c2, a3, c3, a4, c4, a5, c5, (by dsimp only; rw [htl]), hst2, h2.up hE17, h3.up hE17, h4.up hE17, h5.up hE17⟩ (hs.up hE17) (hl.up hE17) (by dsimp only; omega)) ?_
  rintro _ w18 ⟨rfl, e18⟩
  have hA2 : chkA (st.take (st.length / 2), nx, mu, no, fr) = 0 := chkA_of ⟨hok.n, hok.f, hok.mu, hok.no, fun x hx => hok.st x (List.mem_of_mem_take hx), hok.nx, hok.fr⟩
  have hacc : accF (st.take (st.length / 2), nx, mu, no, fr) s l = (accB (st.take (st.length / 2), nx, mu, no, fr) (lat s l), 0) := by
    unfold accF
    rw [if_neg (by simp [hA2]), if_neg (by simp [hW])]
  have hle2 : accB (st.take (st.length / 2), nx, mu, no, fr) (lat s l) = true → accB (st, nx, mu, no, fr) (lat s l) = true := accB_le (fun h => h.fewer (fun x hx => List.mem_of_mem_take hx))
  rw [hacc]
  dsimp only
  generalize accB (st.take (st.length / 2), nx, mu, no, fr) (lat s l) = q1 at *
  generalize accB (st, nx, mu, no, fr) (lat s l) = q2 at *
  (repeat (first | (apply WL.pure; rfl; rfl; rfl) | (apply WL.nil) | (apply EX.thenN) | (apply CW.seq) | (apply CW.region)))
  cases q2 with
  | true =>
    (repeat (first | (apply WL.pure; rfl; rfl; rfl) | (apply WL.nil) | (apply EX.thenN) | (apply WL.pass; rfl; rfl) | (apply CW.ret)))
    exact EX.ret1 rfl rfl ⟨rfl, hE17.trans e18⟩
  | false =>
    have : q1 = false := by cases q1 with | false => rfl | true => exact absurd (hle2 rfl) (by simp)
    subst this
    (repeat (first | (apply WL.pure; rfl; rfl; rfl) | (apply WL.nil) | (apply EX.thenN) | (apply CW.ret)))
    exact EX.ret1 rfl rfl ⟨rfl, hE17.trans e18⟩
end Go.Proofs.Ythefpigolikmeaa
