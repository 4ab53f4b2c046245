/-
  Package dwyer: answered, keeps.
-/
import Derived.Test.YthojdcbpglipeaaDwyer2
set_option linter.unusedVariables false
set_option linter.unusedSimpArgs false
namespace Go.Proofs.Ythojdcbpglipeaa
open Go.RowKit

def ansGo (s l : List Nat) (e P S : Nat) (i to : Nat) : Bool := if i < to then (if hasL s l i P = true ∧ firstL s l e i S = e then false else ansGo s l e P S (i + 1) to) else true
termination_by to - i
abbrev spanV (a b : Nat) : Value := .agg [.int .i64 (a : Int), .int .i64 (b : Int)].toArray
section
variable {w w' : World} {F : Nat → Prop} {b : Nat} {pt : LPat} {so : Option Addr} {sc : Nat} {lo : Option Addr} {lc : Nat} {s l : List Nat} {e : Nat}

theorem answered_ok (L : LookAt w F b pt so sc lo lc s l e) (fr to : Nat) (hfr : fr ≤ 100000) (hto : to ≤ 100000) (hP : 0 ≤ pt.2.2.1) (hS : 0 ≤ pt.2.2.2.1) :
    Rt Try.prog 78 [.pointer (some ⟨b, 0, none⟩), spanV fr to].toArray w fun v w' => v = .bool (ansGo s l e pt.2.2.1.toNat pt.2.2.2.1.toNat fr to) ∧ Ext w w' := by
  refine Rt.enter2 Try.func78 Try.ntmps78 rfl rfl ?_
  (repeat (first | (apply CW.seq) | (apply CW.region)))
  refine WL.boxB rfl rfl rfl fun w0 hbs hE0 => ?_
  (repeat (first | (apply WL.pure; rfl; rfl; rfl) | (apply WL.nil) | (apply EX.thenN) | (apply CW.seq) | (apply CW.region) | (apply WL.fa; rfl; rfl; rfl) | (apply WL.ld; rfl; rfl; rfl; assumption; rfl) | (apply CW.block)))
  refine CW.loop (S := Nat) (fun k => [(0, .pointer (some ⟨b, 0, none⟩)), (3, .pointer (some ⟨w.heap.size, 0, none⟩)), (5, .int .i64 (k : Int))])
    (fun k w1 => Ext w0 w1 ∧ ansGo s l e pt.2.2.1.toNat pt.2.2.2.1.toNat k to = ansGo s l e pt.2.2.1.toNat pt.2.2.2.1.toNat fr to ∧ k < 100001) (fun k => 100001 - k) fr (by repeat (first | exact trivial | refine ⟨rfl, ?_⟩)) ⟨Ext.refl _, rfl, by omega⟩ ?_
  rintro k w1 ⟨hE, hk, hlt⟩
  have hE1 := hE0.trans hE
  have L1 := L.ext hE1
  have hb := L1.blk
  have hbs1 := hbs.ext hE
  (repeat (first | (apply WL.pure; rfl; rfl; rfl) | (apply WL.nil) | (apply EX.thenN) | (apply CW.seq) | (apply CW.region) | (apply WL.fa; rfl; rfl; rfl) | (apply WL.ld; rfl; rfl; rfl; assumption; rfl)))
  refine CW.cond rfl (fun h0 => ?_) (fun h0 => ?_) <;> simp at h0
  · (repeat (first | (apply QL.pure; rfl; rfl; rfl) | (apply EX.thenN) | (apply CW.seq) | (apply QL.fa; rfl; rfl; rfl) | (apply QL.nck; rfl; rfl; rfl) | (apply QL.ld; rfl; rfl; rfl; assumption; rfl) | (apply CW.block) | (apply CW.skip) | (apply CW.draw; exact mixed; kernel_rfl)))
    refine QL.call rfl rfl rfl (fun w2 h2 => has_ok (L1.ext h2) k (by omega) _ hP) ?_
    (repeat (apply QL.pure; rfl; rfl; rfl))
    (refine QL.lookG rfl rfl (fun h => ?_) (fun h => ?_))
    · (repeat (first | (apply QL.pure; rfl; rfl; rfl) | (apply QL.fa; rfl; rfl; rfl) | (apply QL.nck; rfl; rfl; rfl) | (apply QL.ld; rfl; rfl; rfl; assumption; rfl)))
      refine QL.call rfl rfl rfl (fun w2 h2 => first_ok (L1.ext h2) k (by omega) _ hS) ?_
      (repeat (first | (apply QL.pure; rfl; rfl; rfl) | (apply QL.fa; rfl; rfl; rfl) | (apply QL.nck; rfl; rfl; rfl) | (apply QL.ld; rfl; rfl; rfl; assumption; rfl)))
      refine QL.nil fun w2 hE2 => ?_
      have hE3 := hE1.trans hE2
      (repeat (apply EX.thenN))
      refine CW.cond rfl (fun h1 => ?_) (fun h1 => ?_) <;> simp at h1
      · (repeat (first | (apply WL.pure; rfl; rfl; rfl) | (apply WL.nil) | (apply EX.thenN) | (apply CW.seq) | (apply CW.region) | (apply CW.ret) | (apply EX.thenR) | (apply EX.inR)))
        refine EX.ret1 rfl rfl ⟨?_, hE3⟩
        rw [← hk, ansGo, if_pos h0, if_pos ⟨by assumption, by omega⟩]
      · (repeat (first | (apply WL.add; rfl; rfl; rfl; rfl; omega; omega) | (apply WL.pure; rfl; rfl; rfl) | (apply WL.nil) | (apply EX.thenN) | (apply CW.region) | (apply EX.inN) | (apply CW.skip)))
        refine EX.back (k + 1) (by repeat (first | exact trivial | refine ⟨rfl, ?_⟩)) ⟨hE.trans hE2, ?_, by omega⟩ (by omega)
        rw [← hk, ansGo.eq_1 s l e _ _ k to, if_pos h0, if_neg (by rintro ⟨_, h'⟩; exact h1 (by omega))]
    · have hh := h
      (repeat (first | (apply QL.pure; rfl; rfl; rfl) | (apply QL.pass; rfl; rfl)))
      refine QL.nil fun w2 hE2 => ?_
      (repeat (first | (apply WL.add; rfl; rfl; rfl; rfl; omega; omega) | (apply WL.pure; rfl; rfl; rfl) | (apply WL.nil) | (apply EX.thenN) | (apply CW.region) | (apply EX.inN) | (apply CW.condF; rfl) | (apply CW.skip)))
      refine EX.back (k + 1) (by repeat (first | exact trivial | refine ⟨rfl, ?_⟩)) ⟨hE.trans hE2, ?_, by omega⟩ (by omega)
      rw [← hk, ansGo.eq_1 s l e _ _ k to, if_pos h0, if_neg (by rintro ⟨h', _⟩; rw [h'] at hh; cases hh)]
  · (repeat (first | (apply WL.pure; rfl; rfl; rfl) | (apply WL.nil) | (apply EX.thenN) | (apply CW.seq) | (apply CW.region) | (apply CW.exit) | (apply EX.thenX) | (apply EX.inX) | (apply CW.ret)))
    refine EX.ret1 rfl rfl ⟨?_, hE1⟩
    rw [← hk, ansGo, if_neg (by omega)]

/-- one place of a span -/
abbrev KS := Nat × Bool × Bool × Bool
def kStep (s l : List Nat) (e : Nat) (k : Int) (P S to : Nat) (i : Nat) (st : KS) : KS :=
  let early := st.2.1 || (decide (k = 5) && hasL s l i S)
  if hasL s l i P = true then (st.1 + 1, early, st.2.2.1 && !(decide (k = 5) && !early) && !(decide (k = 6) && decide (firstL s l e i S ≥ to)), st.2.2.2)
  else (st.1, early, st.2.2.1, false)
def kGo (s l : List Nat) (e : Nat) (k : Int) (P S : Nat) (i to : Nat) (st : KS) : KS := if i < to then kGo s l e k P S (i + 1) to (kStep s l e k P S to i st) else st
termination_by to - i
def keepsB (k c : Int) (st : KS) : Bool := if k = 1 then decide (st.1 = 0) else if k = 2 then st.2.2.2 else if k = 3 then decide (0 < st.1) else if k = 4 then decide ((st.1 : Int) ≤ c) else st.2.2.1
def keepsL (pt : LPat) (s l : List Nat) (e fr to : Nat) : Bool := keepsB pt.1 pt.2.2.2.2.2.2 (kGo s l e pt.1 pt.2.2.1.toNat pt.2.2.2.1.toNat fr to (0, false, true, true))

theorem kGo_step {k : Int} {P S i to : Nat} {st : KS} (h : i < to) : kGo s l e k P S i to st = kGo s l e k P S (i + 1) to (kStep s l e k P S to i st) := by rw [kGo, if_pos h]
theorem kGo_end {k : Int} {P S i to : Nat} {st : KS} (h : ¬ i < to) : kGo s l e k P S i to st = st := by rw [kGo, if_neg h]
theorem kStep_no {k : Int} {P S i to m : Nat} {ea la un : Bool} (h : hasL s l i P = false) : kStep s l e k P S to i (m, ea, la, un) = (m, ea || (decide (k = 5) && hasL s l i S), la, false) := by
  unfold kStep; simp [h]
theorem kStep_hit {k : Int} {P S i to m : Nat} {ea la un : Bool} (h : hasL s l i P = true) : kStep s l e k P S to i (m, ea, la, un) = (m + 1, ea || (decide (k = 5) && hasL s l i S), la && !(decide (k = 5) && !(ea || (decide (k = 5) && hasL s l i S))) && !(decide (k = 6) && decide (firstL s l e i S ≥ to)), un) := by
  unfold kStep; simp [h]
theorem keeps_ok (L : LookAt w F b pt so sc lo lc s l e) (fr to : Nat) (hfr : fr ≤ 100000) (hto : to ≤ 100000) (hP : 0 ≤ pt.2.2.1) (hS : 0 ≤ pt.2.2.2.1) :
    Rt Try.prog 79 [.pointer (some ⟨b, 0, none⟩), spanV fr to].toArray w fun v w' => v = .bool (keepsL pt s l e fr to) ∧ Ext w w' := by
  refine Rt.enter2 Try.func79 Try.ntmps79 rfl rfl ?_
  obtain ⟨kd, scp, P, S, q, r, c⟩ := pt
  simp only at hP hS
  (repeat (first | (apply CW.seq) | (apply CW.region)))
  refine WL.boxB rfl rfl rfl fun w0 hbs hE0 => ?_
  (repeat (first | (apply WL.pure; rfl; rfl; rfl) | (apply WL.nil) | (apply EX.thenN) | (apply CW.seq) | (apply CW.region) | (apply WL.fa; rfl; rfl; rfl) | (apply WL.ld; rfl; rfl; rfl; assumption; rfl) | (apply CW.block)))
  refine CW.loop (S := Nat × KS) (fun x => [(0, .pointer (some ⟨b, 0, none⟩)), (3, .pointer (some ⟨w.heap.size, 0, none⟩)), (5, .int .i64 (x.2.1 : Int)), (6, .bool x.2.2.1), (7, .bool x.2.2.2.1), (8, .bool x.2.2.2.2), (9, .int .i64 (x.1 : Int))])
    (fun x w1 => Ext w0 w1 ∧ kGo s l e kd P.toNat S.toNat x.1 to x.2 = kGo s l e kd P.toNat S.toNat fr to (0, false, true, true) ∧ x.1 < 100001 ∧ x.2.1 ≤ x.1) (fun x => 100001 - x.1) (fr, 0, false, true, true) (by repeat (first | exact trivial | refine ⟨rfl, ?_⟩)) ⟨Ext.refl _, rfl, by simp only; omega, by simp only; omega⟩ ?_
  rintro ⟨k, many, early, late, uni⟩ w1 ⟨hE, hk, hlt, hm⟩
  simp only at hk hlt hm
  have hE1 := hE0.trans hE
  have L1 := L.ext hE1
  have hb := L1.blk
  have hbs1 := hbs.ext hE
  (repeat (first | (apply WL.pure; rfl; rfl; rfl) | (apply WL.nil) | (apply EX.thenN) | (apply CW.seq) | (apply CW.region) | (apply WL.fa; rfl; rfl; rfl) | (apply WL.ld; rfl; rfl; rfl; assumption; rfl)))
  refine CW.cond rfl (fun h0 => ?_) (fun h0 => ?_) <;> simp at h0
  · have hst := kGo_step (s := s) (l := l) (e := e) (k := kd) (P := P.toNat) (S := S.toNat) (st := (many, early, late, uni)) h0
    apply CW.skip
    apply EX.thenN
    apply CW.seq
    apply CW.block
    refine CW.cutE [(0, .pointer (some ⟨b, 0, none⟩)), (3, .pointer (some ⟨w.heap.size, 0, none⟩)), (5, .int .i64 (many : Int)), (6, .bool (early || (decide (kd = 5) && hasL s l k S.toNat))), (7, .bool late), (8, .bool uni), (9, .int .i64 (k : Int))] ?_ ?_
    · (repeat (first | (apply WL.pure; rfl; rfl; rfl) | (apply CW.region)))
      (refine WL.lookG rfl rfl (fun h => ?_) (fun h => ?_))
      · subst h
        (repeat (first | (apply WL.pure; rfl; rfl; rfl) | (apply WL.nil) | (apply WL.pass; rfl; rfl)))
        exact EX.cutE (by repeat (first | exact trivial | refine ⟨rfl, ?_⟩)) (Ext.refl _)
      · subst h
        (repeat (first | (apply WL.pure; rfl; rfl; rfl) | (apply WL.fa; rfl; rfl; rfl) | (apply WL.nck; rfl; rfl; rfl) | (apply WL.ld; rfl; rfl; rfl; assumption; rfl)))
        (refine WL.lookG rfl rfl (fun h => ?_) (fun h => ?_))
        · simp at h
          (repeat (first | (apply WL.pure; rfl; rfl; rfl) | (apply WL.fa; rfl; rfl; rfl) | (apply WL.nck; rfl; rfl; rfl) | (apply WL.ld; rfl; rfl; rfl; assumption; rfl)))
          refine WL.call rfl rfl rfl (has_ok L1 k (by omega) _ hS) ?_
          rintro v w2 ⟨rfl, hE2⟩
          (repeat (first | (apply WL.pure; rfl; rfl; rfl) | (apply WL.nil)))
          refine EX.cutE ⟨rfl, rfl, rfl, ?_, rfl, rfl, rfl, trivial⟩ hE2
          simp [fnd, h]
        · simp at h
          (repeat (first | (apply WL.pure; rfl; rfl; rfl) | (apply WL.nil) | (apply WL.pass; rfl; rfl)))
          refine EX.cutE ⟨rfl, rfl, rfl, ?_, rfl, rfl, rfl, trivial⟩ (Ext.refl _)
          simp [fnd, h]
    · intro w2 hE2
      have hE3 := hE.trans hE2
      have L2 := L1.ext hE2
      have hb2 := L2.blk
      have hbs2 := hbs1.ext hE2
      (repeat (first | (apply WL.pure; rfl; rfl; rfl) | (apply CW.seq) | (apply CW.region) | (apply WL.fa; rfl; rfl; rfl) | (apply WL.nck; rfl; rfl; rfl) | (apply WL.ld; rfl; rfl; rfl; assumption; rfl)))
      refine WL.call rfl rfl rfl (has_ok L2 k (by omega) _ hP) ?_
      rintro v w3 ⟨rfl, hE4⟩
      have hE5 := hE3.trans hE4
      have L3 := L2.ext hE4
      have hb3 := L3.blk
      have hbs3 := hbs2.ext hE4
      (repeat (first | (apply WL.pure; rfl; rfl; rfl) | (apply WL.nil) | (apply EX.thenN)))
      refine CW.cond rfl (fun h1 => ?_) (fun h1 => ?_) <;> simp at h1
      · (repeat (first | (apply WL.add; rfl; rfl; rfl; rfl; omega; omega) | (apply WL.pure; rfl; rfl; rfl) | (apply WL.nil) | (apply EX.thenN) | (apply CW.seq) | (apply CW.region) | (apply CW.exit) | (apply EX.thenX) | (apply EX.inX)))
        refine EX.back (k + 1, many, (early || (decide (kd = 5) && hasL s l k S.toNat)), late, false) (by repeat (first | exact trivial | refine ⟨rfl, ?_⟩)) ⟨hE5, ?_, by simp only; omega, by simp only; omega⟩ (by simp only; omega)
        rw [← hk, hst, kStep_no h1]
      · apply CW.skip
        apply EX.thenN
        apply CW.seq
        apply CW.region
        (repeat (first | (apply WL.add; rfl; rfl; rfl; rfl; omega; omega) | (apply WL.pure; rfl; rfl; rfl)))
        apply WL.nil
        apply EX.thenN
        generalize hea : (early || (decide (kd = 5) && hasL s l k S.toNat)) = ea at *
        refine CW.cutE [(0, .pointer (some ⟨b, 0, none⟩)), (3, .pointer (some ⟨w.heap.size, 0, none⟩)), (5, .int .i64 ((many + 1 : Nat) : Int)), (6, .bool ea), (7, .bool (late && !(decide (kd = 5) && !ea))), (8, .bool uni), (9, .int .i64 (k : Int))] ?_ ?_
        · (repeat (first | (apply WL.pure; rfl; rfl; rfl) | (apply CW.seq) | (apply CW.region) | (apply WL.fa; rfl; rfl; rfl) | (apply WL.nck; rfl; rfl; rfl) | (apply WL.ld; rfl; rfl; rfl; assumption; rfl)))
          (refine WL.lookG rfl rfl (fun h => ?_) (fun h => ?_)) <;> simp at h
          · (repeat (first | (apply WL.pure; rfl; rfl; rfl) | (apply WL.nil) | (apply EX.thenN)))
            refine CW.cond rfl (fun h2 => ?_) (fun h2 => ?_) <;> simp at h2
            · subst h2
              (repeat (first | (apply WL.pure; rfl; rfl; rfl) | (apply WL.nil) | (apply CW.region)))
              refine EX.cutE ⟨rfl, rfl, rfl, rfl, ?_, rfl, rfl, trivial⟩ (Ext.refl _)
              simp [fnd, h]
            · subst h2
              (repeat (apply CW.skip))
              refine EX.cutE ⟨rfl, rfl, rfl, rfl, ?_, rfl, rfl, trivial⟩ (Ext.refl _)
              simp [fnd, h]
          · (repeat (first | (apply WL.pure; rfl; rfl; rfl) | (apply WL.nil) | (apply EX.thenN) | (apply WL.pass; rfl; rfl) | (apply CW.condF; rfl) | (apply CW.skip)))
            refine EX.cutE ⟨rfl, rfl, rfl, rfl, ?_, rfl, rfl, trivial⟩ (Ext.refl _)
            simp [fnd, h]
        · intro w4 hE6
          have hE7 := hE5.trans hE6
          have L4 := L3.ext hE6
          have hb4 := L4.blk
          have hbs4 := hbs3.ext hE6
          (repeat (first | (apply QL.pure; rfl; rfl; rfl) | (apply CW.seq) | (apply QL.fa; rfl; rfl; rfl) | (apply QL.nck; rfl; rfl; rfl) | (apply QL.ld; rfl; rfl; rfl; assumption; rfl) | (apply CW.draw; exact mixed; kernel_rfl)))
          (refine QL.lookG rfl rfl (fun h => ?_) (fun h => ?_)) <;> simp at h
          · (repeat (first | (apply QL.pure; rfl; rfl; rfl) | (apply QL.fa; rfl; rfl; rfl) | (apply QL.nck; rfl; rfl; rfl) | (apply QL.ld; rfl; rfl; rfl; assumption; rfl)))
            refine QL.call rfl rfl rfl (fun w5 h5 => first_ok (L4.ext h5) k (by omega) _ hS) ?_
            (repeat (first | (apply QL.pure; rfl; rfl; rfl) | (apply QL.fa; rfl; rfl; rfl) | (apply QL.ld; rfl; rfl; rfl; assumption; rfl)))
            refine QL.nil fun w5 hE8 => ?_
            (repeat (apply EX.thenN))
            refine CW.cond rfl (fun h2 => ?_) (fun h2 => ?_) <;> simp at h2
            · (repeat (first | (apply WL.add; rfl; rfl; rfl; rfl; omega; omega) | (apply WL.pure; rfl; rfl; rfl) | (apply WL.nil) | (apply EX.thenN) | (apply CW.region) | (apply EX.inN)))
              refine EX.back (k + 1, many + 1, ea, false, uni) (by repeat (first | exact trivial | refine ⟨rfl, ?_⟩)) ⟨hE7.trans hE8, ?_, by simp only; omega, by simp only; omega⟩ (by simp only; omega)
              rw [← hk, hst, kStep_hit h1, hea]
              simp [h]; rw [show (decide (to ≤ firstL s l e k S.toNat)) = true by simp; omega]; simp
            · (repeat (first | (apply WL.add; rfl; rfl; rfl; rfl; omega; omega) | (apply WL.pure; rfl; rfl; rfl) | (apply WL.nil) | (apply EX.thenN) | (apply CW.region) | (apply EX.inN) | (apply CW.skip)))
              refine EX.back (k + 1, many + 1, ea, (late && !(decide (kd = 5) && !ea)), uni) (by repeat (first | exact trivial | refine ⟨rfl, ?_⟩)) ⟨hE7.trans hE8, ?_, by simp only; omega, by simp only; omega⟩ (by simp only; omega)
              rw [← hk, hst, kStep_hit h1, hea]
              simp [h]; rw [show (decide (to ≤ firstL s l e k S.toNat)) = false by simp; omega]; simp
          · (repeat (first | (apply QL.pure; rfl; rfl; rfl) | (apply QL.pass; rfl; rfl)))
            refine QL.nil fun w5 hE8 => ?_
            (repeat (first | (apply WL.add; rfl; rfl; rfl; rfl; omega; omega) | (apply WL.pure; rfl; rfl; rfl) | (apply WL.nil) | (apply EX.thenN) | (apply CW.region) | (apply EX.inN) | (apply CW.condF; rfl) | (apply CW.skip)))
            refine EX.back (k + 1, many + 1, ea, (late && !(decide (kd = 5) && !ea)), uni) (by repeat (first | exact trivial | refine ⟨rfl, ?_⟩)) ⟨hE7.trans hE8, ?_, by simp only; omega, by simp only; omega⟩ (by simp only; omega)
            rw [← hk, hst, kStep_hit h1, hea]
            simp [h]
  · (repeat (first | (apply WL.pure; rfl; rfl; rfl) | (apply WL.nil) | (apply EX.thenN) | (apply CW.seq) | (apply CW.region) | (apply WL.fa; rfl; rfl; rfl) | (apply WL.nck; rfl; rfl; rfl) | (apply WL.ld; rfl; rfl; rfl; assumption; rfl) | (apply CW.block) | (apply CW.exit) | (apply EX.thenX) | (apply EX.inX)))
    have hend : kGo s l e kd P.toNat S.toNat fr to (0, false, true, true) = (many, early, late, uni) := by rw [← hk]; exact kGo_end (by omega)
    have hkp : keepsL (kd, scp, P, S, q, r, c) s l e fr to = keepsB kd c (many, early, late, uni) := by unfold keepsL; simp only; rw [hend]
    rw [hkp]
    unfold keepsB
    refine CW.cond rfl (fun h1 => ?_) (fun h1 => ?_) <;> simp at h1
    · (repeat (first | (apply WL.pure; rfl; rfl; rfl) | (apply WL.nil) | (apply EX.thenN) | (apply CW.seq) | (apply CW.region) | (apply CW.ret) | (apply EX.thenR) | (apply EX.inR)))
      refine EX.ret1 rfl rfl ⟨?_, hE1⟩
      rw [if_pos h1]
      refine congrArg Value.bool ?_
      (rw [Bool.eq_iff_iff]; simp; try omega)
    · (repeat (first | (apply WL.pure; rfl; rfl; rfl) | (apply WL.nil) | (apply EX.thenN) | (apply CW.seq) | (apply CW.region)))
      refine CW.cond rfl (fun h2 => ?_) (fun h2 => ?_) <;> simp at h2
      · (repeat (first | (apply WL.pure; rfl; rfl; rfl) | (apply WL.nil) | (apply EX.thenN) | (apply CW.seq) | (apply CW.region) | (apply CW.ret) | (apply EX.thenR) | (apply EX.inR)))
        refine EX.ret1 rfl rfl ⟨?_, hE1⟩
        rw [if_neg h1, if_pos h2]
      · (repeat (first | (apply WL.pure; rfl; rfl; rfl) | (apply WL.nil) | (apply EX.thenN) | (apply CW.seq) | (apply CW.region)))
        refine CW.cond rfl (fun h3 => ?_) (fun h3 => ?_) <;> simp at h3
        · (repeat (first | (apply WL.pure; rfl; rfl; rfl) | (apply WL.nil) | (apply EX.thenN) | (apply CW.seq) | (apply CW.region) | (apply CW.ret) | (apply EX.thenR) | (apply EX.inR)))
          refine EX.ret1 rfl rfl ⟨?_, hE1⟩
          rw [if_neg h1, if_neg h2, if_pos h3]
          refine congrArg Value.bool ?_
          (rw [Bool.eq_iff_iff]; simp; try omega)
        · (repeat (first | (apply WL.pure; rfl; rfl; rfl) | (apply WL.nil) | (apply EX.thenN) | (apply CW.seq) | (apply CW.region)))
          refine CW.cond rfl (fun h4 => ?_) (fun h4 => ?_) <;> simp at h4
          · (repeat (first | (apply WL.pure; rfl; rfl; rfl) | (apply WL.nil) | (apply EX.thenN) | (apply CW.seq) | (apply CW.region) | (apply WL.fa; rfl; rfl; rfl) | (apply WL.nck; rfl; rfl; rfl) | (apply WL.ld; rfl; rfl; rfl; assumption; rfl) | (apply CW.ret) | (apply EX.thenR) | (apply EX.inR)))
            refine EX.ret1 rfl rfl ⟨?_, hE1⟩
            rw [if_neg h1, if_neg h2, if_neg h3, if_pos h4]
          · (repeat (first | (apply WL.pure; rfl; rfl; rfl) | (apply WL.nil) | (apply EX.thenN) | (apply CW.seq) | (apply CW.region) | (apply EX.inN) | (apply CW.ret) | (apply CW.skip)))
            refine EX.ret1 rfl rfl ⟨?_, hE1⟩
            rw [if_neg h1, if_neg h2, if_neg h3, if_neg h4]
end
end Go.Proofs.Ythojdcbpglipeaa
