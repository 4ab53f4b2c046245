import Derived.Laws.StructEq
import Derived.Test.YtikigaeihdmcaaaGreatDoorPtRuleAgain6
/-
  rule.Check, walked: first: names, atoms.
-/
set_option linter.unusedVariables false
set_option linter.unusedSimpArgs false
namespace Go.Proofs.YtikigaeihdmcaaaGreatDoor
open Go.RowKit

abbrev rulV (r : LRule) (lo : Option Addr) (lc : Nat) (co : Option Addr) (cc : Nat) : Value := .agg [.string r.1, .int .i64 r.2.1,
  .int .i64 r.2.2.1.1, .int .i64 r.2.2.1.2.1, .int .i64 r.2.2.1.2.2.1, .int .i64 r.2.2.1.2.2.2.1, .int .i64 r.2.2.1.2.2.2.2.1, .int .i64 r.2.2.1.2.2.2.2.2.1, .int .i64 r.2.2.1.2.2.2.2.2.2,
  .int .i64 r.2.2.2.1.1, .int .i64 r.2.2.2.1.2.1, .int .i64 r.2.2.2.1.2.2.1, .int .i64 r.2.2.2.1.2.2.2,
  .int .i64 r.2.2.2.2.1.k, .int .i64 r.2.2.2.2.1.n, .slice lo r.2.2.2.2.1.kids.length lc, .int .i64 r.2.2.2.2.2.k, .int .i64 r.2.2.2.2.2.n, .slice co r.2.2.2.2.2.kids.length cc].toArray
instance iRul1 : IsFd Tryz.prog 33 0 0 := IsFd.of (by kernel_rfl)
instance iRul2 : IsFd Tryz.prog 33 1 1 := IsFd.of (by kernel_rfl)
instance iRul3 : IsFd Tryz.prog 33 2 2 := IsFd.of (by kernel_rfl)
instance iRul4 : IsFd Tryz.prog 33 3 9 := IsFd.of (by kernel_rfl)
instance iRul5 : IsFd Tryz.prog 33 4 13 := IsFd.of (by kernel_rfl)
instance iRul6 : IsFd Tryz.prog 33 5 16 := IsFd.of (by kernel_rfl)
instance iRul7 : IsC Tryz.prog 33 19 true := IsC.of (by kernel_rfl) Tryz.underlying33 rfl
theorem rname_ok (w0 : World) {no : Option Addr} {nc : Nat} {nms : List ByteArray} (hn : Sl w0 (Old w0) no nc nms) (n : Int) (s : Bool) :
    Rt Tryz.prog 19 [.int .i64 n, .slice no nms.length nc, .bool s].toArray w0 fun v w' => v = tV (rnmL nms n s) ∧ Ext w0 w' := by
  have hm := hn.len63
  refine Rt.enter3 Tryz.func19 Tryz.ntmps19 rfl rfl ?_
  have hbad : (n < 0 ∨ n ≥ (nms.length : Int) ∨ n ≥ 63) → ¬ (n = 63 ∧ s = true) → rnmL nms n s = [] := fun h h' => by
    unfold rnmL; rw [if_neg h', if_pos]
    rcases h with h | h | h
    · exact .inl h
    · exact .inr (.inl h)
    · exact .inr (.inr (.inl h))
  (repeat (first | (apply WL.pure; rfl; rfl; rfl) | (apply WL.nil) | (apply EX.thenN) | (apply CW.seq) | (apply CW.region)))
  (refine WL.lookG rfl rfl (fun h => ?_) (fun h => ?_))
  · have h63 : n = 63 := by simpa using h
    cases s with
    | true =>
      (repeat (first | (apply WL.pure; rfl; rfl; rfl) | (apply WL.nil) | (apply EX.thenN) | (apply CW.seq) | (apply CW.region) | (apply CW.condT; rfl) | (apply CW.ret) | (apply EX.thenR)))
      exact EX.ret1 rfl rfl ⟨by unfold rnmL; rw [if_pos ⟨h63, rfl⟩]; rfl, Ext.refl _⟩
    | false =>
      rw [hbad (.inr (.inr (by omega))) (by simp)]
      have hd : decide (n < 0) = false := decide_eq_false (by omega)
      have he : decide (n ≥ 63) = true := decide_eq_true (by omega)
      (repeat (first | (apply WL.pure; rfl; rfl; rfl) | (apply WL.nil) | (apply EX.thenN) | (apply CW.seq) | (apply CW.region) | (apply CW.condF; rfl) | (apply CW.skip)))
      rw [hd]
      (repeat (first | (apply WL.pure; rfl; rfl; rfl) | (apply WL.lenS; rfl; rfl; rfl)))
      (refine WL.lookG rfl rfl (fun h => ?_) (fun h => ?_))
      · (repeat (first | (apply WL.pure; rfl; rfl; rfl) | (apply WL.nil) | (apply EX.thenN) | (apply CW.seq) | (apply CW.region) | (apply WL.pass; rfl; rfl) | (apply CW.condT; rfl) | (apply CW.ret) | (apply EX.thenR)))
        exact EX.ret1 rfl rfl ⟨rfl, Ext.refl _⟩
      · (repeat (apply WL.pure; rfl; rfl; rfl))
        rw [he]
        (repeat (first | (apply WL.pure; rfl; rfl; rfl) | (apply WL.nil) | (apply EX.thenN) | (apply CW.seq) | (apply CW.region) | (apply WL.pass; rfl; rfl) | (apply CW.condT; rfl) | (apply CW.ret) | (apply EX.thenR)))
        exact EX.ret1 rfl rfl ⟨rfl, Ext.refl _⟩
  have h63 : ¬ n = 63 := by simpa using h
  have hns : ¬ (n = 63 ∧ s = true) := fun h => h63 h.1
  (repeat (first | (apply WL.pure; rfl; rfl; rfl) | (apply WL.nil) | (apply EX.thenN) | (apply CW.seq) | (apply CW.region) | (apply WL.pass; rfl; rfl) | (apply CW.condF; rfl) | (apply CW.skip)))
  (refine WL.lookG rfl rfl (fun h => ?_) (fun h => ?_))
  · rw [hbad (.inl (by simpa using h)) hns]
    (repeat (first | (apply WL.pure; rfl; rfl; rfl) | (apply WL.nil) | (apply EX.thenN) | (apply CW.seq) | (apply CW.region) | (apply WL.pass; rfl; rfl) | (apply CW.condT; rfl) | (apply CW.ret) | (apply EX.thenR)))
    exact EX.ret1 rfl rfl ⟨rfl, Ext.refl _⟩
  have h0 : ¬ n < 0 := by simpa using h
  obtain ⟨i, rfl⟩ := Int.eq_ofNat_of_zero_le (show 0 ≤ n by omega)
  clear h
  (repeat (first | (apply WL.pure; rfl; rfl; rfl) | (apply WL.lenS; rfl; rfl; rfl)))
  (refine WL.lookG rfl rfl (fun h => ?_) (fun h => ?_))
  · rw [hbad (.inr (.inl (by simpa using h))) hns]
    (repeat (first | (apply WL.pure; rfl; rfl; rfl) | (apply WL.nil) | (apply EX.thenN) | (apply CW.seq) | (apply CW.region) | (apply WL.pass; rfl; rfl) | (apply CW.condT; rfl) | (apply CW.ret) | (apply EX.thenR)))
    exact EX.ret1 rfl rfl ⟨rfl, Ext.refl _⟩
  have h1 : ¬ (i : Int) ≥ (nms.length : Int) := by simpa using h
  have hi : i < nms.length := by omega
  clear h
  (repeat (apply WL.pure; rfl; rfl; rfl))
  (refine WL.lookG rfl rfl (fun h => ?_) (fun h => ?_))
  · rw [hbad (.inr (.inr (by simpa using h))) hns]
    (repeat (first | (apply WL.pure; rfl; rfl; rfl) | (apply WL.nil) | (apply EX.thenN) | (apply CW.seq) | (apply CW.region) | (apply WL.pass; rfl; rfl) | (apply CW.condT; rfl) | (apply CW.ret) | (apply EX.thenR)))
    exact EX.ret1 rfl rfl ⟨rfl, Ext.refl _⟩
  have h2 : ¬ (i : Int) ≥ 63 := by simpa using h
  clear h hbad
  have hgd : nms.getD (i : Int).toNat ⟨#[]⟩ = nms[i] := by rw [Int.toNat_natCast, getDNm_at hi]
  unfold rnmL
  rw [if_neg hns, hgd]
  (repeat (apply WL.pure; rfl; rfl; rfl))
  refine WL.elemN rfl rfl rfl rfl rfl hn hi (fun _ => rfl) (fun u1 q1 hu1 => ?_)
  obtain ⟨rfl, _⟩ := hu1.str
  skip
  refine WL.call rfl rfl rfl (Named_ok w0 nms[i]) ?_
  rintro _ w1 ⟨rfl, e1⟩
  (repeat (apply WL.pure; rfl; rfl; rfl))
  (refine WL.lookG rfl rfl (fun h => ?_) (fun h => ?_))
  · rw [if_pos (.inr (.inr (.inr (.inl (by simpa using h)))))]
    (repeat (first | (apply WL.pure; rfl; rfl; rfl) | (apply WL.nil) | (apply EX.thenN) | (apply CW.seq) | (apply CW.region) | (apply WL.pass; rfl; rfl) | (apply CW.condT; rfl) | (apply CW.ret) | (apply EX.thenR)))
    exact EX.ret1 rfl rfl ⟨rfl, e1⟩
  have h3 : ¬ namedB nms[i] = false := by simpa using h
  clear h
  (repeat (apply WL.pure; rfl; rfl; rfl))
  refine WL.elemN rfl rfl rfl rfl rfl (hn.up e1) hi (fun _ => rfl) (fun u1 q1 hu1 => ?_)
  obtain ⟨rfl, _⟩ := hu1.str
  skip
  refine WL.call rfl rfl rfl (index_str w1 nms[i] (hn.up e1)) ?_
  rintro _ w2 ⟨rfl, rfl⟩
  rw [idxB_of]
  (repeat (first | (apply WL.pure; rfl; rfl; rfl) | (apply WL.nil) | (apply EX.thenN)))
  refine CW.cond rfl (fun h => ?_) (fun h => ?_)
  · rw [if_pos (.inr (.inr (.inr (.inr (by simpa using h)))))]
    (repeat (first | (apply WL.pure; rfl; rfl; rfl) | (apply WL.nil) | (apply EX.thenN) | (apply CW.seq) | (apply CW.region) | (apply CW.ret) | (apply EX.thenR)))
    exact EX.ret1 rfl rfl ⟨rfl, e1⟩
  have h4 : ¬ idxB nms nms[i].data.toList ≠ (i : Int) := by simpa using h
  rw [if_neg (by simp only [not_or]; exact ⟨h0, h1, h2, h3, h4⟩)]
  (repeat (first | (apply WL.pure; rfl; rfl; rfl) | (apply EX.thenN) | (apply CW.seq) | (apply CW.region) | (apply CW.skip)))
  refine WL.elemN rfl rfl rfl rfl rfl (hn.up e1) hi (fun _ => rfl) (fun u1 q1 hu1 => ?_)
  obtain ⟨rfl, _⟩ := hu1.str
  (repeat (first | (apply WL.pure; rfl; rfl; rfl) | (apply WL.nil) | (apply EX.thenN) | (apply CW.ret)))
  exact EX.ret1 rfl rfl ⟨by rw [tV, txA_eta], e1⟩
theorem alone_ok (w0 : World) (k : Int) : Rt Tryz.prog 20 [.int .i64 k].toArray w0 fun v w' => v = .bool (aloneB k) ∧ w0 = w' := by
  refine Rt.enter1 Tryz.func20 Tryz.ntmps20 rfl rfl ?_
  (repeat (first | (apply WL.pure; rfl; rfl; rfl) | (apply WL.nil) | (apply EX.thenN) | (apply CW.seq) | (apply CW.region) | (apply CW.ret)))
  exact EX.ret1 rfl rfl ⟨rfl, rfl⟩
theorem rpart1_ok (w0 : World) {no : Option Addr} {nc b3 b7 : Nat} {nms : List ByteArray} {s : Bool} (hn : Sl w0 (Old w0) no nc nms) (h3 : Blk w0 b3 34 [.slice no nms.length nc]) (h7 : Blk w0 b7 4 [.bool s]) (n : Int) :
    Rt Tryz.prog 43 [.int .i64 n, .pointer (some ⟨b3, 0, none⟩), .pointer (some ⟨b7, 0, none⟩)].toArray w0 fun v w' => v = .bool (rnmL nms n s == []) ∧ Ext w0 w' := by
  refine Rt.enter3 Tryz.func43 Tryz.ntmps43 rfl rfl ?_
  (repeat (first | (apply WL.pure; rfl; rfl; rfl) | (apply WL.nil) | (apply EX.thenN) | (apply CW.seq) | (apply CW.region) | (apply WL.ld; rfl; rfl; rfl; assumption; rfl)))
  refine WL.call rfl rfl rfl (rname_ok w0 hn n s) ?_
  rintro _ w1 ⟨rfl, e1⟩
  (repeat (first | (apply WL.pure; rfl; rfl; rfl) | (apply WL.nil) | (apply EX.thenN) | (apply CW.ret)))
  exact EX.ret1 rfl rfl ⟨by rw [show (txA (rnmL nms n s)).data.toList = rnmL nms n s from txA_list _], e1⟩
set_option maxHeartbeats 1000000 in
theorem atoms_ok (w0 : World) (pt : LPat) : Rt Tryz.prog 13 [patV pt].toArray w0 fun v w' => (∃ u1 u2, v = .tuple ⟨[u1, u2]⟩ ∧ Own w' w0.heap.size 3 Non u1 (ownA pt) ∧ Own w' w0.heap.size 3 Non u2 (scopeA pt)) ∧ Ext w0 w' := by
  obtain ⟨k, sc, P, S, Q, R, c⟩ := pt
  refine Rt.enter1 Tryz.func13 Tryz.ntmps13 rfl rfl ?_
  (repeat (first | (apply CW.seq) | (apply CW.region)))
  refine WL.boxB rfl rfl rfl fun w1 hb e1 => ?_
  (repeat (first | (apply WL.pure; rfl; rfl; rfl) | (apply WL.nil) | (apply EX.thenN) | (apply CW.seq) | (apply CW.region) | (apply WL.fa; rfl; rfl; rfl) | (apply WL.ld; rfl; rfl; rfl; assumption; rfl)))
  refine WL.lit (F := Non) (ys := [P]) rfl rfl rfl rfl rfl ⟨Rd.mkInt _ _ _, trivial⟩ (by show 1 * 1 ≤ 16777216; decide) (fun _ h => h.elim) (fun w2 ho2 hg2 => ?_)
  have e2 : Ext w1 w2 := (Below.refl _ _).grown hg2 (Nat.le_refl _) (fun k h => by cases h)
  have hb2 := hb.ext e2
  have hE2 := e1.trans e2
  have z1 := e1.size
  generalize hov : Value.slice (some ⟨w1.heap.size, 0, none⟩) 1 1 = ov at *
  (repeat (apply WL.pure; rfl; rfl; rfl))
  apply WL.nil
  apply EX.thenN
  refine CW.cutI (S := Value) (fun v => [(1, .pointer (some ⟨w0.heap.size, 0, none⟩)), (2, v), (3, .slice none 0 0)])
    (fun v w => Own w w0.heap.size 3 Non v (ownA (k, sc, P, S, Q, R, c)) ∧ Blk w w0.heap.size 23 [.int .i64 k, .int .i64 sc, .int .i64 P, .int .i64 S, .int .i64 Q, .int .i64 R, .int .i64 c] ∧ Ext w0 w) ?_ ?_
  · (repeat (first | (apply WL.pure; rfl; rfl; rfl) | (apply CW.seq) | (apply CW.region) | (apply WL.fa; rfl; rfl; rfl) | (apply WL.ld; rfl; rfl; rfl; assumption; rfl)))
    have hyes : (k = 5 ∨ k = 6) → ownA (k, sc, P, S, Q, R, c) = [S, P] := fun h => by unfold ownA; rw [if_pos h]
    have hno : ¬ (k = 5 ∨ k = 6) → ownA (k, sc, P, S, Q, R, c) = [P] := fun h => by unfold ownA; rw [if_neg h]
    (refine WL.lookG rfl rfl (fun h => ?_) (fun h => ?_))
    · (repeat (first | (apply WL.pure; rfl; rfl; rfl) | (apply WL.nil) | (apply EX.thenN) | (apply CW.region) | (apply WL.pass; rfl; rfl) | (apply WL.fa; rfl; rfl; rfl) | (apply WL.ld; rfl; rfl; rfl; assumption; rfl) | (apply CW.condT; rfl)))
      refine WL.lit (F := Non) (ys := [S, P]) rfl rfl rfl rfl rfl ⟨Rd.mkInt _ _ _, Rd.mkInt _ _ _, trivial⟩ (by show 2 * 1 ≤ 16777216; decide) (fun _ h => h.elim) (fun w3 ho3 hg3 => ?_)
      have e3 : Ext w2 w3 := (Below.refl _ _).grown hg3 (Nat.le_refl _) (fun k h => by cases h)
      (repeat (first | (apply WL.pure; rfl; rfl; rfl) | (apply WL.nil)))
      exact EX.cutI _ (by repeat (first | exact trivial | refine ⟨rfl, ?_⟩)) ⟨by rw [hyes (.inl (by simpa using h))]; exact ho3.low hE2.size, hb2.ext e3, hE2.trans e3⟩
    · have h5 : ¬ k = 5 := by simpa using h
      (repeat (first | (apply WL.pure; rfl; rfl; rfl) | (apply WL.nil) | (apply EX.thenN) | (apply WL.fa; rfl; rfl; rfl) | (apply WL.ld; rfl; rfl; rfl; assumption; rfl)))
      refine CW.cond rfl (fun h => ?_) (fun h => ?_)
      · have h6 : k = 6 := by simpa using h
        (repeat (first | (apply CW.region) | (apply WL.fa; rfl; rfl; rfl) | (apply WL.ld; rfl; rfl; rfl; assumption; rfl)))
        refine WL.lit (F := Non) (ys := [S, P]) rfl rfl rfl rfl rfl ⟨Rd.mkInt _ _ _, Rd.mkInt _ _ _, trivial⟩ (by show 2 * 1 ≤ 16777216; decide) (fun _ h => h.elim) (fun w3 ho3 hg3 => ?_)
        have e3 : Ext w2 w3 := (Below.refl _ _).grown hg3 (Nat.le_refl _) (fun k h => by cases h)
        (repeat (first | (apply WL.pure; rfl; rfl; rfl) | (apply WL.nil)))
        exact EX.cutI _ (by repeat (first | exact trivial | refine ⟨rfl, ?_⟩)) ⟨by rw [hyes (.inr h6)]; exact ho3.low hE2.size, hb2.ext e3, hE2.trans e3⟩
      · have h6 : ¬ k = 6 := by simpa using h
        (repeat (apply CW.skip))
        exact EX.cutI ov (by repeat (first | exact trivial | refine ⟨rfl, ?_⟩)) ⟨by rw [hno (by omega)]; exact ho2.low z1, hb2, hE2⟩
  clear ho2 hg2 hb2 hE2 e2 hov ov hb e1 z1
  rintro ov w2 ⟨ho2, hb2, hE2⟩
  refine CW.cutI (S := Value) (fun v => [(2, ov), (3, v)]) (fun v w => Own w w0.heap.size 3 Non ov (ownA (k, sc, P, S, Q, R, c)) ∧ Own w w0.heap.size 3 Non v (scopeA (k, sc, P, S, Q, R, c)) ∧ Ext w0 w) ?_ ?_
  · (repeat (first | (apply WL.pure; rfl; rfl; rfl) | (apply WL.nil) | (apply EX.thenN) | (apply CW.seq) | (apply CW.region) | (apply WL.fa; rfl; rfl; rfl) | (apply WL.ld; rfl; rfl; rfl; assumption; rfl) | (apply CW.block)))
    refine CW.cond rfl (fun h => ?_) (fun h => ?_)
    · have h2 : sc = 2 := by simpa using h
      (repeat (first | (apply CW.region) | (apply WL.fa; rfl; rfl; rfl) | (apply WL.ld; rfl; rfl; rfl; assumption; rfl)))
      refine WL.lit (F := Non) (ys := [R]) rfl rfl rfl rfl rfl ⟨Rd.mkInt _ _ _, trivial⟩ (by show 1 * 1 ≤ 16777216; decide) (fun _ h => h.elim) (fun w3 ho3 hg3 => ?_)
      have e3 : Ext w2 w3 := (Below.refl _ _).grown hg3 (Nat.le_refl _) (fun k h => by cases h)
      (repeat (first | (apply WL.pure; rfl; rfl; rfl) | (apply WL.nil) | (apply EX.inN)))
      exact EX.cutI _ (by repeat (first | exact trivial | refine ⟨rfl, ?_⟩)) ⟨ho2.extN e3, by unfold scopeA; rw [if_pos h2]; exact ho3.low hE2.size, hE2.trans e3⟩
    have h2 : ¬ sc = 2 := by simpa using h
    clear h
    (repeat (first | (apply WL.pure; rfl; rfl; rfl) | (apply WL.nil) | (apply EX.thenN) | (apply CW.seq) | (apply CW.region)))
    refine CW.cond rfl (fun h => ?_) (fun h => ?_)
    · have h3 : sc = 3 := by simpa using h
      (repeat (first | (apply CW.region) | (apply WL.fa; rfl; rfl; rfl) | (apply WL.ld; rfl; rfl; rfl; assumption; rfl)))
      refine WL.lit (F := Non) (ys := [Q]) rfl rfl rfl rfl rfl ⟨Rd.mkInt _ _ _, trivial⟩ (by show 1 * 1 ≤ 16777216; decide) (fun _ h => h.elim) (fun w3 ho3 hg3 => ?_)
      have e3 : Ext w2 w3 := (Below.refl _ _).grown hg3 (Nat.le_refl _) (fun k h => by cases h)
      (repeat (first | (apply WL.pure; rfl; rfl; rfl) | (apply WL.nil) | (apply EX.inN)))
      exact EX.cutI _ (by repeat (first | exact trivial | refine ⟨rfl, ?_⟩)) ⟨ho2.extN e3, by unfold scopeA; rw [if_neg h2, if_pos h3]; exact ho3.low hE2.size, hE2.trans e3⟩
    have h3 : ¬ sc = 3 := by simpa using h
    clear h
    refine CW.cut [(1, .pointer (some ⟨w0.heap.size, 0, none⟩)), (2, ov), (3, .slice none 0 0), (32, .bool (decide (sc = 4 ∨ sc = 5)))] ?_ ?_
    · (repeat (first | (apply WL.pure; rfl; rfl; rfl) | (apply WL.nil) | (apply EX.thenN) | (apply CW.seq) | (apply CW.region)))
      refine CW.cond rfl (fun h => ?_) (fun h => ?_)
      · (repeat (apply CW.skip))
        refine EX.cut ⟨rfl, rfl, rfl, ?_, trivial⟩
        refine congrArg (fun b => some (Value.bool b)) ?_
        have : sc = 4 := by simpa using h
        simp [this]
      · (repeat (first | (apply WL.pure; rfl; rfl; rfl) | (apply WL.nil) | (apply CW.region)))
        refine EX.cut ⟨rfl, rfl, rfl, ?_, trivial⟩
        refine congrArg (fun b => some (Value.bool b)) ?_
        have : ¬ sc = 4 := by simpa using h
        rw [Bool.eq_iff_iff]; simp [this]
    refine CW.cond rfl (fun h => ?_) (fun h => ?_)
    · have h4 : sc = 4 ∨ sc = 5 := by simpa using h
      (repeat (first | (apply CW.region) | (apply WL.fa; rfl; rfl; rfl) | (apply WL.ld; rfl; rfl; rfl; assumption; rfl)))
      refine WL.lit (F := Non) (ys := [Q, R]) rfl rfl rfl rfl rfl ⟨Rd.mkInt _ _ _, Rd.mkInt _ _ _, trivial⟩ (by show 2 * 1 ≤ 16777216; decide) (fun _ h => h.elim) (fun w3 ho3 hg3 => ?_)
      have e3 : Ext w2 w3 := (Below.refl _ _).grown hg3 (Nat.le_refl _) (fun k h => by cases h)
      (repeat (first | (apply WL.pure; rfl; rfl; rfl) | (apply WL.nil) | (apply EX.inN)))
      exact EX.cutI _ (by repeat (first | exact trivial | refine ⟨rfl, ?_⟩)) ⟨ho2.extN e3, by unfold scopeA; rw [if_neg h2, if_neg h3, if_pos h4]; exact ho3.low hE2.size, hE2.trans e3⟩
    · have h4 : ¬ (sc = 4 ∨ sc = 5) := by simpa using h
      (repeat (first | (apply EX.inN) | (apply CW.skip)))
      exact EX.cutI _ (by repeat (first | exact trivial | refine ⟨rfl, ?_⟩)) ⟨ho2, by unfold scopeA; rw [if_neg h2, if_neg h3, if_neg h4]; exact Own.nil, hE2⟩
  rintro v w3 ⟨ho3, hv3, hE3⟩
  (repeat (first | (apply WL.pure; rfl; rfl; rfl) | (apply WL.nil) | (apply EX.thenN) | (apply CW.seq) | (apply CW.region) | (apply CW.ret)))
  exact EX.ret2 rfl rfl rfl ⟨⟨_, _, rfl, ho3, hv3⟩, hE3⟩
end Go.Proofs.YtikigaeihdmcaaaGreatDoor

/-
  rule.Check, walked.
-/
set_option linter.unusedVariables false
set_option linter.unusedSimpArgs false
namespace Go.Proofs.YtikigaeihdmcaaaGreatDoor
open Go.RowKit

theorem equalIn_pat0 (x : LPat) (w : World) : (Op.equalIn 10000 23 (patV x) (patV patZ)).run Tryz.prog w = .ok (x == patZ) w := by
  have u3 := Tryz.underlying3
  have a3 := Tryz.isAgg3
  have z3 := Tryz.sizeOf3
  have hS : Tryz.prog.underlying 23 = some (.struct (Tryz.prog.fieldsOf 23)) := by kernel_rfl
  have hp : Tryz.prog.stoodInHeld 23 = false := by kernel_rfl
  obtain ⟨a, b, c, d, e, f, g⟩ := x
  simp only [patV, patZ]
  rw [show (10000 : Nat) = 9999 + 1 from rfl, run_equalIn_agg w 9999 23 _ _ hS hp]
  simp only [Program.fieldsOf, Tryz.underlying23]
  go_simp
  by_cases h1 : a = 0
  · by_cases h2 : b = 0
    · by_cases h3 : c = 0
      · by_cases h4 : d = 0
        · by_cases h5 : e = 0
          · by_cases h6 : f = 0
            · by_cases h7 : g = 0 <;> simp [h1, h2, h3, h4, h5, h6, h7]
            · simp [h1, h2, h3, h4, h5, h6]
          · simp [h1, h2, h3, h4, h5]
        · simp [h1, h2, h3, h4]
      · simp [h1, h2, h3]
    · simp [h1, h2]
  · simp [h1]
theorem run_nePat (x : LPat) (p q : Operand) (w : World) : ((do eqGuard .neq 23 p q (patV x) (patV patZ); binOp .neq 23 (patV x) (patV patZ) : Sem Value)).run Tryz.prog w = .ok (.bool (x != patZ)) w := by
  have hm : Tryz.prog.eqGuardType Tryz.prog.depth 23 = false := by kernel_rfl
  rw [Sem.run_bind]
  have hg : (eqGuard .neq 23 p q (patV x) (patV patZ)).run Tryz.prog w = .ok () w := run_eqGuard_agg w .neq 23 p q _ _ hm
  have h := equalIn_pat0 x w
  rw [hg, Result.andThen_ok]
  unfold patV at h ⊢
  rw [run_neq_struct, h]; rfl
theorem equalIn_tpl0 (x : LTpl) (w : World) : (Op.equalIn 10000 25 (tplV x) (tplV tplZ)).run Tryz.prog w = .ok (x == tplZ) w := by
  have u3 := Tryz.underlying3
  have a3 := Tryz.isAgg3
  have z3 := Tryz.sizeOf3
  have hS : Tryz.prog.underlying 25 = some (.struct (Tryz.prog.fieldsOf 25)) := by kernel_rfl
  have hp : Tryz.prog.stoodInHeld 25 = false := by kernel_rfl
  obtain ⟨a, b, c, d⟩ := x
  simp only [tplV, tplZ]
  rw [show (10000 : Nat) = 9999 + 1 from rfl, run_equalIn_agg w 9999 25 _ _ hS hp]
  simp only [Program.fieldsOf, Tryz.underlying25]
  go_simp
  by_cases h1 : a = 0
  · by_cases h2 : b = 0
    · by_cases h3 : c = 0
      · by_cases h4 : d = 0 <;> simp [h1, h2, h3, h4]
      · simp [h1, h2, h3]
    · simp [h1, h2]
  · simp [h1]
theorem run_neTpl (x : LTpl) (p q : Operand) (w : World) : ((do eqGuard .neq 25 p q (tplV x) (tplV tplZ); binOp .neq 25 (tplV x) (tplV tplZ) : Sem Value)).run Tryz.prog w = .ok (.bool (x != tplZ)) w := by
  have hm : Tryz.prog.eqGuardType Tryz.prog.depth 25 = false := by kernel_rfl
  rw [Sem.run_bind]
  have hg : (eqGuard .neq 25 p q (tplV x) (tplV tplZ)).run Tryz.prog w = .ok () w := run_eqGuard_agg w .neq 25 p q _ _ hm
  have h := equalIn_tpl0 x w
  rw [hg, Result.andThen_ok]
  unfold tplV at h ⊢
  rw [run_neq_struct, h]; rfl
section
variable {Q : Exit → Act → World → Prop} {n : Nat} {σ : Sg} {w : World} {L rest : List Oper} {d : Nat} {ty : TypeId} {pos : String} {af : Array Edge} {g : Option (Nat × Bool)} {yt : TypeId} {x y : Operand}
theorem WL.nePat {a : LPat} (hg : gd L σ ⟨some d, .binOp .neq 23 x y yt, ty, pos, af, g⟩ = some true) (hd : Nat.ble (d + 1) n = true) (hx : ev σ x = some (patV a)) (hy : ev σ y = some (patV patZ))
    (h : WL Tryz.prog L Q rest n ((d, .bool (a != patZ)) :: σ) w) : WL Tryz.prog L Q (⟨some d, .binOp .neq 23 x y yt, ty, pos, af, g⟩ :: rest) n σ w := by
  refine WL.run hg hd (fun c hc => ?_) h
  have := run_nePat a x y w
  simp only [execOp, hc.ev hx, hc.ev hy]
  rw [Sem.run_bind, this]; rfl
theorem WL.neTpl {a : LTpl} (hg : gd L σ ⟨some d, .binOp .neq 25 x y yt, ty, pos, af, g⟩ = some true) (hd : Nat.ble (d + 1) n = true) (hx : ev σ x = some (tplV a)) (hy : ev σ y = some (tplV tplZ))
    (h : WL Tryz.prog L Q rest n ((d, .bool (a != tplZ)) :: σ) w) : WL Tryz.prog L Q (⟨some d, .binOp .neq 25 x y yt, ty, pos, af, g⟩ :: rest) n σ w := by
  refine WL.run hg hd (fun c hc => ?_) h
  have := run_neTpl a x y w
  simp only [execOp, hc.ev hx, hc.ev hy]
  rw [Sem.run_bind, this]; rfl
end
set_option maxHeartbeats 2000000 in
theorem rpart_ok (w0 : World) {r : LRule} {lo co no : Option Addr} {lc cc nc : Nat} {nms : List ByteArray} (hl : Sl w0 (Old w0) lo lc r.2.2.2.2.1.kids) (hc : Sl w0 (Old w0) co cc r.2.2.2.2.2.kids) (hn : Sl w0 (Old w0) no nc nms) :
    Rt Tryz.prog 25 [rulV r lo lc co cc, .slice no nms.length nc].toArray w0 fun v w' => v = .int .i64 (partE r nms) ∧ Ext w0 w' := by
  obtain ⟨nm, so, pt, tp, lt, ct⟩ := r
  dsimp only at hl hc ⊢
  refine Rt.enter2 Tryz.func25 Tryz.ntmps25 rfl rfl ?_
  (repeat (first | (apply CW.seq) | (apply CW.region)))
  refine WL.boxB rfl rfl rfl fun w1 hb2 e1 => ?_
  skip
  refine WL.boxB rfl rfl rfl fun w2 hb3 e2 => ?_
  have hb2 := hb2.ext e2
  have hE2 := e1.trans e2
  have l3 := hb3.lt
  (repeat (first | (apply WL.pure; rfl; rfl; rfl) | (apply WL.nil) | (apply EX.thenN) | (apply CW.seq) | (apply CW.region)))
  refine WL.alloc rfl rfl (fun w3 hb7 e3 => ?_)
  refine WL.st rfl rfl rfl hb7 rfl rfl (ones_of rfl) (fun w4 hb7 hg4 => ?_)
  have e4 : Ext w2 w4 := e3.grown hg4 e3.size (fun g hg => by cases hg; exact Nat.le_refl _)
  have hb2 := hb2.ext e4
  have hb3 := hb3.ext e4
  have hE := hE2.trans e4
  have z1 := e1.size
  have z2 := e2.size
  have l7 := hb7.lt
  clear hg4 e3
  apply WL.nil
  apply EX.thenN
  have hat1 : so = 1 → atomsR (nm, so, pt, tp, lt, ct) = ownA pt ++ scopeA pt := fun h => by unfold atomsR; rw [if_pos h]
  have hat2 : so = 2 → atomsR (nm, so, pt, tp, lt, ct) = (if aloneB tp.1 = true then [tp.2.1] else [tp.2.1, tp.2.2.1]) := fun h => by unfold atomsR; rw [if_neg (by show ¬ so = 1; omega), if_pos h]
  have hat3 : so ≠ 1 → so ≠ 2 → atomsR (nm, so, pt, tp, lt, ct) = [] := fun h h' => by unfold atomsR; rw [if_neg h, if_neg h']
  refine CW.cutI (S := Value) (fun v => [(2, .pointer (some ⟨w0.heap.size, 0, none⟩)), (3, .pointer (some ⟨w1.heap.size, 0, none⟩)), (5, .int .i64 (partE0 (nm, so, pt, tp, lt, ct) nms)), (6, v), (7, .pointer (some ⟨w2.heap.size, 0, none⟩))])
    (fun v w => Rd w (Old w) v (atomsR (nm, so, pt, tp, lt, ct)) ∧ Blk w w1.heap.size 34 [.slice no nms.length nc] ∧ Blk w w2.heap.size 4 [.bool (decide (so = 1))] ∧ Ext w0 w) ?_ ?_
  · have hnil : ∀ w : World, Rd w (Old w) (Value.slice none 0 0) ([] : List Int) := fun w => (Sl.zero (α := Int) w (Old w)).rd
    (repeat (first | (apply WL.pure; rfl; rfl; rfl) | (apply WL.nil) | (apply EX.thenN) | (apply CW.seq) | (apply CW.region) | (apply WL.fa; rfl; rfl; rfl) | (apply WL.ld; rfl; rfl; rfl; assumption; rfl) | (apply CW.block)))
    refine CW.cond rfl (fun h => ?_) (fun h => ?_)
    · have h1 : so = 1 := by simpa using h
      clear h
      (repeat (first | (apply CW.seq) | (apply CW.region) | (apply WL.fa; rfl; rfl; rfl) | (apply WL.ldA; rfl; rfl; rfl; assumption; rfl)))
      refine WL.call rfl rfl rfl (dwyerCheck w4 pt) ?_
      rintro _ w5 ⟨rfl, e5⟩
      have hb2 := hb2.ext e5
      have hb3 := hb3.ext e5
      have hb7 := hb7.ext e5
      have hE5 := hE.trans e5
      (repeat (first | (apply WL.pure; rfl; rfl; rfl) | (apply WL.nil) | (apply EX.thenN) | (apply CW.seq) | (apply CW.region) | (apply WL.fa; rfl; rfl; rfl) | (apply WL.ldA; rfl; rfl; rfl; assumption; rfl)))
      refine WL.call rfl rfl rfl (atoms_ok w5 pt) ?_
      rintro _ w6 ⟨⟨u1, u2, rfl, ho1, ho2⟩, e6⟩
      have hb2 := hb2.ext e6
      have hb3 := hb3.ext e6
      have hb7 := hb7.ext e6
      have hE6 := hE5.trans e6
      have hl1 : (ownA pt).length ≤ 2 := by unfold ownA; split <;> simp
      have hl2 : (scopeA pt).length ≤ 2 := by unfold scopeA; (repeat' split) <;> simp
      obtain ⟨so2, sc2, rfl, hs2⟩ := ho2.oldN.sl
      have z5 := e5.size
      have z4 := e4.size
      (repeat (first | (apply WL.pure; rfl; rfl; rfl) | (apply WL.nil) | (apply EX.thenN) | (apply CW.region)))
      refine WL.app (F := Non) rfl rfl rfl rfl ho1 hs2.srcN e6.size (fun _ h => h.elim) (by unfold maxLen; omega) (by omega) (fun v' w7 ho7 hg7 _ => ?_)
      have hnb : ∀ g, u1.ownBlock = some g → w5.heap.size ≤ g := fun g hg => (ho1.lt g hg).1
      have hb37 := hb3.kept hg7 (fun e => by have := hnb _ e.symm; omega)
      have hb77 := hb7.kept hg7 (fun e => by have := hnb _ e.symm; omega)
      have hE7 : Ext w0 w7 := hE6.grown hg7 hE6.size (fun g hg => by have := hnb g hg; omega)
      (repeat (apply WL.pure; rfl; rfl; rfl))
      refine WL.st rfl rfl rfl hb77 rfl rfl (ones_of rfl) (fun w8 hb78 hg8 => ?_)
      have hb38 := hb37.kept hg8 (fun e => by have := Option.some.inj e; omega)
      have hE8 : Ext w0 w8 := hE7.grown hg8 hE7.size (fun g hg => by cases hg; have := hE2.size; omega)
      have ho8 := ho7.keptN hg8 (fun g hg e => by have := (ho7.lt g hg).1; have := Option.some.inj e; omega)
      (repeat (first | (apply WL.nil) | (apply EX.inN)))
      refine EX.cutI v' ⟨rfl, rfl, ?_, rfl, rfl, trivial⟩ ⟨by rw [hat1 h1]; exact ho8.oldN, hb38, by rw [decide_eq_true h1]; exact hb78, hE8⟩
      unfold partE0; rw [if_pos h1]; rfl
    have h1 : ¬ so = 1 := by simpa using h
    clear h
    have hb7d : Blk w4 w2.heap.size 4 [.bool (decide (so = 1))] := by rw [decide_eq_false h1]; exact hb7
    (repeat (first | (apply WL.pure; rfl; rfl; rfl) | (apply WL.nil) | (apply EX.thenN) | (apply CW.seq) | (apply CW.region)))
    refine CW.cond rfl (fun h => ?_) (fun h => ?_)
    · have h2 : so = 2 := by simpa using h
      clear h
      (repeat (first | (apply CW.seq) | (apply CW.region) | (apply WL.fa; rfl; rfl; rfl) | (apply WL.ldA; rfl; rfl; rfl; assumption; rfl)))
      refine WL.call rfl rfl rfl (declareCheck w4 tp) ?_
      rintro _ w5 ⟨rfl, e5⟩
      have hb2 := hb2.ext e5
      have hb3 := hb3.ext e5
      have hb7d := hb7d.ext e5
      have hE5 := hE.trans e5
      (repeat (first | (apply WL.pure; rfl; rfl; rfl) | (apply WL.nil) | (apply EX.thenN) | (apply CW.seq) | (apply CW.region) | (apply WL.fa; rfl; rfl; rfl) | (apply WL.ld; rfl; rfl; rfl; assumption; rfl)))
      refine WL.lit (F := Non) (ys := [tp.2.1]) rfl rfl rfl rfl rfl ⟨Rd.mkInt _ _ _, trivial⟩ (by show 1 * 1 ≤ 16777216; decide) (fun _ h => h.elim) (fun w6 ho6 hg6 => ?_)
      have e6 : Ext w5 w6 := (Below.refl _ _).grown hg6 (Nat.le_refl _) (fun k h => by cases h)
      have hb2 := hb2.ext e6
      have hb3 := hb3.ext e6
      have hb7d := hb7d.ext e6
      have hE6 := hE5.trans e6
      (repeat (first | (apply WL.pure; rfl; rfl; rfl) | (apply WL.nil) | (apply EX.thenN) | (apply CW.seq) | (apply CW.region) | (apply WL.fa; rfl; rfl; rfl) | (apply WL.ld; rfl; rfl; rfl; assumption; rfl)))
      refine WL.call rfl rfl rfl (alone_ok w6 tp.1) ?_
      rintro _ _ ⟨rfl, rfl⟩
      (repeat (first | (apply WL.pure; rfl; rfl; rfl) | (apply WL.nil) | (apply EX.thenN)))
      refine CW.cond rfl (fun h => ?_) (fun h => ?_)
      · have ha : ¬ aloneB tp.1 = true := by simpa using h
        (repeat (first | (apply WL.pure; rfl; rfl; rfl) | (apply CW.region) | (apply WL.fa; rfl; rfl; rfl) | (apply WL.ld; rfl; rfl; rfl; assumption; rfl)))
        refine WL.app1 (F := Non) (yv := tp.2.2.1) rfl rfl (fun _ => rfl) rfl rfl (fun _ => rfl) ho6 (Rd.mkInt _ _ _) e6.size (fun _ h => h.elim) (by decide) (by unfold maxLen; simp) (by simp) (fun v' w7 q ho7 hg7 hnb => ?_)
        have hb37 := hb3.kept hg7 (fun e => by have := Option.some.inj e; have : w1.heap.size = w5.heap.size := this; have := e5.size; omega)
        have hb77 := hb7d.kept hg7 (fun e => by have := Option.some.inj e; have : w2.heap.size = w5.heap.size := this; have := e5.size; omega)
        have hE7 : Ext w0 w7 := hE6.grown hg7 hE6.size (fun g hg => by cases hg; exact hE5.size)
        (repeat (first | (apply WL.pure; rfl; rfl; rfl) | (apply WL.nil) | (apply EX.inN)))
        refine EX.cutI v' ⟨rfl, rfl, ?_, rfl, rfl, trivial⟩ ⟨by rw [hat2 h2, if_neg ha]; exact ho7.oldN, hb37, hb77, hE7⟩
        unfold partE0; rw [if_neg h1, if_pos h2]; rfl
      · have ha : aloneB tp.1 = true := by simpa using h
        (repeat (first | (apply EX.inN) | (apply CW.skip)))
        refine EX.cutI _ ⟨rfl, rfl, ?_, rfl, rfl, trivial⟩ ⟨by rw [hat2 h2, if_pos ha]; exact ho6.oldN, hb3, hb7d, hE6⟩
        unfold partE0; rw [if_neg h1, if_pos h2]; rfl
    have h2 : ¬ so = 2 := by simpa using h
    clear h
    (repeat (first | (apply WL.pure; rfl; rfl; rfl) | (apply WL.nil) | (apply EX.thenN) | (apply CW.seq) | (apply CW.region)))
    refine CW.cond rfl (fun h => ?_) (fun h => ?_)
    · have h3 : so = 3 := by simpa using h
      clear h
      (repeat (first | (apply CW.region) | (apply WL.fa; rfl; rfl; rfl) | (apply WL.ld; rfl; rfl; rfl; assumption; rfl) | (apply WL.ldA; rfl; rfl; rfl; assumption; rfl)))
      refine WL.call rfl rfl rfl (lprint_ok w4 (hl.up hE) (hn.up hE)) ?_
      rintro _ w5 ⟨rfl, e5⟩
      (repeat (first | (apply WL.pure; rfl; rfl; rfl) | (apply WL.nil) | (apply EX.inN)))
      refine EX.cutI (.slice none 0 0) ⟨rfl, rfl, ?_, rfl, rfl, trivial⟩ ⟨by rw [hat3 h1 h2]; exact hnil _, hb3.ext e5, hb7d.ext e5, hE.trans e5⟩
      unfold partE0; rw [if_neg h1, if_neg h2, if_pos h3]; rfl
    have h3 : ¬ so = 3 := by simpa using h
    clear h
    (repeat (first | (apply WL.pure; rfl; rfl; rfl) | (apply WL.nil) | (apply EX.thenN) | (apply CW.seq) | (apply CW.region)))
    refine CW.cond rfl (fun h => ?_) (fun h => ?_)
    · have h4 : so = 4 := by simpa using h
      clear h
      (repeat (first | (apply CW.region) | (apply WL.fa; rfl; rfl; rfl) | (apply WL.ld; rfl; rfl; rfl; assumption; rfl) | (apply WL.ldA; rfl; rfl; rfl; assumption; rfl)))
      refine WL.call rfl rfl rfl (cprint_ok w4 (hc.up hE) (hn.up hE)) ?_
      rintro _ w5 ⟨rfl, e5⟩
      (repeat (first | (apply WL.pure; rfl; rfl; rfl) | (apply WL.nil) | (apply EX.inN)))
      refine EX.cutI (.slice none 0 0) ⟨rfl, rfl, ?_, rfl, rfl, trivial⟩ ⟨by rw [hat3 h1 h2]; exact hnil _, hb3.ext e5, hb7d.ext e5, hE.trans e5⟩
      unfold partE0; rw [if_neg h1, if_neg h2, if_neg h3, if_pos h4]; rfl
    · have h4 : ¬ so = 4 := by simpa using h
      (repeat (first | (apply EX.inN) | (apply CW.skip)))
      refine EX.cutI (.slice none 0 0) ⟨rfl, rfl, ?_, rfl, rfl, trivial⟩ ⟨by rw [hat3 h1 h2]; exact hnil _, hb3, hb7d, hE⟩
      unfold partE0; rw [if_neg h1, if_neg h2, if_neg h3, if_neg h4]; rfl
  rintro lv w5 ⟨hlv, hb35, hb75, hE5⟩
  obtain ⟨ao, cap, rfl, hsl⟩ := hlv.sl
  unfold partE
  generalize partE0 (nm, so, pt, tp, lt, ct) nms = E at *
  generalize atomsR (nm, so, pt, tp, lt, ct) = at' at *
  dsimp only
  (repeat (first | (apply WL.pure; rfl; rfl; rfl) | (apply CW.seq) | (apply CW.region)))
  (refine WL.lookG rfl rfl (fun h => ?_) (fun h => ?_))
  · have h0 : E = 0 := by simpa using h
    clear h
    (repeat (first | (apply WL.pure; rfl; rfl; rfl) | (apply WL.makeFunc; rfl; rfl; rfl; rfl)))
    refine WL.call rfl rfl rfl (containsFunc_int w5 (fun n => rnmL nms n (decide (so = 1)) == []) hsl (fun w hw i hi => FnV.mk (cs := [_, _]) (rpart1_ok w (hn.up (hE5.trans hw)) (hb35.ext hw) (hb75.ext hw) at'[i]))) ?_
    rintro _ w6 ⟨rfl, e6⟩
    (repeat (first | (apply WL.pure; rfl; rfl; rfl) | (apply WL.nil) | (apply EX.thenN)))
    refine CW.cond rfl (fun h => ?_) (fun h => ?_)
    · rw [if_pos ⟨h0, h⟩]
      (repeat (first | (apply WL.pure; rfl; rfl; rfl) | (apply WL.nil) | (apply EX.thenN) | (apply CW.seq) | (apply CW.region) | (apply CW.ret) | (apply EX.thenR)))
      exact EX.ret1 rfl rfl ⟨rfl, hE5.trans e6⟩
    · rw [if_neg (by rw [h]; simp)]
      (repeat (first | (apply WL.pure; rfl; rfl; rfl) | (apply WL.nil) | (apply EX.thenN) | (apply CW.seq) | (apply CW.region) | (apply CW.ret) | (apply CW.skip)))
      exact EX.ret1 rfl rfl ⟨rfl, hE5.trans e6⟩
  · have h0 : ¬ E = 0 := by simpa using h
    rw [if_neg (fun h => h0 h.1)]
    (repeat (first | (apply WL.pure; rfl; rfl; rfl) | (apply WL.nil) | (apply EX.thenN) | (apply CW.seq) | (apply CW.region) | (apply WL.pass; rfl; rfl) | (apply CW.condF; rfl) | (apply CW.ret) | (apply CW.skip)))
    exact EX.ret1 rfl rfl ⟨rfl, hE5⟩
end Go.Proofs.YtikigaeihdmcaaaGreatDoor

/-
  rule.Check and rule.Formula, walked.
-/
set_option linter.unusedVariables false
set_option linter.unusedSimpArgs false
namespace Go.Proofs.YtikigaeihdmcaaaGreatDoor
open Go.RowKit
def oth1 (r : LRule) : Bool := (r.2.1 != 1 && r.2.2.1 != patZ) || (r.2.1 != 2 && r.2.2.2.1 != tplZ)
def oth2 (r : LRule) : Bool := oth1 r || (r.2.1 != 3 && fillF r.2.2.2.2.1)
theorem otherB_eq (r : LRule) : otherB r = (oth2 r || (r.2.1 != 4 && fillF r.2.2.2.2.2)) := rfl
set_option maxHeartbeats 2000000 in
theorem rcheck_ok (w0 : World) {r : LRule} {lo co no : Option Addr} {lc cc nc : Nat} {nms : List ByteArray} (hl : Sl w0 (Old w0) lo lc r.2.2.2.2.1.kids) (hc : Sl w0 (Old w0) co cc r.2.2.2.2.2.kids) (hn : Sl w0 (Old w0) no nc nms) :
    Rt Tryz.prog 7 [rulV r lo lc co cc, .slice no nms.length nc].toArray w0 fun v w' => v = .int .i64 (chkRl r nms) ∧ Ext w0 w' := by
  refine Rt.enter2 Tryz.func7 Tryz.ntmps7 rfl rfl ?_
  have hlm := hl.len63
  have hcm := hc.len63
  (repeat (first | (apply CW.seq) | (apply CW.region)))
  refine WL.boxB rfl rfl rfl fun w1 hb2 e1 => ?_
  (repeat (first | (apply WL.pure; rfl; rfl; rfl) | (apply WL.nil) | (apply EX.thenN) | (apply CW.seq) | (apply CW.region) | (apply WL.fa; rfl; rfl; rfl) | (apply WL.ld; rfl; rfl; rfl; assumption; rfl)))
  refine WL.call rfl rfl rfl (Named_ok w1 r.1) ?_
  rintro _ w2 ⟨rfl, e2⟩
  have hb2 := hb2.ext e2
  have hE2 := e1.trans e2
  unfold chkRl
  have hbad : (namedB r.1 = false ∨ r.2.1 < 1 ∨ r.2.1 > 4) → (if namedB r.1 = false ∨ r.2.1 < 1 ∨ r.2.1 > 4 then 1 else if partE r nms ≠ 0 then partE r nms else if otherB r = true then 1 else 0) = (1 : Int) := fun h => if_pos h
  (repeat (apply WL.pure; rfl; rfl; rfl))
  (refine WL.lookG rfl rfl (fun h => ?_) (fun h => ?_))
  · rw [hbad (.inl (by simpa using h))]
    (repeat (first | (apply WL.pure; rfl; rfl; rfl) | (apply WL.nil) | (apply EX.thenN) | (apply CW.seq) | (apply CW.region) | (apply WL.pass; rfl; rfl) | (apply CW.condT; rfl) | (apply CW.ret) | (apply EX.thenR)))
    exact EX.ret1 rfl rfl ⟨rfl, hE2⟩
  have h1 : ¬ namedB r.1 = false := by simpa using h
  clear h
  (repeat (first | (apply WL.pure; rfl; rfl; rfl) | (apply WL.fa; rfl; rfl; rfl) | (apply WL.ld; rfl; rfl; rfl; assumption; rfl)))
  (refine WL.lookG rfl rfl (fun h => ?_) (fun h => ?_))
  · rw [hbad (.inr (.inl (by simpa using h)))]
    (repeat (first | (apply WL.pure; rfl; rfl; rfl) | (apply WL.nil) | (apply EX.thenN) | (apply CW.seq) | (apply CW.region) | (apply WL.pass; rfl; rfl) | (apply CW.condT; rfl) | (apply CW.ret) | (apply EX.thenR)))
    exact EX.ret1 rfl rfl ⟨rfl, hE2⟩
  have h2 : ¬ r.2.1 < 1 := by simpa using h
  clear h
  (repeat (first | (apply WL.pure; rfl; rfl; rfl) | (apply WL.nil) | (apply EX.thenN) | (apply WL.fa; rfl; rfl; rfl) | (apply WL.ld; rfl; rfl; rfl; assumption; rfl)))
  refine CW.cond rfl (fun h => ?_) (fun h => ?_)
  · rw [hbad (.inr (.inr (by simpa using h)))]
    (repeat (first | (apply WL.pure; rfl; rfl; rfl) | (apply WL.nil) | (apply EX.thenN) | (apply CW.seq) | (apply CW.region) | (apply CW.ret) | (apply EX.thenR)))
    exact EX.ret1 rfl rfl ⟨rfl, hE2⟩
  have h3 : ¬ r.2.1 > 4 := by simpa using h
  clear h hbad
  rw [if_neg (by simp only [not_or]; exact ⟨h1, h2, h3⟩)]
  (repeat (first | (apply WL.pure; rfl; rfl; rfl) | (apply EX.thenN) | (apply CW.seq) | (apply CW.region) | (apply WL.ldA; rfl; rfl; rfl; assumption; rfl) | (apply CW.skip)))
  refine WL.call rfl rfl rfl (rpart_ok w2 (r := r) (hl.up hE2) (hc.up hE2) (hn.up hE2)) ?_
  rintro _ w3 ⟨rfl, e3⟩
  have hb3 := hb2.ext e3
  have hE := hE2.trans e3
  generalize partE r nms = E at *
  (repeat (first | (apply WL.pure; rfl; rfl; rfl) | (apply WL.nil) | (apply EX.thenN) | (apply CW.seq) | (apply CW.region)))
  refine CW.cond rfl (fun h => ?_) (fun h => ?_)
  · rw [if_pos (by simpa using h)]
    (repeat (first | (apply WL.pure; rfl; rfl; rfl) | (apply WL.nil) | (apply EX.thenN) | (apply CW.seq) | (apply CW.region) | (apply CW.ret) | (apply EX.thenR)))
    exact EX.ret1 rfl rfl ⟨rfl, hE⟩
  rw [if_neg (by simpa using h)]
  clear h hb2 e3 e2 e1 hE2
  apply CW.skip
  apply EX.thenN
  refine CW.cut [(2, .pointer (some ⟨w0.heap.size, 0, none⟩)), (6, .bool (oth1 r))] ?_ ?_
  · unfold oth1
    (repeat (first | (apply WL.pure; rfl; rfl; rfl) | (apply CW.region) | (apply WL.fa; rfl; rfl; rfl) | (apply WL.ld; rfl; rfl; rfl; assumption; rfl)))
    (refine WL.lookG rfl rfl (fun h => ?_) (fun h => ?_))
    · rw [h]
      (repeat (first | (apply WL.fa; rfl; rfl; rfl) | (apply WL.ldA; rfl; rfl; rfl; assumption; rfl)))
      refine WL.build (parts := []) rfl rfl rfl rfl ?_
      refine WL.nePat (a := r.2.2.1) rfl rfl rfl rfl ?_
      (repeat (apply WL.pure; rfl; rfl; rfl))
      (refine WL.lookG rfl rfl (fun h => ?_) (fun h => ?_))
      · rw [h]
        (repeat (first | (apply WL.pure; rfl; rfl; rfl) | (apply WL.nil) | (apply WL.pass; rfl; rfl)))
        exact EX.cut (by repeat (first | exact trivial | refine ⟨rfl, ?_⟩))
      · rw [h]
        (repeat (first | (apply WL.pure; rfl; rfl; rfl) | (apply WL.fa; rfl; rfl; rfl) | (apply WL.ld; rfl; rfl; rfl; assumption; rfl)))
        (refine WL.lookG rfl rfl (fun h => ?_) (fun h => ?_))
        · rw [h]
          (repeat (first | (apply WL.fa; rfl; rfl; rfl) | (apply WL.ldA; rfl; rfl; rfl; assumption; rfl)))
          refine WL.build (parts := []) rfl rfl rfl rfl ?_
          refine WL.neTpl (a := r.2.2.2.1) rfl rfl rfl rfl ?_
          (repeat (first | (apply WL.pure; rfl; rfl; rfl) | (apply WL.nil)))
          exact EX.cut (by repeat (first | exact trivial | refine ⟨rfl, ?_⟩))
        · rw [h]
          (repeat (first | (apply WL.pure; rfl; rfl; rfl) | (apply WL.nil) | (apply WL.pass; rfl; rfl)))
          exact EX.cut (by repeat (first | exact trivial | refine ⟨rfl, ?_⟩))
    · rw [h]
      (repeat (first | (apply WL.pure; rfl; rfl; rfl) | (apply WL.pass; rfl; rfl) | (apply WL.fa; rfl; rfl; rfl) | (apply WL.ld; rfl; rfl; rfl; assumption; rfl)))
      (refine WL.lookG rfl rfl (fun h => ?_) (fun h => ?_))
      · rw [h]
        (repeat (first | (apply WL.fa; rfl; rfl; rfl) | (apply WL.ldA; rfl; rfl; rfl; assumption; rfl)))
        refine WL.build (parts := []) rfl rfl rfl rfl ?_
        refine WL.neTpl (a := r.2.2.2.1) rfl rfl rfl rfl ?_
        (repeat (first | (apply WL.pure; rfl; rfl; rfl) | (apply WL.nil)))
        exact EX.cut (by repeat (first | exact trivial | refine ⟨rfl, ?_⟩))
      · rw [h]
        (repeat (first | (apply WL.pure; rfl; rfl; rfl) | (apply WL.nil) | (apply WL.pass; rfl; rfl)))
        exact EX.cut (by repeat (first | exact trivial | refine ⟨rfl, ?_⟩))
  refine CW.cut [(2, .pointer (some ⟨w0.heap.size, 0, none⟩)), (6, .bool (oth2 r))] ?_ ?_
  · unfold oth2 fillF
    (repeat (first | (apply WL.pure; rfl; rfl; rfl) | (apply CW.region)))
    (refine WL.lookG rfl rfl (fun h => ?_) (fun h => ?_))
    · rw [h]
      (repeat (first | (apply WL.pure; rfl; rfl; rfl) | (apply WL.nil) | (apply WL.pass; rfl; rfl)))
      exact EX.cut (by repeat (first | exact trivial | refine ⟨rfl, ?_⟩))
    rw [h]
    (repeat (first | (apply WL.pure; rfl; rfl; rfl) | (apply WL.fa; rfl; rfl; rfl) | (apply WL.ld; rfl; rfl; rfl; assumption; rfl)))
    (refine WL.lookG rfl rfl (fun h => ?_) (fun h => ?_))
    · rw [h]
      (repeat (first | (apply WL.pure; rfl; rfl; rfl) | (apply WL.fa; rfl; rfl; rfl) | (apply WL.ld; rfl; rfl; rfl; assumption; rfl)))
      (refine WL.lookG rfl rfl (fun h => ?_) (fun h => ?_))
      · rw [h]
        (repeat (first | (apply WL.pure; rfl; rfl; rfl) | (apply WL.nil) | (apply WL.pass; rfl; rfl)))
        exact EX.cut (by repeat (first | exact trivial | refine ⟨rfl, ?_⟩))
      rw [h]
      (repeat (first | (apply WL.pure; rfl; rfl; rfl) | (apply WL.fa; rfl; rfl; rfl) | (apply WL.ld; rfl; rfl; rfl; assumption; rfl)))
      (refine WL.lookG rfl rfl (fun h => ?_) (fun h => ?_))
      · rw [h]
        (repeat (first | (apply WL.pure; rfl; rfl; rfl) | (apply WL.nil) | (apply WL.pass; rfl; rfl)))
        exact EX.cut (by repeat (first | exact trivial | refine ⟨rfl, ?_⟩))
      rw [h]
      (repeat (first | (apply WL.pure; rfl; rfl; rfl) | (apply WL.nil) | (apply WL.lenS; rfl; rfl; rfl) | (apply WL.fa; rfl; rfl; rfl) | (apply WL.ld; rfl; rfl; rfl; assumption; rfl)))
      refine EX.cut ⟨rfl, ?_, trivial⟩
      refine congrArg (fun b => some (Value.bool b)) ?_
      rw [Bool.eq_iff_iff]; simp
    · rw [h]
      (repeat (first | (apply WL.pure; rfl; rfl; rfl) | (apply WL.nil) | (apply WL.pass; rfl; rfl)))
      exact EX.cut (by repeat (first | exact trivial | refine ⟨rfl, ?_⟩))
  rw [otherB_eq]
  unfold fillF
  (repeat (first | (apply WL.pure; rfl; rfl; rfl) | (apply CW.seq) | (apply CW.region)))
  (refine WL.lookG rfl rfl (fun h => ?_) (fun h => ?_))
  · rw [h]
    (repeat (first | (apply WL.pure; rfl; rfl; rfl) | (apply WL.nil) | (apply EX.thenN) | (apply CW.seq) | (apply CW.region) | (apply WL.pass; rfl; rfl) | (apply CW.condT; rfl) | (apply CW.ret) | (apply EX.thenR)))
    exact EX.ret1 rfl rfl ⟨rfl, hE⟩
  rw [h]
  clear h
  (repeat (first | (apply WL.pure; rfl; rfl; rfl) | (apply WL.fa; rfl; rfl; rfl) | (apply WL.ld; rfl; rfl; rfl; assumption; rfl)))
  (refine WL.lookG rfl rfl (fun h => ?_) (fun h => ?_))
  · rw [h]
    (repeat (first | (apply WL.pure; rfl; rfl; rfl) | (apply WL.fa; rfl; rfl; rfl) | (apply WL.ld; rfl; rfl; rfl; assumption; rfl)))
    (refine WL.lookG rfl rfl (fun h => ?_) (fun h => ?_))
    · rw [h]
      (repeat (first | (apply WL.pure; rfl; rfl; rfl) | (apply WL.nil) | (apply EX.thenN) | (apply CW.seq) | (apply CW.region) | (apply WL.pass; rfl; rfl) | (apply CW.condT; rfl) | (apply CW.ret) | (apply EX.thenR)))
      exact EX.ret1 rfl rfl ⟨rfl, hE⟩
    rw [h]
    (repeat (first | (apply WL.pure; rfl; rfl; rfl) | (apply WL.fa; rfl; rfl; rfl) | (apply WL.ld; rfl; rfl; rfl; assumption; rfl)))
    (refine WL.lookG rfl rfl (fun h => ?_) (fun h => ?_))
    · rw [h]
      (repeat (first | (apply WL.pure; rfl; rfl; rfl) | (apply WL.nil) | (apply EX.thenN) | (apply CW.seq) | (apply CW.region) | (apply WL.pass; rfl; rfl) | (apply CW.condT; rfl) | (apply CW.ret) | (apply EX.thenR)))
      exact EX.ret1 rfl rfl ⟨rfl, hE⟩
    rw [h]
    (repeat (first | (apply WL.pure; rfl; rfl; rfl) | (apply WL.nil) | (apply EX.thenN) | (apply WL.lenS; rfl; rfl; rfl) | (apply WL.fa; rfl; rfl; rfl) | (apply WL.ld; rfl; rfl; rfl; assumption; rfl)))
    refine CW.cond rfl (fun h => ?_) (fun h => ?_)
    · rw [if_pos (by simpa using h)]
      (repeat (first | (apply WL.pure; rfl; rfl; rfl) | (apply WL.nil) | (apply EX.thenN) | (apply CW.seq) | (apply CW.region) | (apply CW.ret) | (apply EX.thenR)))
      exact EX.ret1 rfl rfl ⟨rfl, hE⟩
    · rw [if_neg (by simpa using h)]
      (repeat (first | (apply WL.pure; rfl; rfl; rfl) | (apply WL.nil) | (apply EX.thenN) | (apply CW.seq) | (apply CW.region) | (apply CW.ret) | (apply CW.skip)))
      exact EX.ret1 rfl rfl ⟨rfl, hE⟩
  · rw [h]
    (repeat (first | (apply WL.pure; rfl; rfl; rfl) | (apply WL.nil) | (apply EX.thenN) | (apply CW.seq) | (apply CW.region) | (apply WL.pass; rfl; rfl) | (apply CW.condF; rfl) | (apply CW.ret) | (apply CW.skip)))
    exact EX.ret1 rfl rfl ⟨rfl, hE⟩
end Go.Proofs.YtikigaeihdmcaaaGreatDoor

/-
  Drawn regions in which several changes of memory may come in any order: a bag of operations, each of which only makes new memory. Over any program.
-/
set_option linter.unusedVariables false
set_option linter.unusedSimpArgs false
namespace Go.Proofs.YtikigaeihdmcaaaGreatDoor
open Go.RowKit

def Never : Exit → Act → World → Prop := fun _ _ _ => False
theorem wp_exits {P : Program} {o : Oper} {a : Act} {w : World} {K : Act → World → Prop} {Q Q' : Exit → Act → World → Prop} (hq : ∀ e a w, e ≠ .normal → Q e a w → Q' e a w) (h : o.wp P a w K Q) : o.wp P a w K Q' := by
  unfold Oper.wp at *
  generalize (execOp a.eval o).run P w = r at *
  cases r with
  | ok k w' =>
    cases k <;> simp only [Oper.upon] at h ⊢ <;> first
      | exact h
      | (refine Calls.mono h (fun e w'' he => ?_); cases e <;> first | exact he | exact hq _ _ _ (by simp) he | (obtain ⟨a1, w1, hx⟩ := he; exact ⟨a1, w1, hq _ _ _ (by simp) hx⟩))
  | halt x w' => cases x <;> simp only [Oper.upon] at h ⊢ <;> first | exact h | exact hq _ _ _ (by simp) h

/-- one of the bag: its number, its slot, and what is so of its value from then on -/
structure BE where
  i : Nat
  d : Nat
  /-- of the value, the new blocks that came with it, and the world -/
  Φ : Value → (Nat → Prop) → World → Prop
/-- behind the bag: each slot holds a value of which its fact is so; what came with one did not come with another -/
def BagK (w' : World) (G : Sg → Prop) : List (Nat → Prop) → List BE → Sg → Prop
  | _, [], σ => G σ
  | D, e :: r, σ => ∀ v N, e.Φ v N w' → (∀ p ∈ D, ∀ b, p b → N b → False) → BagK w' G (N :: D) r ((e.d, v) :: σ)
theorem BagK.get {w' : World} {G : Sg → Prop} {n : Nat} {a : Act} (NN : Nat → Nat → Prop) : ∀ (E : List BE) {D : List (Nat → Prop)} {σ : Sg}, BagK w' G D E σ → Fr n σ a → (∀ e ∈ E, e.d < n ∧ e.Φ (a.tmps.getD e.d undef) (NN e.i) w') →
    (∀ e ∈ E, ∀ p ∈ D, ∀ b, p b → NN e.i b → False) → (E.map (·.i)).Nodup → (∀ e ∈ E, ∀ f ∈ E, e.i ≠ f.i → ∀ b, NN e.i b → NN f.i b → False) → ∃ τ, Fr n τ a ∧ G τ
  | [], D, σ, h, ha, _, _, _, _ => ⟨σ, ha, h⟩
  | e :: r, D, σ, h, ha, hE, hD, hnd, hP => by
    have he := hE e (by simp)
    rw [List.map_cons, List.nodup_cons] at hnd
    refine BagK.get NN r (h _ _ he.2 (hD e (by simp))) ?_ (fun x hx => hE x (by simp [hx])) ?_ hnd.2 (fun x hx y hy => hP x (by simp [hx]) y (by simp [hy]))
    rotate_left
    · intro x hx p hp b hb hx'
      rcases List.mem_cons.1 hp with rfl | hp
      · exact hP e (by simp) x (by simp [hx]) (fun hi => hnd.1 (by rw [hi]; exact List.mem_map_of_mem hx)) b hb hx'
      · exact hD x (by simp [hx]) p hp b hb hx'
    refine ⟨ha.size, ha.defers, fun t u hu => ?_⟩
    by_cases ht : e.d = t
    · subst ht; rw [fnd_cons_eq] at hu; cases hu; rfl
    · rw [fnd_cons_ne ht] at hu; exact ha.slot _ _ hu
theorem nodup_inj {β γ : Type} {f : β → γ} : ∀ {l : List β}, (l.map f).Nodup → ∀ x ∈ l, ∀ y ∈ l, f x = f y → x = y
  | [], _, x, hx, _, _, _ => by simp at hx
  | z :: r, h, x, hx, y, hy, e => by
    rw [List.map_cons, List.nodup_cons] at h
    rcases List.mem_cons.1 hx with h1 | h1
    · rcases List.mem_cons.1 hy with h2 | h2
      · rw [h1, h2]
      · exact absurd (show f z ∈ r.map f by rw [← h1, e]; exact List.mem_map_of_mem h2) h.1
    · rcases List.mem_cons.1 hy with h2 | h2
      · exact absurd (show f z ∈ r.map f by rw [← h2, ← e]; exact List.mem_map_of_mem h1) h.1
      · exact nodup_inj h.2 x h1 y h2 e
section
variable {P : Program} {Q : Exit → Act → World → Prop} {n : Nat} {σ : Sg} {w : World} {L : List Oper} {S : World → Prop}
end
end Go.Proofs.YtikigaeihdmcaaaGreatDoor

/-
  Drawn regions whose last operation is alone and may change what the others read: S need not hold behind it. Over any program.
-/
set_option linter.unusedVariables false
set_option linter.unusedSimpArgs false
namespace Go.Proofs.YtikigaeihdmcaaaGreatDoor
open Go.RowKit

/-- whatever order is picked; behind each operation but number e the condition S holds -/
def wpAnyE (P : Program) (ops : Array Oper) (Q : Exit → Act → World → Prop) (S : World → Prop) (e : Nat) : Nat → Array Bool → Act → World → Prop
  | 0, listed, a, w => Region.ready .any ops listed = [] ∧ Q .normal a w
  | k + 1, listed, a, w => (Region.ready .any ops listed = [] → Q .normal a w) ∧ ∀ i ∈ Region.ready .any ops listed, wpOp P ops Q i (fun a' w' => (i ≠ e → S w') ∧ wpAnyE P ops Q S e k (listed.setIfInBounds i true) a' w') a w
theorem wpAny_of_E {P : Program} {ops : Array Oper} {Q : Exit → Act → World → Prop} {S : World → Prop} {e : Nat} : ∀ (k : Nat) (listed : Array Bool) (a : Act) (w : World), wpAnyE P ops Q S e k listed a w → wpAny P .any ops Q k listed a w
  | 0, _, _, _, h => h
  | k + 1, _, _, _, h => ⟨h.1, fun i hi => wpOp_mono (fun a' w' h' => wpAny_of_E k _ a' w' h'.2) (h.2 i hi)⟩
/-- does number e wait for number i? -/
def waitsB (ops : Array Oper) (e i : Nat) : Bool := match ops[e]? with
  | some o => o.after.toList.any fun ed => Region.binds .any ed && (ed.on == i)
  | none => false
theorem waits_not {ops : Array Oper} {e i : Nat} {listed : Array Bool} (hw : waitsB ops e i = true) (hi : listed.getD i false = false) : e ∉ Region.ready .any ops listed := by
  intro he
  obtain ⟨_, o, ho, hall⟩ := mem_ready.1 he
  unfold waitsB at hw
  rw [ho] at hw
  obtain ⟨ed, h1, h2⟩ := List.any_eq_true.1 hw
  simp only [Bool.and_eq_true, beq_iff_eq] at h2
  have := hall ed (by simpa using h1) h2.1
  rw [h2.2, hi] at this
  cases this
theorem ready_open {ops : Array Oper} {i : Nat} {listed : Array Bool} (h : i ∈ Region.ready .any ops listed) : listed.getD i false = false := by
  have h0 := (mem_ready.1 h).1
  rcases Nat.lt_or_ge i listed.size with h' | h'
  · simp [h'] at h0 ⊢; exact h0
  · simp [h']
theorem wpAnyE_take {P : Program} {ops : Array Oper} {Q : Exit → Act → World → Prop} {S : World → Prop} {e i : Nat} {oi : Oper} {v : Value} (hoi : ops[i]? = some oi) (hs : Region.noSelect ops = true) (hne : i ≠ e) (hwt : waitsB ops e i = true) (hQ : ∀ c a w, Q (.panic c) (a.put oi.dst v) w → Q (.panic c) a w) :
    ∀ (k : Nat) (listed : Array Bool) (a : Act) (w : World), (∀ j oj, ops[j]? = some oj → j ≠ i → listed.getD j true = false → (∀ ed ∈ oj.after, Region.binds .any ed = true → ed.on ≠ i) → oi.apart ops oj = true) →
      i ∈ Region.ready .any ops listed → YieldsIf P ops S oi v a → S w → wpAnyE P ops Q S e k (listed.setIfInBounds i true) (a.put oi.dst v) w → wpAnyE P ops Q S e (k + 1) listed a w := by
  have hsel := Region.noSelect_spec hs
  intro k
  induction k with
  | zero =>
    intro listed a w _ hr hy hS H
    refine ⟨fun h => (by rw [h] at hr; cases hr), fun j hj => ?_⟩
    by_cases hji : j = i
    · subst hji; exact hy.wpOp hoi hS ⟨fun _ => hS, H⟩
    · have := ready_mono hj hji
      rw [H.1] at this
      cases this
  | succ k ih =>
    intro listed a w hfree hr hy hS H
    refine ⟨fun h => (by rw [h] at hr; cases hr), fun j hj => ?_⟩
    by_cases hji : j = i
    · subst hji; exact hy.wpOp hoi hS ⟨fun _ => hS, H⟩
    · have hje : j ≠ e := fun h => waits_not hwt (ready_open hr) (h ▸ hj)
      obtain ⟨hopen, oj, hoj, hall⟩ := mem_ready.1 hj
      have hno : ∀ ed ∈ oj.after, Region.binds .any ed = true → ed.on ≠ i := fun ed h1 h2 h3 => by
        have h4 := hall ed h1 h2
        rw [h3, ready_open hr] at h4
        cases h4
      have hput := wpOp_putIf hoj (hfree j oj hoj hji hopen hno) (fun cs b => hsel i oi cs b hoi) (fun cs b => hsel j oj cs b hoj) hQ hy (H.2 j (ready_mono hj hji))
      refine wpOp_mono (fun a' w' h3 => ⟨fun _ => h3.2.1 hje, ih (listed.setIfInBounds j true) a' w' (fun m om hm hmi hun hn => hfree m om hm hmi ?_ hn) (ready_mono hr (Ne.symm hji)) h3.1 (h3.2.1 hje) ?_⟩) hput
      · by_cases hjm : j = m
        · subst hjm; exact hopen
        · rw [getD_set_ne true hjm] at hun; exact hun
      · rw [Array.setIfInBounds_comm _ _ hji]
        exact h3.2.2

/-- the order: s, and then e alone -/
def ordE (ops : Array Oper) (e : Nat) : List (Nat × Bool) → Array Bool → Bool
  | [], listed => decide (Region.ready .any ops listed = [e]) && (Region.ready .any ops (listed.setIfInBounds e true)).isEmpty
  | (i, true) :: s, listed => (Region.ready .any ops listed).contains i && Region.free .any ops listed i && !(i == e) && waitsB ops e i && ordE ops e s (listed.setIfInBounds i true)
  | (i, false) :: s, listed => decide (Region.ready .any ops listed = [i]) && ordE ops e s (listed.setIfInBounds i true)
def ordEOk (l : List Oper) (s : List (Nat × Bool)) (e : Nat) : Bool := Region.noSelect l.toArray && decide (s.length + 1 = l.length) && ordE l.toArray e s (Array.replicate l.length false)
/-- number e, alone and last -/
def TailQ (P : Program) (ops : List Oper) (Q : Exit → Act → World → Prop) (e : Nat) : Exit → Act → World → Prop :=
  fun x a w => x = .normal ∧ ∃ o, ops[e]? = some o ∧ wpList P ops.toArray (fun x a w => x = .normal ∧ Q .normal a w) [o] a w
theorem wpHLe_sound {P : Program} {ops : List Oper} {S : World → Prop} {Q : Exit → Act → World → Prop} {e : Nat} (hs : Region.noSelect ops.toArray = true) :
    ∀ (s : List (Nat × Bool)) (listed : Array Bool) (a : Act) (w : World), ordE ops.toArray e s listed = true → S w → wpHL P ops S (fun a w => TailQ P ops Q e .normal a w) s a w → wpAnyE P ops.toArray (fun x a w => x = .normal ∧ Q .normal a w) S e (s.length + 1) listed a w
  | [], listed, a, w, hB, hS, h => by
    simp only [ordE, Bool.and_eq_true, decide_eq_true_eq, List.isEmpty_iff] at hB
    obtain ⟨_, o, ho, hl⟩ := h
    refine ⟨fun h0 => (by rw [hB.1] at h0; cases h0), fun i hi => ?_⟩
    rw [hB.1, List.mem_singleton] at hi
    subst hi
    have ho' : ops.toArray[i]? = some o := by simpa using ho
    unfold wpOp
    simp only [ho']
    simp only [wpList] at hl
    split
    · rename_i hw
      rw [if_pos hw] at hl
      exact hl.imp (Oper.wp_mono fun a' w' h' => ⟨fun h => absurd rfl h, hB.2, rfl, h'.2⟩) id
    · rename_i hw
      rw [if_neg hw] at hl
      exact ⟨fun h => absurd rfl h, hB.2, rfl, hl.2⟩
  | (i, true) :: s, listed, a, w, hB, hS, ⟨o, v, ho, hy, h⟩ => by
    simp only [ordE, Bool.and_eq_true, Bool.not_eq_true', beq_eq_false_iff_ne] at hB
    obtain ⟨⟨⟨⟨h1, h2⟩, h3⟩, h4⟩, h5⟩ := hB
    have ho' : ops.toArray[i]? = some o := by simpa using ho
    exact wpAnyE_take ho' hs h3 h4 (fun _ _ _ h => by cases h.1) _ _ _ _ (Region.free_spec ho' h2) (by simpa using h1) hy hS (wpHLe_sound hs s _ _ _ h5 hS h)
  | (i, false) :: s, listed, a, w, hB, hS, ⟨o, ho, h⟩ => by
    simp only [ordE, Bool.and_eq_true, decide_eq_true_eq] at hB
    refine ⟨fun h0 => (by rw [hB.1] at h0; cases h0), fun j hj => ?_⟩
    rw [hB.1, List.mem_singleton] at hj
    subst hj
    have ho' : ops.toArray[j]? = some o := by simpa using ho
    unfold wpOp
    simp only [ho']
    split
    · rename_i hw
      rw [if_pos hw] at h
      exact .inl (Oper.wp_mono (fun a' w' h' => ⟨fun _ => h'.1, wpHLe_sound hs s _ _ _ hB.2 h'.1 h'.2⟩) (wp_exits (fun x a w hne hf => absurd hf.1 hne) h))
    · rename_i hw
      rw [if_neg hw] at h
      exact ⟨fun _ => h.1, wpHLe_sound hs s _ _ _ hB.2 h.1 h.2⟩
section
variable {P : Program} {Q : Exit → Act → World → Prop} {n : Nat} {σ : Sg} {w : World} {L : List Oper} {S : World → Prop}
theorem CW.drawE {id : Nat} (S : World → Prop) (s : List (Nat × Bool)) (e : Nat) (hm : P.follows .mixedOrders = true) (hB : ordEOk L s e = true) (hS : S (drew w)) (h : HL P L S (TailQ P L Q e) s n σ (drew w)) : CW P (.region id L.toArray true) Q n σ w := by
  unfold CW; unfold HL at h; intro a ha
  simp only [ordEOk, Bool.and_eq_true, decide_eq_true_eq] at hB
  obtain ⟨⟨hs, hl⟩, hB⟩ := hB
  have h1 := wpHLe_sound (Q := Q) hs s (Array.replicate L.length false) a (Go.Proofs.YtikigaeihdmcaaaGreatDoor.drew w) hB hS (h a ha)
  rw [hl] at h1
  have h2 : (Code.region id L.toArray true).wp P (fun x a w => x = .normal ∧ Q .normal a w) a w := wp_region_any hm (by simpa using wpAny_of_E _ _ _ _ h1)
  exact wp_mono h2 (fun e a' w' ⟨he, hq⟩ => by subst he; exact hq)
/-- the last operation, by the rule for its like -/
theorem EX.tail {e : Nat} {o : Oper} (ho : nthO L e = some o) (h : WL P L (fun x a w => x = .normal ∧ Q .normal a w) [o] n σ w) : EX (TailQ P L Q e) .normal n σ w := by
  unfold EX; unfold WL at h
  intro a ha
  rw [nthO_eq] at ho
  exact ⟨rfl, o, ho, h a ha⟩
theorem EX.tailE (h : EX Q .normal n σ w) : EX (fun x a w => x = .normal ∧ Q .normal a w) .normal n σ w := by
  unfold EX at *; exact fun a ha => ⟨rfl, h a ha⟩
end
section
variable {P : Program} {Q : Exit → Act → World → Prop} {n : Nat} {σ : Sg} {wc : World} {L : List Oper} {S : World → Prop} {i j d : Nat} {ty : TypeId} {pos : String} {af : Array Edge} {g : Option (Nat × Bool)} {ty' : TypeId} {pos' : String} {af' : Array Edge} {g' : Option (Nat × Bool)} {t e : TypeId} {x ix y : Operand}
variable {α : Type} [Rep α] {F : Nat → Prop}
end
section
variable {P : Program} {Q : Exit → Act → World → Prop} {n : Nat} {σ : Sg} {w wc : World} {L : List Oper} {S : World → Prop} {ord : List (Nat × Bool)} {i d : Nat} {ty : TypeId} {pos : String} {af : Array Edge} {g : Option (Nat × Bool)} {t e : TypeId} {x : Operand} {b o : Nat} {cells : List Value}
/-- a field of a struct that nobody changes meanwhile -/
theorem HL.ldK {v : Value} (hK : ∀ w1, S w1 → w1.heap[b]? = w.heap[b]?) (ho : nthO L i = some ⟨some d, .load t x, ty, pos, af, g⟩) (hg : gd L σ ⟨some d, .load t x, ty, pos, af, g⟩ = some true) (hd : Nat.ble (d + 1) n = true) (hx : ev σ x = some (.pointer (some ⟨b, o, none⟩))) [hc : IsC P t 1 false] (hb : Blk w b e cells) (hv : nthV cells o = some v)
    (h : HL P L S Q ord n ((d, v) :: σ) wc) : HL P L S Q ((i, true) :: ord) n σ wc := by
  refine HL.run ho hg hd (fun a ha w' hsw => ?_) h
  have hb' : Blk w' b e cells := (hK w' hsw).trans hb
  simp [execOp, ha.ev hx, run_ld (P := P) (t := t) w' hb' hv]
end
end Go.Proofs.YtikigaeihdmcaaaGreatDoor

