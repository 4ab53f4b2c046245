/-
  DeclareSilent: its drawn region of two clones and a variable; walked.
-/
import Derived.Test.YthojdcbpglipeaaDcSil
import Derived.Test.YthojdcbpglipeaaIns3
import Derived.Test.YthojdcbpglipeaaChain
import Derived.Test.YthojdcbpglipeaaUnroll
import Derived.Test.YthojdcbpglipeaaLeast
set_option linter.unusedVariables false
set_option linter.unusedSimpArgs false
namespace Go.Proofs.Ythojdcbpglipeaa
open Go.RowKit

/-- two lists of letters that the call owns -/
structure TwoS (w : World) (B : Nat) (v u : Value) (xs ys : List Nat) : Prop where
  o1 : Own w B 33 Non v xs
  o2 : Own w B 33 Non u ys
  ne : ∀ g, v.ownBlock = some g → u.ownBlock ≠ some g
theorem TwoS.ext {w w' : World} {B : Nat} {v u : Value} {xs ys : List Nat} (h : TwoS w B v u xs ys) (hE : Ext w w') : TwoS w' B v u xs ys := ⟨h.o1.extN hE, h.o2.extN hE, h.ne⟩
theorem ds_chain {Q : Exit → Act → World → Prop} {n : Nat} {L : List Oper} {w5 : World} {p3 p4 v2 v7 : Value} {so lo : Option Addr} {sc lc : Nat} {s l : List Nat}
    {i2 i5 i6 i7 i8 : TypeId} {q2 q5 q6 q7 q8 : String} {f2 f5 f6 f7 f8 : Array Edge} {ts ts' : Array TypeId}
    (o2 : nthO L 2 = some ⟨some 41, .call ⟨.value (.func 27), [Operand.tmp 40].toArray, ts⟩, i2, q2, f2, none⟩)
    (o5 : nthO L 5 = some ⟨some 44, .call ⟨.value (.func 27), [Operand.tmp 43].toArray, ts'⟩, i5, q5, f5, none⟩)
    (o6 : nthO L 6 = some ⟨some 45, .build 44 [(0, Operand.tmp 41), (1, Operand.tmp 44)].toArray, i6, q6, f6, none⟩)
    (o7 : nthO L 7 = some ⟨some 11, .alloc 44, i7, q7, f7, none⟩)
    (o8 : nthO L 8 = some ⟨none, .store 44 (.tmp 11) (.tmp 45), i8, q8, f8, none⟩)
    (n30 : Nat.ble 42 n = true) (n33 : Nat.ble 45 n = true) (n34 : Nat.ble 46 n = true) (n9 : Nat.ble 12 n = true)
    (hs : Sl w5 (Old w5) so sc s) (hl : Sl w5 (Old w5) lo lc l) (h6 : s.length + l.length ≤ 1000)
    (hQ : ∀ w b x y, Ext w5 w → w5.heap.size ≤ b → TwoS w w5.heap.size x y s l → x.ownBlock ≠ some b → y.ownBlock ≠ some b → Blk w b 44 [x, y] → EX Q .normal n [(11, .pointer (some ⟨b, 0, none⟩)), (3, p3), (4, p4), (2, v2), (9, v7)] w) :
    EX (ChainQ Try.prog L (fun x => Ext w5 x) Q 7 [2, 5, 6] [(8, false)]) .normal n [(3, p3), (4, p4), (2, v2), (9, v7), (40, .slice so s.length sc), (43, .slice lo l.length lc)] (drew w5) := by
  have Z : ∀ w b, Blk w b 44 [.slice none 0 0, .slice none 0 0] → b < w.heap.size := fun w b h => h.lt
  have T3 : ∀ w b u1 m1 u2 m2, Ext w5 w → TwoS w w5.heap.size (.slice u1 s.length m1) (.slice u2 l.length m2) s l → Blk w b 44 [.slice none 0 0, .slice none 0 0] → w5.heap.size ≤ b → Value.ownBlock (.slice u1 s.length m1) ≠ some b → Value.ownBlock (.slice u2 l.length m2) ≠ some b →
      HL Try.prog L (fun x => Ext w5 x) Q [(8, false)] n [(11, .pointer (some ⟨b, 0, none⟩)), (45, .agg [.slice u1 s.length m1, .slice u2 l.length m2].toArray), (3, p3), (4, p4), (2, v2), (9, v7)] w := by
    intro w b u1 m1 u2 m2 hE hT hb hge hv hu
    refine HL.mut o8 (WL.st rfl rfl rfl hb rfl rfl (ones_of rfl) (fun w' hb' hg => ?_))
    have hE' : Ext w5 w' := hE.grown hg hE.size (fun g hg => by cases hg; exact hge)
    have h1 := hT.o1.keptN hg (fun g h e => by cases e; exact hv h)
    have h2 := hT.o2.keptN hg (fun g h e => by cases e; exact hu h)
    exact WL.nil (EX.mut hE' (HL.nil (EX.sub (by repeat (first | exact trivial | refine ⟨rfl, ?_⟩)) (hQ w' b _ _ hE' hge ⟨h1, h2, hT.ne⟩ hv hu hb'))))
  have T2 : ∀ w b v u, Ext w5 w → TwoS w w5.heap.size v u s l → Blk w b 44 [.slice none 0 0, .slice none 0 0] → w5.heap.size ≤ b → v.ownBlock ≠ some b → u.ownBlock ≠ some b →
      HL Try.prog L (fun x => Ext w5 x) Q [(6, false), (8, false)] n [(11, .pointer (some ⟨b, 0, none⟩)), (41, v), (44, u), (3, p3), (4, p4), (2, v2), (9, v7)] w := by
    intro w b v u hE hT hb hge hv hu
    obtain ⟨u1, m1, rfl⟩ := hT.o1.val
    obtain ⟨u2, m2, rfl⟩ := hT.o2.val
    exact HL.mut o6 (WL.build rfl n34 rfl rfl (WL.nil (EX.mut hE (HL.sub (by repeat (first | exact trivial | refine ⟨rfl, ?_⟩)) (T3 w b u1 m1 u2 m2 hE hT hb hge hv hu)))))
  have T1 : ∀ w b v, Ext w5 w → Own w w5.heap.size 33 Non v s → Blk w b 44 [.slice none 0 0, .slice none 0 0] → w5.heap.size ≤ b → v.ownBlock ≠ some b →
      HL Try.prog L (fun x => Ext w5 x) Q [(5, false), (6, false), (8, false)] n [(11, .pointer (some ⟨b, 0, none⟩)), (41, v), (43, .slice lo l.length lc), (3, p3), (4, p4), (2, v2), (9, v7)] w := by
    intro w b v hE hT hb hge hv
    refine HL.mut o5 (WL.call rfl n33 rfl (uclone_ok w (hl.up hE) (fun _ h => h) (by omega)) ?_)
    rintro u w' ⟨ho, e⟩
    have hE' := hE.trans e
    exact WL.nil (EX.mut hE' (HL.sub (by repeat (first | exact trivial | refine ⟨rfl, ?_⟩)) (T2 w' b v u hE' ⟨hT.extN e, ho.low hE.size, fun g h1 h2 => by have := (hT.lt g h1).2.1; have := (ho.lt g h2).1; omega⟩ (hb.ext e) hge hv (fun h => by have := (ho.lt b h).1; have := hb.lt; omega))))
  have T0 : ∀ w b, Ext w5 w → Blk w b 44 [.slice none 0 0, .slice none 0 0] → w5.heap.size ≤ b →
      HL Try.prog L (fun x => Ext w5 x) Q [(2, false), (5, false), (6, false), (8, false)] n [(11, .pointer (some ⟨b, 0, none⟩)), (40, .slice so s.length sc), (43, .slice lo l.length lc), (3, p3), (4, p4), (2, v2), (9, v7)] w := by
    intro w b hE hb hge
    refine HL.mut o2 (WL.call rfl n30 rfl (uclone_ok w (hs.up hE) (fun _ h => h) (by omega)) ?_)
    rintro u w' ⟨ho, e⟩
    have hE' := hE.trans e
    exact WL.nil (EX.mut hE' (HL.sub (by repeat (first | exact trivial | refine ⟨rfl, ?_⟩)) (T1 w' b u hE' (ho.low hE.size) (hb.ext e) hge (fun h => by have := (ho.lt b h).1; have := hb.lt; omega))))
  have L2 : ∀ w v u, Ext w5 w → TwoS w w5.heap.size v u s l →
      EX (ChainQ Try.prog L (fun x => Ext w5 x) Q 7 [6] [(8, false)]) .normal n [(41, v), (44, u), (3, p3), (4, p4), (2, v2), (9, v7)] w := by
    intro w v u hE hT
    obtain ⟨u1, m1, rfl⟩ := hT.o1.val
    obtain ⟨u2, m2, rfl⟩ := hT.o2.val
    refine EX.chain hE o6 (WL.build rfl n34 rfl rfl (WL.nil (EX.sub (τ := [(45, .agg [.slice u1 s.length m1, .slice u2 l.length m2].toArray), (3, p3), (4, p4), (2, v2), (9, v7)]) (by repeat (first | exact trivial | refine ⟨rfl, ?_⟩)) (EX.chain0 hE (HL.mut o7 (WL.alloc rfl n9 (fun w' hb e => ?_))))))) (HL.mut o7 (WL.alloc rfl n9 (fun w' hb e => ?_)))
    · have hE' := hE.trans e
      exact WL.nil (EX.mut hE' (HL.sub (by repeat (first | exact trivial | refine ⟨rfl, ?_⟩)) (T3 w' _ u1 m1 u2 m2 hE' (hT.ext e) hb hE.size (fun h => by have := (hT.o1.lt _ h).2.1; omega) (fun h => by have := (hT.o2.lt _ h).2.1; omega))))
    · have hE' := hE.trans e
      exact WL.nil (EX.mut hE' (HL.sub (by repeat (first | exact trivial | refine ⟨rfl, ?_⟩)) (T2 w' _ _ _ hE' (hT.ext e) hb hE.size (fun h => by have := (hT.o1.lt _ h).2.1; omega) (fun h => by have := (hT.o2.lt _ h).2.1; omega))))
  have L1 : ∀ w v, Ext w5 w → Own w w5.heap.size 33 Non v s →
      EX (ChainQ Try.prog L (fun x => Ext w5 x) Q 7 [5, 6] [(8, false)]) .normal n [(41, v), (43, .slice lo l.length lc), (3, p3), (4, p4), (2, v2), (9, v7)] w := by
    intro w v hE hT
    refine EX.chain hE o5 (WL.call rfl n33 rfl (uclone_ok w (hl.up hE) (fun _ h => h) (by omega)) ?_) (HL.mut o7 (WL.alloc rfl n9 (fun w' hb e => ?_)))
    · rintro u w' ⟨ho, e⟩
      have hE' := hE.trans e
      exact WL.nil (EX.sub (by repeat (first | exact trivial | refine ⟨rfl, ?_⟩)) (L2 w' v u hE' ⟨hT.extN e, ho.low hE.size, fun g h1 h2 => by have := (hT.lt g h1).2.1; have := (ho.lt g h2).1; omega⟩))
    · have hE' := hE.trans e
      exact WL.nil (EX.mut hE' (HL.sub (by repeat (first | exact trivial | refine ⟨rfl, ?_⟩)) (T1 w' _ v hE' (hT.extN e) hb hE.size (fun h => by have := (hT.lt _ h).2.1; omega))))
  have hE0 : Ext w5 (drew w5) := Ext.drew w5
  refine EX.chain hE0 o2 (WL.call rfl n30 rfl (uclone_ok _ (hs.up hE0) (fun _ h => h) (by omega)) ?_) (HL.mut o7 (WL.alloc rfl n9 (fun w' hb e => ?_)))
  · rintro u w' ⟨ho, e⟩
    have hE' := hE0.trans e
    exact WL.nil (EX.sub (by repeat (first | exact trivial | refine ⟨rfl, ?_⟩)) (L1 w' u hE' (ho.low hE0.size)))
  · have hE' := hE0.trans e
    exact WL.nil (EX.mut hE' (HL.sub (by repeat (first | exact trivial | refine ⟨rfl, ?_⟩)) (T0 w' _ hE' hb hE0.size)))
theorem start_sil : meansT (4, 0, 0, 0) [9223372036854775808] [1] = (true, 0) := by decide
theorem silent_bit {z : Nat} (hz : z < 18446744073709551616) : (9223372036854775808 ||| z) >>> 63 &&& 1 = 1 ∧ 9223372036854775808 ||| z < 18446744073709551616 := by
  refine ⟨?_, Nat.or_lt_two_pow (n := 64) (by decide) hz⟩
  rw [Nat.shiftRight_or_distrib]
  have h : z >>> 63 = 0 ∨ z >>> 63 = 1 := by
    rw [Nat.shiftRight_eq_div_pow]; omega
  rcases h with h | h <;> rw [h] <;> decide
theorem u64_wrap (i : Int) : ∃ z : Nat, IntKind.u64.wrap i = (z : Int) ∧ z < 18446744073709551616 := by
  have h : IntKind.u64.wrap i = i % 18446744073709551616 := by
    simp [IntKind.wrap, IntKind.bits, IntKind.signed]
  refine ⟨(i % 18446744073709551616).toNat, ?_, ?_⟩ <;> omega
set_option maxHeartbeats 1000000 in
theorem declareSilent_ok (w : World) {so lo : Option Addr} {sc lc : Nat} {s l : List Nat} (hs : Sl w (Old w) so sc s) (hl : Sl w (Old w) lo lc l) (t : LTpl) (i : Int) :
    Rt Try.prog 4 [tplV t, wordV so sc lo lc s l, .int .i64 i].toArray w fun v w' => v = .bool true ∧ Ext w w' := by
  refine Rt.enter3 Try.func4 Try.ntmps4 rfl rfl ?_
  (repeat (first | (apply WL.add; rfl; rfl; rfl; rfl; omega; omega) | (apply QL.add; rfl; rfl; rfl; rfl; omega; omega) | (apply WL.sub'; rfl; rfl; rfl; rfl; omega; omega) | (apply QL.sub'; rfl; rfl; rfl; rfl; omega; omega) | (apply WL.mul; rfl; rfl; rfl; rfl; omega; omega) | (apply QL.mul; rfl; rfl; rfl; rfl; omega; omega) | (apply WL.pure; rfl; rfl; rfl) | (apply QL.pure; rfl; rfl; rfl) | (apply WL.nil) | (apply EX.thenN) | (apply CW.seq) | (apply CW.region) | (apply WL.pass; rfl; rfl) | (apply QL.pass; rfl; rfl) | (apply WL.eqB; rfl; rfl; rfl; rfl) | (apply QL.eqB; rfl; rfl; rfl; rfl) | (apply WL.neB; rfl; rfl; rfl; rfl) | (apply QL.neB; rfl; rfl; rfl; rfl) | (apply WL.lenS; rfl; rfl; rfl) | (apply QL.lenS; rfl; rfl; rfl) | (apply WL.makeFunc; rfl; rfl; rfl; rfl) | (apply QL.makeFunc; rfl; rfl; rfl; rfl) | (apply WL.fa; rfl; rfl; rfl) | (apply QL.fa; rfl; rfl; rfl) | (apply WL.nck; rfl; rfl; rfl) | (apply QL.nck; rfl; rfl; rfl) | (apply WL.ld; rfl; rfl; rfl; assumption; rfl) | (apply QL.ld; rfl; rfl; rfl; assumption; rfl) | (apply WL.ldA; rfl; rfl; rfl; assumption; rfl) | (apply QL.ldA; rfl; rfl; rfl; assumption; rfl) | (apply CW.block) | (apply EX.inN) | (apply CW.condT; rfl) | (apply CW.condF; rfl) | (apply CW.exit) | (apply EX.thenX) | (apply EX.inX) | (apply EX.inXne; rfl) | (apply CW.ret) | (apply EX.thenR) | (apply EX.inR) | (apply CW.skip) | (refine WL.lenO rfl rfl rfl (by assumption) ?_) | (apply WL.isNil; rfl; rfl; rfl) | (apply CW.draw; exact mixed; kernel_rfl)))
  refine WL.boxB rfl rfl rfl fun w1 ht hE1 => ?_
  (repeat (first | (apply WL.add; rfl; rfl; rfl; rfl; omega; omega) | (apply QL.add; rfl; rfl; rfl; rfl; omega; omega) | (apply WL.sub'; rfl; rfl; rfl; rfl; omega; omega) | (apply QL.sub'; rfl; rfl; rfl; rfl; omega; omega) | (apply WL.mul; rfl; rfl; rfl; rfl; omega; omega) | (apply QL.mul; rfl; rfl; rfl; rfl; omega; omega) | (apply WL.pure; rfl; rfl; rfl) | (apply QL.pure; rfl; rfl; rfl) | (apply WL.nil) | (apply EX.thenN) | (apply CW.seq) | (apply CW.region) | (apply WL.pass; rfl; rfl) | (apply QL.pass; rfl; rfl) | (apply WL.eqB; rfl; rfl; rfl; rfl) | (apply QL.eqB; rfl; rfl; rfl; rfl) | (apply WL.neB; rfl; rfl; rfl; rfl) | (apply QL.neB; rfl; rfl; rfl; rfl) | (apply WL.lenS; rfl; rfl; rfl) | (apply QL.lenS; rfl; rfl; rfl) | (apply WL.makeFunc; rfl; rfl; rfl; rfl) | (apply QL.makeFunc; rfl; rfl; rfl; rfl) | (apply WL.fa; rfl; rfl; rfl) | (apply QL.fa; rfl; rfl; rfl) | (apply WL.nck; rfl; rfl; rfl) | (apply QL.nck; rfl; rfl; rfl) | (apply WL.ld; rfl; rfl; rfl; assumption; rfl) | (apply QL.ld; rfl; rfl; rfl; assumption; rfl) | (apply WL.ldA; rfl; rfl; rfl; assumption; rfl) | (apply QL.ldA; rfl; rfl; rfl; assumption; rfl) | (apply CW.block) | (apply EX.inN) | (apply CW.condT; rfl) | (apply CW.condF; rfl) | (apply CW.exit) | (apply EX.thenX) | (apply EX.inX) | (apply EX.inXne; rfl) | (apply CW.ret) | (apply EX.thenR) | (apply EX.inR) | (apply CW.skip) | (refine WL.lenO rfl rfl rfl (by assumption) ?_) | (apply WL.isNil; rfl; rfl; rfl) | (apply CW.draw; exact mixed; kernel_rfl)))
  refine WL.boxB rfl rfl rfl fun w2 hw hE2 => ?_
  have ht := ht.ext hE2
  have hE2 := hE1.trans hE2
  (repeat (first | (apply WL.add; rfl; rfl; rfl; rfl; omega; omega) | (apply QL.add; rfl; rfl; rfl; rfl; omega; omega) | (apply WL.sub'; rfl; rfl; rfl; rfl; omega; omega) | (apply QL.sub'; rfl; rfl; rfl; rfl; omega; omega) | (apply WL.mul; rfl; rfl; rfl; rfl; omega; omega) | (apply QL.mul; rfl; rfl; rfl; rfl; omega; omega) | (apply WL.pure; rfl; rfl; rfl) | (apply QL.pure; rfl; rfl; rfl) | (apply WL.nil) | (apply EX.thenN) | (apply CW.seq) | (apply CW.region) | (apply WL.pass; rfl; rfl) | (apply QL.pass; rfl; rfl) | (apply WL.eqB; rfl; rfl; rfl; rfl) | (apply QL.eqB; rfl; rfl; rfl; rfl) | (apply WL.neB; rfl; rfl; rfl; rfl) | (apply QL.neB; rfl; rfl; rfl; rfl) | (apply WL.lenS; rfl; rfl; rfl) | (apply QL.lenS; rfl; rfl; rfl) | (apply WL.makeFunc; rfl; rfl; rfl; rfl) | (apply QL.makeFunc; rfl; rfl; rfl; rfl) | (apply WL.fa; rfl; rfl; rfl) | (apply QL.fa; rfl; rfl; rfl) | (apply WL.nck; rfl; rfl; rfl) | (apply QL.nck; rfl; rfl; rfl) | (apply WL.ld; rfl; rfl; rfl; assumption; rfl) | (apply QL.ld; rfl; rfl; rfl; assumption; rfl) | (apply WL.ldA; rfl; rfl; rfl; assumption; rfl) | (apply QL.ldA; rfl; rfl; rfl; assumption; rfl) | (apply CW.block) | (apply EX.inN) | (apply CW.condT; rfl) | (apply CW.condF; rfl) | (apply CW.exit) | (apply EX.thenX) | (apply EX.inX) | (apply EX.inXne; rfl) | (apply CW.ret) | (apply EX.thenR) | (apply EX.inR) | (apply CW.skip) | (refine WL.lenO rfl rfl rfl (by assumption) ?_) | (apply WL.isNil; rfl; rfl; rfl) | (apply CW.draw; exact mixed; kernel_rfl)))
  refine WL.build rfl rfl rfl rfl ?_
  refine WL.lit (F := Non) (ys := [(9223372036854775808 : Nat)]) rfl rfl rfl rfl rfl ⟨⟨_, rfl, rd_mkU64 _ _ 9223372036854775808 (by decide)⟩, trivial⟩ (by decide) (fun _ h => h.elim) (fun w3 ho hgr => ?_)
  have e3 : Ext w2 w3 := (Ext.refl _).grown hgr (Nat.le_refl _) (fun k h => by cases h)
  obtain ⟨ao, cap, he, ho⟩ := ho.slF (F' := Old w3) (fun _ h => h.elim) (fun g hg => (ho.lt g hg).2.1)
  obtain ⟨rfl, _, rfl⟩ := Value.slice.inj he
  refine WL.lit (F := Non) (ys := [(1 : Nat)]) rfl rfl rfl rfl rfl ⟨⟨_, rfl, rd_mkU64 _ _ 1 (by decide)⟩, trivial⟩ (by decide) (fun _ h => h.elim) (fun w4 ho2 hgr => ?_)
  have e4 : Ext w3 w4 := (Ext.refl _).grown hgr (Nat.le_refl _) (fun k h => by cases h)
  obtain ⟨ao, cap, he2, ho2⟩ := ho2.slF (F' := Old w4) (fun _ h => h.elim) (fun g hg => (ho2.lt g hg).2.1)
  obtain ⟨rfl, _, rfl⟩ := Value.slice.inj he2
  have e4' := e3.trans e4
  have ht := ht.ext e4'
  have hw := hw.ext e4'
  have hE4 := hE2.trans e4'
  refine WL.build rfl rfl rfl rfl ?_
  refine WL.call rfl rfl rfl (meansT_ok w4 (ho.up e4) ho2 (fun _ h => h) (4, 0, 0, 0)) ?_
  rintro v w5 ⟨rfl, e5⟩
  rw [start_sil]
  have ht := ht.ext e5
  have hw := hw.ext e5
  have hE5 := hE4.trans e5
  (repeat (first | (apply WL.add; rfl; rfl; rfl; rfl; omega; omega) | (apply QL.add; rfl; rfl; rfl; rfl; omega; omega) | (apply WL.sub'; rfl; rfl; rfl; rfl; omega; omega) | (apply QL.sub'; rfl; rfl; rfl; rfl; omega; omega) | (apply WL.mul; rfl; rfl; rfl; rfl; omega; omega) | (apply QL.mul; rfl; rfl; rfl; rfl; omega; omega) | (apply WL.pure; rfl; rfl; rfl) | (apply QL.pure; rfl; rfl; rfl) | (apply WL.nil) | (apply EX.thenN) | (apply CW.seq) | (apply CW.region) | (apply WL.pass; rfl; rfl) | (apply QL.pass; rfl; rfl) | (apply WL.eqB; rfl; rfl; rfl; rfl) | (apply QL.eqB; rfl; rfl; rfl; rfl) | (apply WL.neB; rfl; rfl; rfl; rfl) | (apply QL.neB; rfl; rfl; rfl; rfl) | (apply WL.lenS; rfl; rfl; rfl) | (apply QL.lenS; rfl; rfl; rfl) | (apply WL.makeFunc; rfl; rfl; rfl; rfl) | (apply QL.makeFunc; rfl; rfl; rfl; rfl) | (apply WL.fa; rfl; rfl; rfl) | (apply QL.fa; rfl; rfl; rfl) | (apply WL.nck; rfl; rfl; rfl) | (apply QL.nck; rfl; rfl; rfl) | (apply WL.ld; rfl; rfl; rfl; assumption; rfl) | (apply QL.ld; rfl; rfl; rfl; assumption; rfl) | (apply WL.ldA; rfl; rfl; rfl; assumption; rfl) | (apply QL.ldA; rfl; rfl; rfl; assumption; rfl) | (apply CW.block) | (apply EX.inN) | (apply CW.condT; rfl) | (apply CW.condF; rfl) | (apply CW.exit) | (apply EX.thenX) | (apply EX.inX) | (apply EX.inXne; rfl) | (apply CW.ret) | (apply EX.thenR) | (apply EX.inR) | (apply CW.skip) | (refine WL.lenO rfl rfl rfl (by assumption) ?_) | (apply WL.isNil; rfl; rfl; rfl) | (apply CW.draw; exact mixed; kernel_rfl)))
  refine WL.call rfl rfl rfl (meansT_ok w5 (hs.at hE5) (hl.at hE5) (fun _ h => Nat.lt_of_lt_of_le h hE5.size) t) ?_
  rintro v w6 ⟨rfl, e6⟩
  have ht := ht.ext e6
  have hw := hw.ext e6
  have hE5 := hE5.trans e6
  have herr := meansT_err (t := t) (s := s) (l := l)
  have hokk := meansT_okk (t := t) (s := s) (l := l)
  have hsil : ∀ {s' l' : List Nat} {y k : Nat}, _ := fun {s' l' y k} => means_silent (t := t) (s := s) (l := l) (s' := s') (l' := l') (y := y) (k := k)
  generalize meansT t s l = M at *
  obtain ⟨M1, M2⟩ := M
  dsimp only at herr hokk hsil ⊢
  (repeat (first | (apply WL.add; rfl; rfl; rfl; rfl; omega; omega) | (apply QL.add; rfl; rfl; rfl; rfl; omega; omega) | (apply WL.sub'; rfl; rfl; rfl; rfl; omega; omega) | (apply QL.sub'; rfl; rfl; rfl; rfl; omega; omega) | (apply WL.mul; rfl; rfl; rfl; rfl; omega; omega) | (apply QL.mul; rfl; rfl; rfl; rfl; omega; omega) | (apply WL.pure; rfl; rfl; rfl) | (apply QL.pure; rfl; rfl; rfl) | (apply WL.nil) | (apply EX.thenN) | (apply CW.seq) | (apply CW.region) | (apply WL.pass; rfl; rfl) | (apply QL.pass; rfl; rfl) | (apply WL.eqB; rfl; rfl; rfl; rfl) | (apply QL.eqB; rfl; rfl; rfl; rfl) | (apply WL.neB; rfl; rfl; rfl; rfl) | (apply QL.neB; rfl; rfl; rfl; rfl) | (apply WL.lenS; rfl; rfl; rfl) | (apply QL.lenS; rfl; rfl; rfl) | (apply WL.makeFunc; rfl; rfl; rfl; rfl) | (apply QL.makeFunc; rfl; rfl; rfl; rfl) | (apply WL.fa; rfl; rfl; rfl) | (apply QL.fa; rfl; rfl; rfl) | (apply WL.nck; rfl; rfl; rfl) | (apply QL.nck; rfl; rfl; rfl) | (apply WL.ld; rfl; rfl; rfl; assumption; rfl) | (apply QL.ld; rfl; rfl; rfl; assumption; rfl) | (apply WL.ldA; rfl; rfl; rfl; assumption; rfl) | (apply QL.ldA; rfl; rfl; rfl; assumption; rfl) | (apply CW.block) | (apply EX.inN) | (apply CW.condT; rfl) | (apply CW.condF; rfl) | (apply CW.exit) | (apply EX.thenX) | (apply EX.inX) | (apply EX.inXne; rfl) | (apply CW.ret) | (apply EX.thenR) | (apply EX.inR) | (apply CW.skip) | (refine WL.lenO rfl rfl rfl (by assumption) ?_) | (apply WL.isNil; rfl; rfl; rfl) | (apply CW.draw; exact mixed; kernel_rfl)))
  refine CW.cond rfl (fun h => ?_) (fun h => ?_)
  · have h : M2 ≠ 0 := by simpa using h
    rw [herr h]
    (repeat (first | (apply WL.add; rfl; rfl; rfl; rfl; omega; omega) | (apply QL.add; rfl; rfl; rfl; rfl; omega; omega) | (apply WL.sub'; rfl; rfl; rfl; rfl; omega; omega) | (apply QL.sub'; rfl; rfl; rfl; rfl; omega; omega) | (apply WL.mul; rfl; rfl; rfl; rfl; omega; omega) | (apply QL.mul; rfl; rfl; rfl; rfl; omega; omega) | (apply WL.pure; rfl; rfl; rfl) | (apply QL.pure; rfl; rfl; rfl) | (apply WL.nil) | (apply EX.thenN) | (apply CW.seq) | (apply CW.region) | (apply WL.pass; rfl; rfl) | (apply QL.pass; rfl; rfl) | (apply WL.eqB; rfl; rfl; rfl; rfl) | (apply QL.eqB; rfl; rfl; rfl; rfl) | (apply WL.neB; rfl; rfl; rfl; rfl) | (apply QL.neB; rfl; rfl; rfl; rfl) | (apply WL.lenS; rfl; rfl; rfl) | (apply QL.lenS; rfl; rfl; rfl) | (apply WL.makeFunc; rfl; rfl; rfl; rfl) | (apply QL.makeFunc; rfl; rfl; rfl; rfl) | (apply WL.fa; rfl; rfl; rfl) | (apply QL.fa; rfl; rfl; rfl) | (apply WL.nck; rfl; rfl; rfl) | (apply QL.nck; rfl; rfl; rfl) | (apply WL.ld; rfl; rfl; rfl; assumption; rfl) | (apply QL.ld; rfl; rfl; rfl; assumption; rfl) | (apply WL.ldA; rfl; rfl; rfl; assumption; rfl) | (apply QL.ldA; rfl; rfl; rfl; assumption; rfl) | (apply CW.block) | (apply EX.inN) | (apply CW.condT; rfl) | (apply CW.condF; rfl) | (apply CW.exit) | (apply EX.thenX) | (apply EX.inX) | (apply EX.inXne; rfl) | (apply CW.ret) | (apply EX.thenR) | (apply EX.inR) | (apply CW.skip) | (refine WL.lenO rfl rfl rfl (by assumption) ?_) | (apply WL.isNil; rfl; rfl; rfl) | (apply CW.draw; exact mixed; kernel_rfl)))
    exact EX.ret1 rfl rfl ⟨rfl, hE5⟩
  obtain rfl : M2 = 0 := by simpa using h
  obtain ⟨hT, hc⟩ := hokk rfl
  have hW := chkW_ok hc
  clear h herr hokk ho ho2 e3 e4 e4' e5 e6 he he2
  (repeat (first | (apply WL.add; rfl; rfl; rfl; rfl; omega; omega) | (apply QL.add; rfl; rfl; rfl; rfl; omega; omega) | (apply WL.sub'; rfl; rfl; rfl; rfl; omega; omega) | (apply QL.sub'; rfl; rfl; rfl; rfl; omega; omega) | (apply WL.mul; rfl; rfl; rfl; rfl; omega; omega) | (apply QL.mul; rfl; rfl; rfl; rfl; omega; omega) | (apply WL.pure; rfl; rfl; rfl) | (apply QL.pure; rfl; rfl; rfl) | (apply WL.nil) | (apply EX.thenN) | (apply CW.seq) | (apply CW.region) | (apply WL.pass; rfl; rfl) | (apply QL.pass; rfl; rfl) | (apply WL.eqB; rfl; rfl; rfl; rfl) | (apply QL.eqB; rfl; rfl; rfl; rfl) | (apply WL.neB; rfl; rfl; rfl; rfl) | (apply QL.neB; rfl; rfl; rfl; rfl) | (apply WL.lenS; rfl; rfl; rfl) | (apply QL.lenS; rfl; rfl; rfl) | (apply WL.makeFunc; rfl; rfl; rfl; rfl) | (apply QL.makeFunc; rfl; rfl; rfl; rfl) | (apply WL.fa; rfl; rfl; rfl) | (apply QL.fa; rfl; rfl; rfl) | (apply WL.nck; rfl; rfl; rfl) | (apply QL.nck; rfl; rfl; rfl) | (apply WL.ld; rfl; rfl; rfl; assumption; rfl) | (apply QL.ld; rfl; rfl; rfl; assumption; rfl) | (apply WL.ldA; rfl; rfl; rfl; assumption; rfl) | (apply QL.ldA; rfl; rfl; rfl; assumption; rfl) | (apply CW.block) | (apply EX.inN) | (apply CW.condT; rfl) | (apply CW.condF; rfl) | (apply CW.exit) | (apply EX.thenX) | (apply EX.inX) | (apply EX.inXne; rfl) | (apply CW.ret) | (apply EX.thenR) | (apply EX.inR) | (apply CW.skip) | (refine WL.lenO rfl rfl rfl (by assumption) ?_) | (apply WL.isNil; rfl; rfl; rfl)))
  have hE5' := hE5.trans (Ext.drew w6)
  have hwd := hw.ext (Ext.drew w6)
  refine CW.drawC (fun x => Ext w6 x) [(0, true), (1, true), (3, true), (4, true)] 7 [2, 5, 6] [(8, false)] mixed (by kernel_rfl) (Ext.drew w6) ?_
  have hSE : ∀ w1, (fun x => Ext w6 x) w1 → Ext w6 w1 := fun _ h => h
  (repeat (first | (apply HL.add; rfl; rfl; rfl; rfl; rfl; omega; omega) | (apply HL.sub'; rfl; rfl; rfl; rfl; rfl; omega; omega) | (apply HL.pure; rfl; rfl; rfl; rfl) | (apply HL.pass; rfl; rfl; rfl) | (refine HL.fa rfl rfl rfl rfl ?_) | (apply HL.nck; rfl; rfl; rfl; rfl) | (refine HL.ld (by assumption) rfl rfl rfl rfl (by assumption) rfl ?_) | (refine HL.ldK (by assumption) rfl rfl rfl rfl (by assumption) rfl ?_) | (refine HL.ldA (by assumption) rfl rfl rfl rfl (by assumption) rfl ?_) | (refine HL.lenS rfl rfl rfl rfl ?_) | (refine HL.eqB rfl rfl rfl rfl rfl ?_) | (refine HL.neB rfl rfl rfl rfl rfl ?_) | (refine HL.build rfl rfl rfl rfl rfl ?_) | (apply HL.makeFunc; rfl; rfl; rfl; rfl; rfl) | (apply HL.nil)))
  refine EX.sub (by repeat (first | exact trivial | refine ⟨rfl, ?_⟩)) (ds_chain rfl rfl rfl rfl rfl rfl rfl rfl rfl (hs.up hE5) (hl.up hE5) (by omega) ?_)
  intro w7 b x y e7 hb7 hT7 hxb hyb hB7
  have ht7 := ht.ext e7
  have hw7 := hw.ext e7
  have hE7 := hE5.trans e7
  clear hwd hE5'
  (repeat (first | (apply WL.add; rfl; rfl; rfl; rfl; omega; omega) | (apply QL.add; rfl; rfl; rfl; rfl; omega; omega) | (apply WL.sub'; rfl; rfl; rfl; rfl; omega; omega) | (apply QL.sub'; rfl; rfl; rfl; rfl; omega; omega) | (apply WL.mul; rfl; rfl; rfl; rfl; omega; omega) | (apply QL.mul; rfl; rfl; rfl; rfl; omega; omega) | (apply WL.pure; rfl; rfl; rfl) | (apply QL.pure; rfl; rfl; rfl) | (apply WL.nil) | (apply EX.thenN) | (apply CW.seq) | (apply CW.region) | (apply WL.pass; rfl; rfl) | (apply QL.pass; rfl; rfl) | (apply WL.eqB; rfl; rfl; rfl; rfl) | (apply QL.eqB; rfl; rfl; rfl; rfl) | (apply WL.neB; rfl; rfl; rfl; rfl) | (apply QL.neB; rfl; rfl; rfl; rfl) | (apply WL.lenS; rfl; rfl; rfl) | (apply QL.lenS; rfl; rfl; rfl) | (apply WL.makeFunc; rfl; rfl; rfl; rfl) | (apply QL.makeFunc; rfl; rfl; rfl; rfl) | (apply WL.fa; rfl; rfl; rfl) | (apply QL.fa; rfl; rfl; rfl) | (apply WL.nck; rfl; rfl; rfl) | (apply QL.nck; rfl; rfl; rfl) | (apply WL.ld; rfl; rfl; rfl; assumption; rfl) | (apply QL.ld; rfl; rfl; rfl; assumption; rfl) | (apply WL.ldA; rfl; rfl; rfl; assumption; rfl) | (apply QL.ldA; rfl; rfl; rfl; assumption; rfl) | (apply CW.block) | (apply EX.inN) | (apply CW.condT; rfl) | (apply CW.condF; rfl) | (apply CW.exit) | (apply EX.thenX) | (apply EX.inX) | (apply EX.inXne; rfl) | (apply CW.ret) | (apply EX.thenR) | (apply EX.inR) | (apply CW.skip) | (refine WL.lenO rfl rfl rfl (by assumption) ?_) | (apply WL.isNil; rfl; rfl; rfl) | (apply CW.draw; exact mixed; kernel_rfl)))
  refine WL.call rfl rfl rfl (rest_ok w7 i _ (by omega) (by omega)) ?_
  have hn1 := Int.emod_nonneg i (show (s.length : Int) + l.length + 1 ≠ 0 by omega)
  have hn2 := Int.emod_lt_of_pos i (show 0 < (s.length : Int) + l.length + 1 by omega)
  obtain ⟨k, hki⟩ := Int.eq_ofNat_of_zero_le hn1
  rw [hki] at hn2 ⊢
  rintro _ w8 ⟨rfl, rfl⟩
  obtain ⟨xo, xc, rfl⟩ := hT7.o1.val
  obtain ⟨yo, yc, rfl⟩ := hT7.o2.val
  have hT := hT7.o1
  have hU := hT7.o2
  have hne := hT7.ne
  have hT2 : ∀ g, Value.ownBlock (.slice xo s.length xc) = some g → g ≠ b ∧ g < w7.heap.size ∧ w6.heap.size ≤ g := fun g hg => ⟨fun e => hxb (e ▸ hg), (hT.lt g hg).2.1, (hT.lt g hg).1⟩
  have hU2 : ∀ g, Value.ownBlock (.slice yo l.length yc) = some g → g ≠ b ∧ g < w7.heap.size ∧ w6.heap.size ≤ g := fun g hg => ⟨fun e => hyb (e ▸ hg), (hU.lt g hg).2.1, (hU.lt g hg).1⟩
  have hbb := hB7.lt
  have hs7 := e7.size
  obtain ⟨z, hz, hzlt⟩ := u64_wrap i
  obtain ⟨hy63, hylt⟩ := silent_bit hzlt
  (repeat (first | (apply WL.add; rfl; rfl; rfl; rfl; omega; omega) | (apply QL.add; rfl; rfl; rfl; rfl; omega; omega) | (apply WL.sub'; rfl; rfl; rfl; rfl; omega; omega) | (apply QL.sub'; rfl; rfl; rfl; rfl; omega; omega) | (apply WL.mul; rfl; rfl; rfl; rfl; omega; omega) | (apply QL.mul; rfl; rfl; rfl; rfl; omega; omega) | (apply WL.pure; rfl; rfl; rfl) | (apply QL.pure; rfl; rfl; rfl) | (apply WL.pass; rfl; rfl) | (apply QL.pass; rfl; rfl) | (apply WL.eqB; rfl; rfl; rfl; rfl) | (apply QL.eqB; rfl; rfl; rfl; rfl) | (apply WL.neB; rfl; rfl; rfl; rfl) | (apply QL.neB; rfl; rfl; rfl; rfl) | (apply WL.lenS; rfl; rfl; rfl) | (apply QL.lenS; rfl; rfl; rfl) | (apply WL.makeFunc; rfl; rfl; rfl; rfl) | (apply QL.makeFunc; rfl; rfl; rfl; rfl) | (apply WL.fa; rfl; rfl; rfl) | (apply QL.fa; rfl; rfl; rfl) | (apply WL.nck; rfl; rfl; rfl) | (apply QL.nck; rfl; rfl; rfl) | (apply WL.ld; rfl; rfl; rfl; assumption; rfl) | (apply QL.ld; rfl; rfl; rfl; assumption; rfl) | (apply WL.ldA; rfl; rfl; rfl; assumption; rfl) | (apply QL.ldA; rfl; rfl; rfl; assumption; rfl) | (refine WL.lenO rfl rfl rfl (by assumption) ?_) | (apply WL.isNil; rfl; rfl; rfl)))
  apply WL.nil
  apply EX.thenN
  refine CW.cutI (S := Value × Value × List Nat × List Nat) (fun _ => [(11, .pointer (some ⟨b, 0, none⟩)), (3, .pointer (some ⟨w.heap.size, 0, none⟩)), (9, .bool M1)])
    (fun x w' => Blk w' b 44 [x.1, x.2.1] ∧ Rd w' (Old w') x.1 x.2.2.1 ∧ Rd w' (Old w') x.2.1 x.2.2.2 ∧ Ext w6 w' ∧ (meansT t x.2.2.1 x.2.2.2 = (M1, 0) ∨ (meansT t x.2.2.1 x.2.2.2).2 = 2)) ?_ ?_
  · (repeat (first | (apply WL.add; rfl; rfl; rfl; rfl; omega; omega) | (apply QL.add; rfl; rfl; rfl; rfl; omega; omega) | (apply WL.sub'; rfl; rfl; rfl; rfl; omega; omega) | (apply QL.sub'; rfl; rfl; rfl; rfl; omega; omega) | (apply WL.mul; rfl; rfl; rfl; rfl; omega; omega) | (apply QL.mul; rfl; rfl; rfl; rfl; omega; omega) | (apply WL.pure; rfl; rfl; rfl) | (apply QL.pure; rfl; rfl; rfl) | (apply WL.nil) | (apply EX.thenN) | (apply CW.seq) | (apply CW.region) | (apply WL.pass; rfl; rfl) | (apply QL.pass; rfl; rfl) | (apply WL.eqB; rfl; rfl; rfl; rfl) | (apply QL.eqB; rfl; rfl; rfl; rfl) | (apply WL.neB; rfl; rfl; rfl; rfl) | (apply QL.neB; rfl; rfl; rfl; rfl) | (apply WL.lenS; rfl; rfl; rfl) | (apply QL.lenS; rfl; rfl; rfl) | (apply WL.makeFunc; rfl; rfl; rfl; rfl) | (apply QL.makeFunc; rfl; rfl; rfl; rfl) | (apply WL.fa; rfl; rfl; rfl) | (apply QL.fa; rfl; rfl; rfl) | (apply WL.nck; rfl; rfl; rfl) | (apply QL.nck; rfl; rfl; rfl) | (apply WL.ld; rfl; rfl; rfl; assumption; rfl) | (apply QL.ld; rfl; rfl; rfl; assumption; rfl) | (apply WL.ldA; rfl; rfl; rfl; assumption; rfl) | (apply QL.ldA; rfl; rfl; rfl; assumption; rfl) | (apply CW.block) | (apply EX.inN) | (apply CW.condT; rfl) | (apply CW.condF; rfl) | (apply CW.exit) | (apply EX.thenX) | (apply EX.inX) | (apply EX.inXne; rfl) | (apply CW.ret) | (apply EX.thenR) | (apply EX.inR) | (apply CW.skip) | (refine WL.lenO rfl rfl rfl (by assumption) ?_) | (apply WL.isNil; rfl; rfl; rfl) | (apply CW.draw; exact mixed; kernel_rfl)))
    refine CW.cond rfl (fun h => ?_) (fun h => ?_)
    · have h : k ≤ s.length := by simp at h; omega
      (repeat (first | (apply WL.add; rfl; rfl; rfl; rfl; omega; omega) | (apply QL.add; rfl; rfl; rfl; rfl; omega; omega) | (apply WL.sub'; rfl; rfl; rfl; rfl; omega; omega) | (apply QL.sub'; rfl; rfl; rfl; rfl; omega; omega) | (apply WL.mul; rfl; rfl; rfl; rfl; omega; omega) | (apply QL.mul; rfl; rfl; rfl; rfl; omega; omega) | (apply WL.pure; rfl; rfl; rfl) | (apply QL.pure; rfl; rfl; rfl) | (apply WL.nil) | (apply EX.thenN) | (apply CW.seq) | (apply CW.region) | (apply WL.pass; rfl; rfl) | (apply QL.pass; rfl; rfl) | (apply WL.eqB; rfl; rfl; rfl; rfl) | (apply QL.eqB; rfl; rfl; rfl; rfl) | (apply WL.neB; rfl; rfl; rfl; rfl) | (apply QL.neB; rfl; rfl; rfl; rfl) | (apply WL.lenS; rfl; rfl; rfl) | (apply QL.lenS; rfl; rfl; rfl) | (apply WL.makeFunc; rfl; rfl; rfl; rfl) | (apply QL.makeFunc; rfl; rfl; rfl; rfl) | (apply WL.fa; rfl; rfl; rfl) | (apply QL.fa; rfl; rfl; rfl) | (apply WL.nck; rfl; rfl; rfl) | (apply QL.nck; rfl; rfl; rfl) | (apply WL.ld; rfl; rfl; rfl; assumption; rfl) | (apply QL.ld; rfl; rfl; rfl; assumption; rfl) | (apply WL.ldA; rfl; rfl; rfl; assumption; rfl) | (apply QL.ldA; rfl; rfl; rfl; assumption; rfl) | (apply CW.block) | (apply EX.inN) | (apply CW.condT; rfl) | (apply CW.condF; rfl) | (apply CW.exit) | (apply EX.thenX) | (apply EX.inX) | (apply EX.inXne; rfl) | (apply CW.ret) | (apply EX.thenR) | (apply EX.inR) | (apply CW.skip) | (refine WL.lenO rfl rfl rfl (by assumption) ?_) | (apply WL.isNil; rfl; rfl; rfl) | (apply CW.draw; exact mixed; kernel_rfl)))
      refine WL.conv (k' := .u64) rfl rfl rfl ?_
      rw [hz]
      refine WL.orN (a := 9223372036854775808) (b := z) rfl rfl rfl rfl (by decide) hzlt ?_
      refine WL.lit (F := Non) (ys := [9223372036854775808 ||| z]) rfl rfl rfl rfl rfl ⟨⟨_, rfl, rd_mkU64 _ _ _ hylt⟩, trivial⟩ (by simp [sz, Rep.sz]) (fun _ h => h.elim) (fun w8 ho8 hg8 => ?_)
      have e8 : Ext w7 w8 := (Ext.refl _).grown hg8 (Nat.le_refl _) (fun g hg => by cases hg)
      have hs8 := e8.size
      refine WL.call rfl rfl rfl (insert_ok w8 (hT.extN e8) ho8 (fun e => ?_) h (by omega) (by omega)) ?_
      · exact absurd (hT2 _ e).2.1 (Nat.lt_irrefl _)
      rintro v9 w9 ⟨ho9, hg9, hb9⟩
      obtain ⟨vo, vc, rfl⟩ := ho9.val
      have hB9 : Blk w9 b 44 [.slice xo s.length xc, .slice yo l.length yc] := (hB7.ext e8).kept hg9 (fun e => (hT2 b e.symm).1 rfl)
      have hU9 := (hU.extN e8).keptN hg9 (fun g' h' e => hne g' e.symm h')
      have hE9 : Ext w6 w9 := (e7.trans e8).grown hg9 (by omega) (fun g' h' => (hT2 g' h').2.2)
      have hs9 := hg9.size
      (repeat (first | (apply WL.add; rfl; rfl; rfl; rfl; omega; omega) | (apply QL.add; rfl; rfl; rfl; rfl; omega; omega) | (apply WL.sub'; rfl; rfl; rfl; rfl; omega; omega) | (apply QL.sub'; rfl; rfl; rfl; rfl; omega; omega) | (apply WL.mul; rfl; rfl; rfl; rfl; omega; omega) | (apply QL.mul; rfl; rfl; rfl; rfl; omega; omega) | (apply WL.pure; rfl; rfl; rfl) | (apply QL.pure; rfl; rfl; rfl) | (apply WL.nil) | (apply EX.thenN) | (apply CW.seq) | (apply CW.region) | (apply WL.pass; rfl; rfl) | (apply QL.pass; rfl; rfl) | (apply WL.eqB; rfl; rfl; rfl; rfl) | (apply QL.eqB; rfl; rfl; rfl; rfl) | (apply WL.neB; rfl; rfl; rfl; rfl) | (apply QL.neB; rfl; rfl; rfl; rfl) | (apply WL.lenS; rfl; rfl; rfl) | (apply QL.lenS; rfl; rfl; rfl) | (apply WL.makeFunc; rfl; rfl; rfl; rfl) | (apply QL.makeFunc; rfl; rfl; rfl; rfl) | (apply WL.fa; rfl; rfl; rfl) | (apply QL.fa; rfl; rfl; rfl) | (apply WL.nck; rfl; rfl; rfl) | (apply QL.nck; rfl; rfl; rfl) | (apply WL.ld; rfl; rfl; rfl; assumption; rfl) | (apply QL.ld; rfl; rfl; rfl; assumption; rfl) | (apply WL.ldA; rfl; rfl; rfl; assumption; rfl) | (apply QL.ldA; rfl; rfl; rfl; assumption; rfl) | (apply CW.block) | (apply EX.inN) | (apply CW.condT; rfl) | (apply CW.condF; rfl) | (apply CW.exit) | (apply EX.thenX) | (apply EX.inX) | (apply EX.inXne; rfl) | (apply CW.ret) | (apply EX.thenR) | (apply EX.inR) | (apply CW.skip) | (refine WL.lenO rfl rfl rfl (by assumption) ?_) | (apply WL.isNil; rfl; rfl; rfl) | (apply CW.draw; exact mixed; kernel_rfl)))
      refine WL.st rfl rfl rfl hB9 rfl rfl (ones_of rfl) (fun w10 hB10 hg10 => ?_)
      have hU10 := hU9.keptN hg10 (fun g' h' e => by cases e; exact (hU2 _ h').1 rfl)
      have ho10 := ho9.keptN hg10 (fun g' h' e => by cases e; rcases hb9 _ h' with h1 | h1; exact (hT2 _ h1).1 rfl; omega)
      have hE10 : Ext w6 w10 := hE9.grown hg10 hE9.size (fun g' h' => by cases h'; exact hb7)
      have hm := hsil hy63 rfl (.inl ⟨rfl, rfl⟩ : s.take k ++ (9223372036854775808 ||| z) :: s.drop k = s.take k ++ (9223372036854775808 ||| z) :: s.drop k ∧ l = l ∨ _)
      (repeat (first | (apply WL.add; rfl; rfl; rfl; rfl; omega; omega) | (apply QL.add; rfl; rfl; rfl; rfl; omega; omega) | (apply WL.sub'; rfl; rfl; rfl; rfl; omega; omega) | (apply QL.sub'; rfl; rfl; rfl; rfl; omega; omega) | (apply WL.mul; rfl; rfl; rfl; rfl; omega; omega) | (apply QL.mul; rfl; rfl; rfl; rfl; omega; omega) | (apply WL.pure; rfl; rfl; rfl) | (apply QL.pure; rfl; rfl; rfl) | (apply WL.nil) | (apply EX.thenN) | (apply CW.seq) | (apply CW.region) | (apply WL.pass; rfl; rfl) | (apply QL.pass; rfl; rfl) | (apply WL.eqB; rfl; rfl; rfl; rfl) | (apply QL.eqB; rfl; rfl; rfl; rfl) | (apply WL.neB; rfl; rfl; rfl; rfl) | (apply QL.neB; rfl; rfl; rfl; rfl) | (apply WL.lenS; rfl; rfl; rfl) | (apply QL.lenS; rfl; rfl; rfl) | (apply WL.makeFunc; rfl; rfl; rfl; rfl) | (apply QL.makeFunc; rfl; rfl; rfl; rfl) | (apply WL.fa; rfl; rfl; rfl) | (apply QL.fa; rfl; rfl; rfl) | (apply WL.nck; rfl; rfl; rfl) | (apply QL.nck; rfl; rfl; rfl) | (apply WL.ld; rfl; rfl; rfl; assumption; rfl) | (apply QL.ld; rfl; rfl; rfl; assumption; rfl) | (apply WL.ldA; rfl; rfl; rfl; assumption; rfl) | (apply QL.ldA; rfl; rfl; rfl; assumption; rfl) | (apply CW.block) | (apply EX.inN) | (apply CW.condT; rfl) | (apply CW.condF; rfl) | (apply CW.exit) | (apply EX.thenX) | (apply EX.inX) | (apply EX.inXne; rfl) | (apply CW.ret) | (apply EX.thenR) | (apply EX.inR) | (apply CW.skip) | (refine WL.lenO rfl rfl rfl (by assumption) ?_) | (apply WL.isNil; rfl; rfl; rfl) | (apply CW.draw; exact mixed; kernel_rfl)))
      exact EX.cutI (.slice vo (s.take k ++ (9223372036854775808 ||| z) :: s.drop k).length vc, .slice yo l.length yc, s.take k ++ (9223372036854775808 ||| z) :: s.drop k, l) (by repeat (first | exact trivial | refine ⟨rfl, ?_⟩)) ⟨hB10, ho10.oldN, hU10.oldN, hE10, hm.symm⟩
    · have h : s.length < k := by simp at h; omega
      have hsub : (k : Int) - s.length = ((k - s.length : Nat) : Int) := by omega
      have hkl : k - s.length ≤ l.length := by omega
      (repeat (first | (apply WL.add; rfl; rfl; rfl; rfl; omega; omega) | (apply QL.add; rfl; rfl; rfl; rfl; omega; omega) | (apply WL.sub'; rfl; rfl; rfl; rfl; omega; omega) | (apply QL.sub'; rfl; rfl; rfl; rfl; omega; omega) | (apply WL.mul; rfl; rfl; rfl; rfl; omega; omega) | (apply QL.mul; rfl; rfl; rfl; rfl; omega; omega) | (apply WL.pure; rfl; rfl; rfl) | (apply QL.pure; rfl; rfl; rfl) | (apply WL.nil) | (apply EX.thenN) | (apply CW.seq) | (apply CW.region) | (apply WL.pass; rfl; rfl) | (apply QL.pass; rfl; rfl) | (apply WL.eqB; rfl; rfl; rfl; rfl) | (apply QL.eqB; rfl; rfl; rfl; rfl) | (apply WL.neB; rfl; rfl; rfl; rfl) | (apply QL.neB; rfl; rfl; rfl; rfl) | (apply WL.lenS; rfl; rfl; rfl) | (apply QL.lenS; rfl; rfl; rfl) | (apply WL.makeFunc; rfl; rfl; rfl; rfl) | (apply QL.makeFunc; rfl; rfl; rfl; rfl) | (apply WL.fa; rfl; rfl; rfl) | (apply QL.fa; rfl; rfl; rfl) | (apply WL.nck; rfl; rfl; rfl) | (apply QL.nck; rfl; rfl; rfl) | (apply WL.ld; rfl; rfl; rfl; assumption; rfl) | (apply QL.ld; rfl; rfl; rfl; assumption; rfl) | (apply WL.ldA; rfl; rfl; rfl; assumption; rfl) | (apply QL.ldA; rfl; rfl; rfl; assumption; rfl) | (apply CW.block) | (apply EX.inN) | (apply CW.condT; rfl) | (apply CW.condF; rfl) | (apply CW.exit) | (apply EX.thenX) | (apply EX.inX) | (apply EX.inXne; rfl) | (apply CW.ret) | (apply EX.thenR) | (apply EX.inR) | (apply CW.skip) | (refine WL.lenO rfl rfl rfl (by assumption) ?_) | (apply WL.isNil; rfl; rfl; rfl) | (apply CW.draw; exact mixed; kernel_rfl)))
      rw [hsub]
      refine WL.conv (k' := .u64) rfl rfl rfl ?_
      rw [hz]
      refine WL.orN (a := 9223372036854775808) (b := z) rfl rfl rfl rfl (by decide) hzlt ?_
      refine WL.lit (F := Non) (ys := [9223372036854775808 ||| z]) rfl rfl rfl rfl rfl ⟨⟨_, rfl, rd_mkU64 _ _ _ hylt⟩, trivial⟩ (by simp [sz, Rep.sz]) (fun _ h => h.elim) (fun w8 ho8 hg8 => ?_)
      have e8 : Ext w7 w8 := (Ext.refl _).grown hg8 (Nat.le_refl _) (fun g hg => by cases hg)
      have hs8 := e8.size
      refine WL.call rfl rfl rfl (insert_ok w8 (hU.extN e8) ho8 (fun e => ?_) hkl (by omega) (by omega)) ?_
      · exact absurd (hU2 _ e).2.1 (Nat.lt_irrefl _)
      rintro v9 w9 ⟨ho9, hg9, hb9⟩
      obtain ⟨vo, vc, rfl⟩ := ho9.val
      have hB9 : Blk w9 b 44 [.slice xo s.length xc, .slice yo l.length yc] := (hB7.ext e8).kept hg9 (fun e => (hU2 b e.symm).1 rfl)
      have hT9 := (hT.extN e8).keptN hg9 (fun g' h' e => hne g' h' e.symm)
      have hE9 : Ext w6 w9 := (e7.trans e8).grown hg9 (by omega) (fun g' h' => (hU2 g' h').2.2)
      have hs9 := hg9.size
      (repeat (first | (apply WL.add; rfl; rfl; rfl; rfl; omega; omega) | (apply QL.add; rfl; rfl; rfl; rfl; omega; omega) | (apply WL.sub'; rfl; rfl; rfl; rfl; omega; omega) | (apply QL.sub'; rfl; rfl; rfl; rfl; omega; omega) | (apply WL.mul; rfl; rfl; rfl; rfl; omega; omega) | (apply QL.mul; rfl; rfl; rfl; rfl; omega; omega) | (apply WL.pure; rfl; rfl; rfl) | (apply QL.pure; rfl; rfl; rfl) | (apply WL.nil) | (apply EX.thenN) | (apply CW.seq) | (apply CW.region) | (apply WL.pass; rfl; rfl) | (apply QL.pass; rfl; rfl) | (apply WL.eqB; rfl; rfl; rfl; rfl) | (apply QL.eqB; rfl; rfl; rfl; rfl) | (apply WL.neB; rfl; rfl; rfl; rfl) | (apply QL.neB; rfl; rfl; rfl; rfl) | (apply WL.lenS; rfl; rfl; rfl) | (apply QL.lenS; rfl; rfl; rfl) | (apply WL.makeFunc; rfl; rfl; rfl; rfl) | (apply QL.makeFunc; rfl; rfl; rfl; rfl) | (apply WL.fa; rfl; rfl; rfl) | (apply QL.fa; rfl; rfl; rfl) | (apply WL.nck; rfl; rfl; rfl) | (apply QL.nck; rfl; rfl; rfl) | (apply WL.ld; rfl; rfl; rfl; assumption; rfl) | (apply QL.ld; rfl; rfl; rfl; assumption; rfl) | (apply WL.ldA; rfl; rfl; rfl; assumption; rfl) | (apply QL.ldA; rfl; rfl; rfl; assumption; rfl) | (apply CW.block) | (apply EX.inN) | (apply CW.condT; rfl) | (apply CW.condF; rfl) | (apply CW.exit) | (apply EX.thenX) | (apply EX.inX) | (apply EX.inXne; rfl) | (apply CW.ret) | (apply EX.thenR) | (apply EX.inR) | (apply CW.skip) | (refine WL.lenO rfl rfl rfl (by assumption) ?_) | (apply WL.isNil; rfl; rfl; rfl) | (apply CW.draw; exact mixed; kernel_rfl)))
      refine WL.st rfl rfl rfl hB9 rfl rfl (ones_of rfl) (fun w10 hB10 hg10 => ?_)
      have hT10 := hT9.keptN hg10 (fun g' h' e => by cases e; exact (hT2 _ h').1 rfl)
      have ho10 := ho9.keptN hg10 (fun g' h' e => by cases e; rcases hb9 _ h' with h1 | h1; exact (hU2 _ h1).1 rfl; omega)
      have hE10 : Ext w6 w10 := hE9.grown hg10 hE9.size (fun g' h' => by cases h'; exact hb7)
      have hm := hsil hy63 rfl (.inr ⟨rfl, rfl⟩ : _ ∨ s = s ∧ l.take (k - s.length) ++ (9223372036854775808 ||| z) :: l.drop (k - s.length) = l.take (k - s.length) ++ (9223372036854775808 ||| z) :: l.drop (k - s.length))
      (repeat (first | (apply WL.add; rfl; rfl; rfl; rfl; omega; omega) | (apply QL.add; rfl; rfl; rfl; rfl; omega; omega) | (apply WL.sub'; rfl; rfl; rfl; rfl; omega; omega) | (apply QL.sub'; rfl; rfl; rfl; rfl; omega; omega) | (apply WL.mul; rfl; rfl; rfl; rfl; omega; omega) | (apply QL.mul; rfl; rfl; rfl; rfl; omega; omega) | (apply WL.pure; rfl; rfl; rfl) | (apply QL.pure; rfl; rfl; rfl) | (apply WL.nil) | (apply EX.thenN) | (apply CW.seq) | (apply CW.region) | (apply WL.pass; rfl; rfl) | (apply QL.pass; rfl; rfl) | (apply WL.eqB; rfl; rfl; rfl; rfl) | (apply QL.eqB; rfl; rfl; rfl; rfl) | (apply WL.neB; rfl; rfl; rfl; rfl) | (apply QL.neB; rfl; rfl; rfl; rfl) | (apply WL.lenS; rfl; rfl; rfl) | (apply QL.lenS; rfl; rfl; rfl) | (apply WL.makeFunc; rfl; rfl; rfl; rfl) | (apply QL.makeFunc; rfl; rfl; rfl; rfl) | (apply WL.fa; rfl; rfl; rfl) | (apply QL.fa; rfl; rfl; rfl) | (apply WL.nck; rfl; rfl; rfl) | (apply QL.nck; rfl; rfl; rfl) | (apply WL.ld; rfl; rfl; rfl; assumption; rfl) | (apply QL.ld; rfl; rfl; rfl; assumption; rfl) | (apply WL.ldA; rfl; rfl; rfl; assumption; rfl) | (apply QL.ldA; rfl; rfl; rfl; assumption; rfl) | (apply CW.block) | (apply EX.inN) | (apply CW.condT; rfl) | (apply CW.condF; rfl) | (apply CW.exit) | (apply EX.thenX) | (apply EX.inX) | (apply EX.inXne; rfl) | (apply CW.ret) | (apply EX.thenR) | (apply EX.inR) | (apply CW.skip) | (refine WL.lenO rfl rfl rfl (by assumption) ?_) | (apply WL.isNil; rfl; rfl; rfl) | (apply CW.draw; exact mixed; kernel_rfl)))
      exact EX.cutI (.slice xo s.length xc, .slice vo (l.take (k - s.length) ++ (9223372036854775808 ||| z) :: l.drop (k - s.length)).length vc, s, l.take (k - s.length) ++ (9223372036854775808 ||| z) :: l.drop (k - s.length)) (by repeat (first | exact trivial | refine ⟨rfl, ?_⟩)) ⟨hB10, hT10.oldN, ho10.oldN, hE10, hm.symm⟩
  rintro ⟨x, y, s', l'⟩ w8 ⟨hB8, hx8, hy8, hE8, hcase⟩
  dsimp only at hB8 hx8 hy8 hcase ⊢
  obtain ⟨xo', xc', rfl, hx9⟩ := hx8.sl
  obtain ⟨yo', yc', rfl, hy9⟩ := hy8.sl
  have ht8 := ht.ext hE8
  have hE8w := hE5.trans hE8
  (repeat (first | (apply WL.add; rfl; rfl; rfl; rfl; omega; omega) | (apply QL.add; rfl; rfl; rfl; rfl; omega; omega) | (apply WL.sub'; rfl; rfl; rfl; rfl; omega; omega) | (apply QL.sub'; rfl; rfl; rfl; rfl; omega; omega) | (apply WL.mul; rfl; rfl; rfl; rfl; omega; omega) | (apply QL.mul; rfl; rfl; rfl; rfl; omega; omega) | (apply WL.pure; rfl; rfl; rfl) | (apply QL.pure; rfl; rfl; rfl) | (apply WL.nil) | (apply EX.thenN) | (apply CW.seq) | (apply CW.region) | (apply WL.pass; rfl; rfl) | (apply QL.pass; rfl; rfl) | (apply WL.eqB; rfl; rfl; rfl; rfl) | (apply QL.eqB; rfl; rfl; rfl; rfl) | (apply WL.neB; rfl; rfl; rfl; rfl) | (apply QL.neB; rfl; rfl; rfl; rfl) | (apply WL.lenS; rfl; rfl; rfl) | (apply QL.lenS; rfl; rfl; rfl) | (apply WL.makeFunc; rfl; rfl; rfl; rfl) | (apply QL.makeFunc; rfl; rfl; rfl; rfl) | (apply WL.fa; rfl; rfl; rfl) | (apply QL.fa; rfl; rfl; rfl) | (apply WL.nck; rfl; rfl; rfl) | (apply QL.nck; rfl; rfl; rfl) | (apply WL.ld; rfl; rfl; rfl; assumption; rfl) | (apply QL.ld; rfl; rfl; rfl; assumption; rfl) | (apply WL.ldA; rfl; rfl; rfl; assumption; rfl) | (apply QL.ldA; rfl; rfl; rfl; assumption; rfl) | (apply CW.block) | (apply EX.inN) | (apply CW.condT; rfl) | (apply CW.condF; rfl) | (apply CW.exit) | (apply EX.thenX) | (apply EX.inX) | (apply EX.inXne; rfl) | (apply CW.ret) | (apply EX.thenR) | (apply EX.inR) | (apply CW.skip) | (refine WL.lenO rfl rfl rfl (by assumption) ?_) | (apply WL.isNil; rfl; rfl; rfl) | (apply CW.draw; exact mixed; kernel_rfl)))
  refine WL.call rfl rfl rfl (meansT_ok w8 hx9 hy9 (fun _ h => h) t) ?_
  rintro _ w9 ⟨rfl, e9⟩
  have hE9 := hE8w.trans e9
  rcases hcase with hm | hm
  · rw [hm]
    (repeat (first | (apply WL.add; rfl; rfl; rfl; rfl; omega; omega) | (apply QL.add; rfl; rfl; rfl; rfl; omega; omega) | (apply WL.sub'; rfl; rfl; rfl; rfl; omega; omega) | (apply QL.sub'; rfl; rfl; rfl; rfl; omega; omega) | (apply WL.mul; rfl; rfl; rfl; rfl; omega; omega) | (apply QL.mul; rfl; rfl; rfl; rfl; omega; omega) | (apply WL.pure; rfl; rfl; rfl) | (apply QL.pure; rfl; rfl; rfl) | (apply WL.nil) | (apply EX.thenN) | (apply CW.seq) | (apply CW.region) | (apply WL.pass; rfl; rfl) | (apply QL.pass; rfl; rfl) | (apply WL.eqB; rfl; rfl; rfl; rfl) | (apply QL.eqB; rfl; rfl; rfl; rfl) | (apply WL.neB; rfl; rfl; rfl; rfl) | (apply QL.neB; rfl; rfl; rfl; rfl) | (apply WL.lenS; rfl; rfl; rfl) | (apply QL.lenS; rfl; rfl; rfl) | (apply WL.makeFunc; rfl; rfl; rfl; rfl) | (apply QL.makeFunc; rfl; rfl; rfl; rfl) | (apply WL.fa; rfl; rfl; rfl) | (apply QL.fa; rfl; rfl; rfl) | (apply WL.nck; rfl; rfl; rfl) | (apply QL.nck; rfl; rfl; rfl) | (apply WL.ld; rfl; rfl; rfl; assumption; rfl) | (apply QL.ld; rfl; rfl; rfl; assumption; rfl) | (apply WL.ldA; rfl; rfl; rfl; assumption; rfl) | (apply QL.ldA; rfl; rfl; rfl; assumption; rfl) | (apply CW.block) | (apply EX.inN) | (apply CW.condT; rfl) | (apply CW.condF; rfl) | (apply CW.exit) | (apply EX.thenX) | (apply EX.inX) | (apply EX.inXne; rfl) | (apply CW.ret) | (apply EX.thenR) | (apply EX.inR) | (apply CW.skip) | (refine WL.lenO rfl rfl rfl (by assumption) ?_) | (apply WL.isNil; rfl; rfl; rfl) | (apply CW.draw; exact mixed; kernel_rfl)))
    rw [show (M1 == M1) = true by simp]
    (repeat (first | (apply WL.add; rfl; rfl; rfl; rfl; omega; omega) | (apply QL.add; rfl; rfl; rfl; rfl; omega; omega) | (apply WL.sub'; rfl; rfl; rfl; rfl; omega; omega) | (apply QL.sub'; rfl; rfl; rfl; rfl; omega; omega) | (apply WL.mul; rfl; rfl; rfl; rfl; omega; omega) | (apply QL.mul; rfl; rfl; rfl; rfl; omega; omega) | (apply WL.pure; rfl; rfl; rfl) | (apply QL.pure; rfl; rfl; rfl) | (apply WL.nil) | (apply EX.thenN) | (apply CW.seq) | (apply CW.region) | (apply WL.pass; rfl; rfl) | (apply QL.pass; rfl; rfl) | (apply WL.eqB; rfl; rfl; rfl; rfl) | (apply QL.eqB; rfl; rfl; rfl; rfl) | (apply WL.neB; rfl; rfl; rfl; rfl) | (apply QL.neB; rfl; rfl; rfl; rfl) | (apply WL.lenS; rfl; rfl; rfl) | (apply QL.lenS; rfl; rfl; rfl) | (apply WL.makeFunc; rfl; rfl; rfl; rfl) | (apply QL.makeFunc; rfl; rfl; rfl; rfl) | (apply WL.fa; rfl; rfl; rfl) | (apply QL.fa; rfl; rfl; rfl) | (apply WL.nck; rfl; rfl; rfl) | (apply QL.nck; rfl; rfl; rfl) | (apply WL.ld; rfl; rfl; rfl; assumption; rfl) | (apply QL.ld; rfl; rfl; rfl; assumption; rfl) | (apply WL.ldA; rfl; rfl; rfl; assumption; rfl) | (apply QL.ldA; rfl; rfl; rfl; assumption; rfl) | (apply CW.block) | (apply EX.inN) | (apply CW.condT; rfl) | (apply CW.condF; rfl) | (apply CW.exit) | (apply EX.thenX) | (apply EX.inX) | (apply EX.inXne; rfl) | (apply CW.ret) | (apply EX.thenR) | (apply EX.inR) | (apply CW.skip) | (refine WL.lenO rfl rfl rfl (by assumption) ?_) | (apply WL.isNil; rfl; rfl; rfl) | (apply CW.draw; exact mixed; kernel_rfl)))
    exact EX.ret1 rfl rfl ⟨rfl, hE9⟩
  · rw [hm]
    (repeat (first | (apply WL.add; rfl; rfl; rfl; rfl; omega; omega) | (apply QL.add; rfl; rfl; rfl; rfl; omega; omega) | (apply WL.sub'; rfl; rfl; rfl; rfl; omega; omega) | (apply QL.sub'; rfl; rfl; rfl; rfl; omega; omega) | (apply WL.mul; rfl; rfl; rfl; rfl; omega; omega) | (apply QL.mul; rfl; rfl; rfl; rfl; omega; omega) | (apply WL.pure; rfl; rfl; rfl) | (apply QL.pure; rfl; rfl; rfl) | (apply WL.nil) | (apply EX.thenN) | (apply CW.seq) | (apply CW.region) | (apply WL.pass; rfl; rfl) | (apply QL.pass; rfl; rfl) | (apply WL.eqB; rfl; rfl; rfl; rfl) | (apply QL.eqB; rfl; rfl; rfl; rfl) | (apply WL.neB; rfl; rfl; rfl; rfl) | (apply QL.neB; rfl; rfl; rfl; rfl) | (apply WL.lenS; rfl; rfl; rfl) | (apply QL.lenS; rfl; rfl; rfl) | (apply WL.makeFunc; rfl; rfl; rfl; rfl) | (apply QL.makeFunc; rfl; rfl; rfl; rfl) | (apply WL.fa; rfl; rfl; rfl) | (apply QL.fa; rfl; rfl; rfl) | (apply WL.nck; rfl; rfl; rfl) | (apply QL.nck; rfl; rfl; rfl) | (apply WL.ld; rfl; rfl; rfl; assumption; rfl) | (apply QL.ld; rfl; rfl; rfl; assumption; rfl) | (apply WL.ldA; rfl; rfl; rfl; assumption; rfl) | (apply QL.ldA; rfl; rfl; rfl; assumption; rfl) | (apply CW.block) | (apply EX.inN) | (apply CW.condT; rfl) | (apply CW.condF; rfl) | (apply CW.exit) | (apply EX.thenX) | (apply EX.inX) | (apply EX.inXne; rfl) | (apply CW.ret) | (apply EX.thenR) | (apply EX.inR) | (apply CW.skip) | (refine WL.lenO rfl rfl rfl (by assumption) ?_) | (apply WL.isNil; rfl; rfl; rfl) | (apply CW.draw; exact mixed; kernel_rfl)))
    exact EX.ret1 rfl rfl ⟨rfl, hE9⟩
end Go.Proofs.Ythojdcbpglipeaa
