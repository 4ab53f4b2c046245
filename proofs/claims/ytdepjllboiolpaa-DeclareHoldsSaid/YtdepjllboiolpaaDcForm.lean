/-
  declare.Make walked: the formula of a template.
-/
import Derived.Test.YtdepjllboiolpaaDcMk
import Derived.Test.YtdepjllboiolpaaDeclare
import Derived.Test.YtdepjllboiolpaaLtl2
import Derived.Test.YtdepjllboiolpaaRet
set_option linter.unusedVariables false
set_option linter.unusedSimpArgs false
namespace Go.Proofs.Ytdepjllboiolpaa
open Go.RowKit

def eventL (n : Int) : Ltl := .mk 5 0 [.mk 3 n [], .mk 4 0 [.mk 3 63 []]]
def manyL (a : Int) : Nat → Ltl
  | 0 => .mk 10 0 [eventL a]
  | n + 1 => .mk 10 0 [.mk 5 0 [eventL a, .mk 7 0 [manyL a n]]]
instance : IsC Try.prog 106 1 false := IsC.of (by kernel_rfl) Try.underlying106 rfl
instance : IsZC Try.prog 106 [.nilFunc] := IsZC.of (z := .nilFunc) (by kernel_rfl) rfl
abbrev Fresh (w : World) (t : Ltl) : Value → World → Prop := fun v w' => GL w.heap.size w' v t ∧ Ext w w'
theorem Rt.low {P : Program} {f : FuncId} {args : Array Value} {w : World} {t : Ltl} {B : Nat} (h : Rt P f args w (Fresh w t)) (hB : B ≤ w.heap.size) : Rt P f args w fun v w' => GL B w' v t ∧ Ext w w' := h.mono fun v w' h => ⟨h.1.low hB, h.2⟩
theorem FnV.low {P : Program} {fv : Value} {args : List Value} {w : World} {t : Ltl} {B : Nat} (h : FnV P fv args w (Fresh w t)) (hB : B ≤ w.heap.size) : FnV P fv args w fun v w' => GL B w' v t ∧ Ext w w' := h.mono fun v w' h => ⟨h.1.low hB, h.2⟩
theorem event_ok (w : World) (n : Int) : Rt Try.prog 81 [.int .i64 n].toArray w (Fresh w (eventL n)) := by
  refine Rt.enter1 Try.func81 Try.ntmps81 rfl rfl ?_
  (repeat (first | (apply WL.add; rfl; rfl; rfl; rfl; omega; omega) | (apply QL.add; rfl; rfl; rfl; rfl; omega; omega) | (apply WL.sub'; rfl; rfl; rfl; rfl; omega; omega) | (apply QL.sub'; rfl; rfl; rfl; rfl; omega; omega) | (apply WL.mul; rfl; rfl; rfl; rfl; omega; omega) | (apply QL.mul; rfl; rfl; rfl; rfl; omega; omega) | (apply WL.pure; rfl; rfl; rfl) | (apply QL.pure; rfl; rfl; rfl) | (apply WL.nil) | (apply EX.thenN) | (apply CW.seq) | (apply CW.region) | (apply WL.pass; rfl; rfl) | (apply QL.pass; rfl; rfl) | (apply WL.eqB; rfl; rfl; rfl; rfl) | (apply QL.eqB; rfl; rfl; rfl; rfl) | (apply WL.neB; rfl; rfl; rfl; rfl) | (apply QL.neB; rfl; rfl; rfl; rfl) | (apply WL.lenS; rfl; rfl; rfl) | (apply QL.lenS; rfl; rfl; rfl) | (apply WL.makeFunc; rfl; rfl; rfl; rfl) | (apply QL.makeFunc; rfl; rfl; rfl; rfl) | (apply WL.fa; rfl; rfl; rfl) | (apply QL.fa; rfl; rfl; rfl) | (apply WL.nck; rfl; rfl; rfl) | (apply QL.nck; rfl; rfl; rfl) | (apply WL.ld; rfl; rfl; rfl; assumption; rfl) | (apply QL.ld; rfl; rfl; rfl; assumption; rfl) | (apply WL.ldA; rfl; rfl; rfl; assumption; rfl) | (apply QL.ldA; rfl; rfl; rfl; assumption; rfl) | (apply CW.block) | (apply EX.inN) | (apply CW.condT; rfl) | (apply CW.condF; rfl) | (apply CW.exit) | (apply EX.thenX) | (apply EX.inX) | (apply EX.inXne; rfl) | (apply CW.ret) | (apply EX.thenR) | (apply EX.inR) | (apply CW.skip) | (refine WL.lenO rfl rfl rfl (by assumption) ?_) | (apply WL.isNil; rfl; rfl; rfl) | (apply CW.draw; exact mixed; kernel_rfl)))
  refine WL.alloc rfl rfl (fun w1 hr hE1 => ?_)
  have hlr := hr.lt
  have hBw : w1.heap.size ≤ w1.heap.size := by omega
  have hE := hE1
  (repeat (first | (apply WL.add; rfl; rfl; rfl; rfl; omega; omega) | (apply QL.add; rfl; rfl; rfl; rfl; omega; omega) | (apply WL.sub'; rfl; rfl; rfl; rfl; omega; omega) | (apply QL.sub'; rfl; rfl; rfl; rfl; omega; omega) | (apply WL.mul; rfl; rfl; rfl; rfl; omega; omega) | (apply QL.mul; rfl; rfl; rfl; rfl; omega; omega) | (apply WL.pure; rfl; rfl; rfl) | (apply QL.pure; rfl; rfl; rfl) | (apply WL.nil) | (apply EX.thenN) | (apply CW.seq) | (apply CW.region) | (apply WL.pass; rfl; rfl) | (apply QL.pass; rfl; rfl) | (apply WL.eqB; rfl; rfl; rfl; rfl) | (apply QL.eqB; rfl; rfl; rfl; rfl) | (apply WL.neB; rfl; rfl; rfl; rfl) | (apply QL.neB; rfl; rfl; rfl; rfl) | (apply WL.lenS; rfl; rfl; rfl) | (apply QL.lenS; rfl; rfl; rfl) | (apply WL.makeFunc; rfl; rfl; rfl; rfl) | (apply QL.makeFunc; rfl; rfl; rfl; rfl) | (apply WL.fa; rfl; rfl; rfl) | (apply QL.fa; rfl; rfl; rfl) | (apply WL.nck; rfl; rfl; rfl) | (apply QL.nck; rfl; rfl; rfl) | (apply WL.ld; rfl; rfl; rfl; assumption; rfl) | (apply QL.ld; rfl; rfl; rfl; assumption; rfl) | (apply WL.ldA; rfl; rfl; rfl; assumption; rfl) | (apply QL.ldA; rfl; rfl; rfl; assumption; rfl) | (apply CW.block) | (apply EX.inN) | (apply CW.condT; rfl) | (apply CW.condF; rfl) | (apply CW.exit) | (apply EX.thenX) | (apply EX.inX) | (apply EX.inXne; rfl) | (apply CW.ret) | (apply EX.thenR) | (apply EX.inR) | (apply CW.skip) | (refine WL.lenO rfl rfl rfl (by assumption) ?_) | (apply WL.isNil; rfl; rfl; rfl) | (apply CW.draw; exact mixed; kernel_rfl)))
  refine WL.call rfl rfl rfl (dc_atomG w1 w1.heap.size n) ?_
  rintro v4 y1 ⟨g4, ey1⟩
  have hr := hr.ext ey1
  have hE := hE.trans ey1
  have hBw : w1.heap.size ≤ y1.heap.size := Nat.le_trans hBw ey1.size
  refine WL.call rfl rfl rfl (dc_atomG y1 w1.heap.size 63) ?_
  rintro v5 y2 ⟨g5, ey2⟩
  have g4 := g4.ext ey2
  have hr := hr.ext ey2
  have hE := hE.trans ey2
  have hBw : w1.heap.size ≤ y2.heap.size := Nat.le_trans hBw ey2.size
  refine WL.call rfl rfl rfl (dc_notG y2 hBw g5) ?_
  rintro v6 y3 ⟨g6, ey3⟩
  have g4 := g4.ext ey3
  have g5 := g5.ext ey3
  have hr := hr.ext ey3
  have hE := hE.trans ey3
  have hBw : w1.heap.size ≤ y3.heap.size := Nat.le_trans hBw ey3.size
  refine WL.call rfl rfl rfl (dc_andG y3 hBw g4 g6) ?_
  rintro v7 y4 ⟨g7, ey4⟩
  have g4 := g4.ext ey4
  have g5 := g5.ext ey4
  have g6 := g6.ext ey4
  have hr := hr.ext ey4
  have hE := hE.trans ey4
  have hBw : w1.heap.size ≤ y4.heap.size := Nat.le_trans hBw ey4.size
  obtain ⟨uo, uc, rfl, hku⟩ := Rd.ltl g7
  refine WL.st rfl rfl rfl hr rfl rfl (ones_of rfl) (fun z hz hgz => ?_)
  (repeat (first | (apply WL.add; rfl; rfl; rfl; rfl; omega; omega) | (apply QL.add; rfl; rfl; rfl; rfl; omega; omega) | (apply WL.sub'; rfl; rfl; rfl; rfl; omega; omega) | (apply QL.sub'; rfl; rfl; rfl; rfl; omega; omega) | (apply WL.mul; rfl; rfl; rfl; rfl; omega; omega) | (apply QL.mul; rfl; rfl; rfl; rfl; omega; omega) | (apply WL.pure; rfl; rfl; rfl) | (apply QL.pure; rfl; rfl; rfl) | (apply WL.nil) | (apply EX.thenN) | (apply CW.seq) | (apply CW.region) | (apply WL.pass; rfl; rfl) | (apply QL.pass; rfl; rfl) | (apply WL.eqB; rfl; rfl; rfl; rfl) | (apply QL.eqB; rfl; rfl; rfl; rfl) | (apply WL.neB; rfl; rfl; rfl; rfl) | (apply QL.neB; rfl; rfl; rfl; rfl) | (apply WL.lenS; rfl; rfl; rfl) | (apply QL.lenS; rfl; rfl; rfl) | (apply WL.makeFunc; rfl; rfl; rfl; rfl) | (apply QL.makeFunc; rfl; rfl; rfl; rfl) | (apply WL.fa; rfl; rfl; rfl) | (apply QL.fa; rfl; rfl; rfl) | (apply WL.nck; rfl; rfl; rfl) | (apply QL.nck; rfl; rfl; rfl) | (apply WL.ld; rfl; rfl; rfl; assumption; rfl) | (apply QL.ld; rfl; rfl; rfl; assumption; rfl) | (apply WL.ldA; rfl; rfl; rfl; assumption; rfl) | (apply QL.ldA; rfl; rfl; rfl; assumption; rfl) | (apply CW.block) | (apply EX.inN) | (apply CW.condT; rfl) | (apply CW.condF; rfl) | (apply CW.exit) | (apply EX.thenX) | (apply EX.inX) | (apply EX.inXne; rfl) | (apply CW.ret) | (apply EX.thenR) | (apply EX.inR) | (apply CW.skip) | (refine WL.lenO rfl rfl rfl (by assumption) ?_) | (apply WL.isNil; rfl; rfl; rfl) | (apply CW.draw; exact mixed; kernel_rfl)))
  exact EX.retC rfl rfl hz rfl ⟨(g7.st hgz (by omega)).low (by omega), ret_size hE hgz (by omega)⟩
theorem many_ok (a : Int) : ∀ (n : Nat), n ≤ 10 → ∀ (w : World), Rt Try.prog 90 [.int .i64 a, .int .i64 ((n + 1 : Nat) : Int)].toArray w (Fresh w (manyL a n)) := by
  intro n
  induction n with
  | zero =>
    intro _ w
    refine Rt.enter2 Try.func90 Try.ntmps90 rfl rfl ?_
    (repeat (first | (apply WL.add; rfl; rfl; rfl; rfl; omega; omega) | (apply QL.add; rfl; rfl; rfl; rfl; omega; omega) | (apply WL.sub'; rfl; rfl; rfl; rfl; omega; omega) | (apply QL.sub'; rfl; rfl; rfl; rfl; omega; omega) | (apply WL.mul; rfl; rfl; rfl; rfl; omega; omega) | (apply QL.mul; rfl; rfl; rfl; rfl; omega; omega) | (apply WL.pure; rfl; rfl; rfl) | (apply QL.pure; rfl; rfl; rfl) | (apply WL.nil) | (apply EX.thenN) | (apply CW.seq) | (apply CW.region) | (apply WL.pass; rfl; rfl) | (apply QL.pass; rfl; rfl) | (apply WL.eqB; rfl; rfl; rfl; rfl) | (apply QL.eqB; rfl; rfl; rfl; rfl) | (apply WL.neB; rfl; rfl; rfl; rfl) | (apply QL.neB; rfl; rfl; rfl; rfl) | (apply WL.lenS; rfl; rfl; rfl) | (apply QL.lenS; rfl; rfl; rfl) | (apply WL.makeFunc; rfl; rfl; rfl; rfl) | (apply QL.makeFunc; rfl; rfl; rfl; rfl) | (apply WL.fa; rfl; rfl; rfl) | (apply QL.fa; rfl; rfl; rfl) | (apply WL.nck; rfl; rfl; rfl) | (apply QL.nck; rfl; rfl; rfl) | (apply WL.ld; rfl; rfl; rfl; assumption; rfl) | (apply QL.ld; rfl; rfl; rfl; assumption; rfl) | (apply WL.ldA; rfl; rfl; rfl; assumption; rfl) | (apply QL.ldA; rfl; rfl; rfl; assumption; rfl) | (apply CW.block) | (apply EX.inN) | (apply CW.condT; rfl) | (apply CW.condF; rfl) | (apply CW.exit) | (apply EX.thenX) | (apply EX.inX) | (apply EX.inXne; rfl) | (apply CW.ret) | (apply EX.thenR) | (apply EX.inR) | (apply CW.skip) | (refine WL.lenO rfl rfl rfl (by assumption) ?_) | (apply WL.isNil; rfl; rfl; rfl) | (apply CW.draw; exact mixed; kernel_rfl)))
    refine WL.alloc rfl rfl (fun w1 hr hE1 => ?_)
    have hlr := hr.lt
    (repeat (first | (apply WL.add; rfl; rfl; rfl; rfl; omega; omega) | (apply QL.add; rfl; rfl; rfl; rfl; omega; omega) | (apply WL.sub'; rfl; rfl; rfl; rfl; omega; omega) | (apply QL.sub'; rfl; rfl; rfl; rfl; omega; omega) | (apply WL.mul; rfl; rfl; rfl; rfl; omega; omega) | (apply QL.mul; rfl; rfl; rfl; rfl; omega; omega) | (apply WL.pure; rfl; rfl; rfl) | (apply QL.pure; rfl; rfl; rfl) | (apply WL.nil) | (apply EX.thenN) | (apply CW.seq) | (apply CW.region) | (apply WL.pass; rfl; rfl) | (apply QL.pass; rfl; rfl) | (apply WL.eqB; rfl; rfl; rfl; rfl) | (apply QL.eqB; rfl; rfl; rfl; rfl) | (apply WL.neB; rfl; rfl; rfl; rfl) | (apply QL.neB; rfl; rfl; rfl; rfl) | (apply WL.lenS; rfl; rfl; rfl) | (apply QL.lenS; rfl; rfl; rfl) | (apply WL.makeFunc; rfl; rfl; rfl; rfl) | (apply QL.makeFunc; rfl; rfl; rfl; rfl) | (apply WL.fa; rfl; rfl; rfl) | (apply QL.fa; rfl; rfl; rfl) | (apply WL.nck; rfl; rfl; rfl) | (apply QL.nck; rfl; rfl; rfl) | (apply WL.ld; rfl; rfl; rfl; assumption; rfl) | (apply QL.ld; rfl; rfl; rfl; assumption; rfl) | (apply WL.ldA; rfl; rfl; rfl; assumption; rfl) | (apply QL.ldA; rfl; rfl; rfl; assumption; rfl) | (apply CW.block) | (apply EX.inN) | (apply CW.condT; rfl) | (apply CW.condF; rfl) | (apply CW.exit) | (apply EX.thenX) | (apply EX.inX) | (apply EX.inXne; rfl) | (apply CW.ret) | (apply EX.thenR) | (apply EX.inR) | (apply CW.skip) | (refine WL.lenO rfl rfl rfl (by assumption) ?_) | (apply WL.isNil; rfl; rfl; rfl) | (apply CW.draw; exact mixed; kernel_rfl)))
    have hBw : w1.heap.size ≤ w1.heap.size := by omega
    have hE := hE1
    (repeat (first | (apply WL.add; rfl; rfl; rfl; rfl; omega; omega) | (apply QL.add; rfl; rfl; rfl; rfl; omega; omega) | (apply WL.sub'; rfl; rfl; rfl; rfl; omega; omega) | (apply QL.sub'; rfl; rfl; rfl; rfl; omega; omega) | (apply WL.mul; rfl; rfl; rfl; rfl; omega; omega) | (apply QL.mul; rfl; rfl; rfl; rfl; omega; omega) | (apply WL.pure; rfl; rfl; rfl) | (apply QL.pure; rfl; rfl; rfl) | (apply WL.nil) | (apply EX.thenN) | (apply CW.seq) | (apply CW.region) | (apply WL.pass; rfl; rfl) | (apply QL.pass; rfl; rfl) | (apply WL.eqB; rfl; rfl; rfl; rfl) | (apply QL.eqB; rfl; rfl; rfl; rfl) | (apply WL.neB; rfl; rfl; rfl; rfl) | (apply QL.neB; rfl; rfl; rfl; rfl) | (apply WL.lenS; rfl; rfl; rfl) | (apply QL.lenS; rfl; rfl; rfl) | (apply WL.makeFunc; rfl; rfl; rfl; rfl) | (apply QL.makeFunc; rfl; rfl; rfl; rfl) | (apply WL.fa; rfl; rfl; rfl) | (apply QL.fa; rfl; rfl; rfl) | (apply WL.nck; rfl; rfl; rfl) | (apply QL.nck; rfl; rfl; rfl) | (apply WL.ld; rfl; rfl; rfl; assumption; rfl) | (apply QL.ld; rfl; rfl; rfl; assumption; rfl) | (apply WL.ldA; rfl; rfl; rfl; assumption; rfl) | (apply QL.ldA; rfl; rfl; rfl; assumption; rfl) | (apply CW.block) | (apply EX.inN) | (apply CW.condT; rfl) | (apply CW.condF; rfl) | (apply CW.exit) | (apply EX.thenX) | (apply EX.inX) | (apply EX.inXne; rfl) | (apply CW.ret) | (apply EX.thenR) | (apply EX.inR) | (apply CW.skip) | (refine WL.lenO rfl rfl rfl (by assumption) ?_) | (apply WL.isNil; rfl; rfl; rfl) | (apply CW.draw; exact mixed; kernel_rfl)))
    refine WL.call rfl rfl rfl ((event_ok w1 a).low hBw) ?_
    rintro v8 y1 ⟨g8, ey1⟩
    have hr := hr.ext ey1
    have hE := hE.trans ey1
    have hBw : w1.heap.size ≤ y1.heap.size := Nat.le_trans hBw ey1.size
    refine WL.call rfl rfl rfl (dc_someG y1 hBw g8) ?_
    rintro v9 y2 ⟨g9, ey2⟩
    have g8 := g8.ext ey2
    have hr := hr.ext ey2
    have hE := hE.trans ey2
    have hBw : w1.heap.size ≤ y2.heap.size := Nat.le_trans hBw ey2.size
    obtain ⟨uo, uc, rfl, hku⟩ := Rd.ltl g9
    refine WL.st rfl rfl rfl hr rfl rfl (ones_of rfl) (fun z hz hgz => ?_)
    (repeat (first | (apply WL.add; rfl; rfl; rfl; rfl; omega; omega) | (apply QL.add; rfl; rfl; rfl; rfl; omega; omega) | (apply WL.sub'; rfl; rfl; rfl; rfl; omega; omega) | (apply QL.sub'; rfl; rfl; rfl; rfl; omega; omega) | (apply WL.mul; rfl; rfl; rfl; rfl; omega; omega) | (apply QL.mul; rfl; rfl; rfl; rfl; omega; omega) | (apply WL.pure; rfl; rfl; rfl) | (apply QL.pure; rfl; rfl; rfl) | (apply WL.nil) | (apply EX.thenN) | (apply CW.seq) | (apply CW.region) | (apply WL.pass; rfl; rfl) | (apply QL.pass; rfl; rfl) | (apply WL.eqB; rfl; rfl; rfl; rfl) | (apply QL.eqB; rfl; rfl; rfl; rfl) | (apply WL.neB; rfl; rfl; rfl; rfl) | (apply QL.neB; rfl; rfl; rfl; rfl) | (apply WL.lenS; rfl; rfl; rfl) | (apply QL.lenS; rfl; rfl; rfl) | (apply WL.makeFunc; rfl; rfl; rfl; rfl) | (apply QL.makeFunc; rfl; rfl; rfl; rfl) | (apply WL.fa; rfl; rfl; rfl) | (apply QL.fa; rfl; rfl; rfl) | (apply WL.nck; rfl; rfl; rfl) | (apply QL.nck; rfl; rfl; rfl) | (apply WL.ld; rfl; rfl; rfl; assumption; rfl) | (apply QL.ld; rfl; rfl; rfl; assumption; rfl) | (apply WL.ldA; rfl; rfl; rfl; assumption; rfl) | (apply QL.ldA; rfl; rfl; rfl; assumption; rfl) | (apply CW.block) | (apply EX.inN) | (apply CW.condT; rfl) | (apply CW.condF; rfl) | (apply CW.exit) | (apply EX.thenX) | (apply EX.inX) | (apply EX.inXne; rfl) | (apply CW.ret) | (apply EX.thenR) | (apply EX.inR) | (apply CW.skip) | (refine WL.lenO rfl rfl rfl (by assumption) ?_) | (apply WL.isNil; rfl; rfl; rfl) | (apply CW.draw; exact mixed; kernel_rfl)))
    exact EX.retC rfl rfl hz rfl ⟨(g9.st hgz (by omega)).low (by omega), ret_size hE hgz (by omega)⟩
  | succ n ih =>
    intro hn w
    have ih := ih (by omega)
    refine Rt.enter2 Try.func90 Try.ntmps90 rfl rfl ?_
    (repeat (first | (apply WL.add; rfl; rfl; rfl; rfl; omega; omega) | (apply QL.add; rfl; rfl; rfl; rfl; omega; omega) | (apply WL.sub'; rfl; rfl; rfl; rfl; omega; omega) | (apply QL.sub'; rfl; rfl; rfl; rfl; omega; omega) | (apply WL.mul; rfl; rfl; rfl; rfl; omega; omega) | (apply QL.mul; rfl; rfl; rfl; rfl; omega; omega) | (apply WL.pure; rfl; rfl; rfl) | (apply QL.pure; rfl; rfl; rfl) | (apply WL.nil) | (apply EX.thenN) | (apply CW.seq) | (apply CW.region) | (apply WL.pass; rfl; rfl) | (apply QL.pass; rfl; rfl) | (apply WL.eqB; rfl; rfl; rfl; rfl) | (apply QL.eqB; rfl; rfl; rfl; rfl) | (apply WL.neB; rfl; rfl; rfl; rfl) | (apply QL.neB; rfl; rfl; rfl; rfl) | (apply WL.lenS; rfl; rfl; rfl) | (apply QL.lenS; rfl; rfl; rfl) | (apply WL.makeFunc; rfl; rfl; rfl; rfl) | (apply QL.makeFunc; rfl; rfl; rfl; rfl) | (apply WL.fa; rfl; rfl; rfl) | (apply QL.fa; rfl; rfl; rfl) | (apply WL.nck; rfl; rfl; rfl) | (apply QL.nck; rfl; rfl; rfl) | (apply WL.ld; rfl; rfl; rfl; assumption; rfl) | (apply QL.ld; rfl; rfl; rfl; assumption; rfl) | (apply WL.ldA; rfl; rfl; rfl; assumption; rfl) | (apply QL.ldA; rfl; rfl; rfl; assumption; rfl) | (apply CW.block) | (apply EX.inN) | (apply CW.condT; rfl) | (apply CW.condF; rfl) | (apply CW.exit) | (apply EX.thenX) | (apply EX.inX) | (apply EX.inXne; rfl) | (apply CW.ret) | (apply EX.thenR) | (apply EX.inR) | (apply CW.skip) | (refine WL.lenO rfl rfl rfl (by assumption) ?_) | (apply WL.isNil; rfl; rfl; rfl) | (apply CW.draw; exact mixed; kernel_rfl)))
    refine WL.alloc rfl rfl (fun w1 hr hE1 => ?_)
    have hlr := hr.lt
    (repeat (first | (apply WL.add; rfl; rfl; rfl; rfl; omega; omega) | (apply QL.add; rfl; rfl; rfl; rfl; omega; omega) | (apply WL.sub'; rfl; rfl; rfl; rfl; omega; omega) | (apply QL.sub'; rfl; rfl; rfl; rfl; omega; omega) | (apply WL.mul; rfl; rfl; rfl; rfl; omega; omega) | (apply QL.mul; rfl; rfl; rfl; rfl; omega; omega) | (apply WL.pure; rfl; rfl; rfl) | (apply QL.pure; rfl; rfl; rfl) | (apply WL.nil) | (apply EX.thenN) | (apply CW.seq) | (apply CW.region) | (apply WL.pass; rfl; rfl) | (apply QL.pass; rfl; rfl) | (apply WL.eqB; rfl; rfl; rfl; rfl) | (apply QL.eqB; rfl; rfl; rfl; rfl) | (apply WL.neB; rfl; rfl; rfl; rfl) | (apply QL.neB; rfl; rfl; rfl; rfl) | (apply WL.lenS; rfl; rfl; rfl) | (apply QL.lenS; rfl; rfl; rfl) | (apply WL.makeFunc; rfl; rfl; rfl; rfl) | (apply QL.makeFunc; rfl; rfl; rfl; rfl) | (apply WL.fa; rfl; rfl; rfl) | (apply QL.fa; rfl; rfl; rfl) | (apply WL.nck; rfl; rfl; rfl) | (apply QL.nck; rfl; rfl; rfl) | (apply WL.ld; rfl; rfl; rfl; assumption; rfl) | (apply QL.ld; rfl; rfl; rfl; assumption; rfl) | (apply WL.ldA; rfl; rfl; rfl; assumption; rfl) | (apply QL.ldA; rfl; rfl; rfl; assumption; rfl) | (apply CW.block) | (apply EX.inN) | (apply CW.condT; rfl) | (apply CW.condF; rfl) | (apply CW.exit) | (apply EX.thenX) | (apply EX.inX) | (apply EX.inXne; rfl) | (apply CW.ret) | (apply EX.thenR) | (apply EX.inR) | (apply CW.skip) | (refine WL.lenO rfl rfl rfl (by assumption) ?_) | (apply WL.isNil; rfl; rfl; rfl) | (apply CW.draw; exact mixed; kernel_rfl)))
    have hBw : w1.heap.size ≤ w1.heap.size := by omega
    have hE := hE1
    (repeat (first | (apply WL.add; rfl; rfl; rfl; rfl; omega; omega) | (apply QL.add; rfl; rfl; rfl; rfl; omega; omega) | (apply WL.sub'; rfl; rfl; rfl; rfl; omega; omega) | (apply QL.sub'; rfl; rfl; rfl; rfl; omega; omega) | (apply WL.mul; rfl; rfl; rfl; rfl; omega; omega) | (apply QL.mul; rfl; rfl; rfl; rfl; omega; omega) | (apply WL.pure; rfl; rfl; rfl) | (apply QL.pure; rfl; rfl; rfl) | (apply WL.nil) | (apply EX.thenN) | (apply CW.seq) | (apply CW.region) | (apply WL.pass; rfl; rfl) | (apply QL.pass; rfl; rfl) | (apply WL.eqB; rfl; rfl; rfl; rfl) | (apply QL.eqB; rfl; rfl; rfl; rfl) | (apply WL.neB; rfl; rfl; rfl; rfl) | (apply QL.neB; rfl; rfl; rfl; rfl) | (apply WL.lenS; rfl; rfl; rfl) | (apply QL.lenS; rfl; rfl; rfl) | (apply WL.makeFunc; rfl; rfl; rfl; rfl) | (apply QL.makeFunc; rfl; rfl; rfl; rfl) | (apply WL.fa; rfl; rfl; rfl) | (apply QL.fa; rfl; rfl; rfl) | (apply WL.nck; rfl; rfl; rfl) | (apply QL.nck; rfl; rfl; rfl) | (apply WL.ld; rfl; rfl; rfl; assumption; rfl) | (apply QL.ld; rfl; rfl; rfl; assumption; rfl) | (apply WL.ldA; rfl; rfl; rfl; assumption; rfl) | (apply QL.ldA; rfl; rfl; rfl; assumption; rfl) | (apply CW.block) | (apply EX.inN) | (apply CW.condT; rfl) | (apply CW.condF; rfl) | (apply CW.exit) | (apply EX.thenX) | (apply EX.inX) | (apply EX.inXne; rfl) | (apply CW.ret) | (apply EX.thenR) | (apply EX.inR) | (apply CW.skip) | (refine WL.lenO rfl rfl rfl (by assumption) ?_) | (apply WL.isNil; rfl; rfl; rfl) | (apply CW.draw; exact mixed; kernel_rfl)))
    refine WL.call rfl rfl rfl ((event_ok w1 a).low hBw) ?_
    rintro v11 y1 ⟨g11, ey1⟩
    have hr := hr.ext ey1
    have hE := hE.trans ey1
    have hBw : w1.heap.size ≤ y1.heap.size := Nat.le_trans hBw ey1.size
    (repeat (first | (apply WL.add; rfl; rfl; rfl; rfl; omega; omega) | (apply QL.add; rfl; rfl; rfl; rfl; omega; omega) | (apply WL.sub'; rfl; rfl; rfl; rfl; omega; omega) | (apply QL.sub'; rfl; rfl; rfl; rfl; omega; omega) | (apply WL.mul; rfl; rfl; rfl; rfl; omega; omega) | (apply QL.mul; rfl; rfl; rfl; rfl; omega; omega) | (apply WL.pure; rfl; rfl; rfl) | (apply QL.pure; rfl; rfl; rfl) | (apply WL.nil) | (apply EX.thenN) | (apply CW.seq) | (apply CW.region) | (apply WL.pass; rfl; rfl) | (apply QL.pass; rfl; rfl) | (apply WL.eqB; rfl; rfl; rfl; rfl) | (apply QL.eqB; rfl; rfl; rfl; rfl) | (apply WL.neB; rfl; rfl; rfl; rfl) | (apply QL.neB; rfl; rfl; rfl; rfl) | (apply WL.lenS; rfl; rfl; rfl) | (apply QL.lenS; rfl; rfl; rfl) | (apply WL.makeFunc; rfl; rfl; rfl; rfl) | (apply QL.makeFunc; rfl; rfl; rfl; rfl) | (apply WL.fa; rfl; rfl; rfl) | (apply QL.fa; rfl; rfl; rfl) | (apply WL.nck; rfl; rfl; rfl) | (apply QL.nck; rfl; rfl; rfl) | (apply WL.ld; rfl; rfl; rfl; assumption; rfl) | (apply QL.ld; rfl; rfl; rfl; assumption; rfl) | (apply WL.ldA; rfl; rfl; rfl; assumption; rfl) | (apply QL.ldA; rfl; rfl; rfl; assumption; rfl) | (apply CW.block) | (apply EX.inN) | (apply CW.condT; rfl) | (apply CW.condF; rfl) | (apply CW.exit) | (apply EX.thenX) | (apply EX.inX) | (apply EX.inXne; rfl) | (apply CW.ret) | (apply EX.thenR) | (apply EX.inR) | (apply CW.skip) | (refine WL.lenO rfl rfl rfl (by assumption) ?_) | (apply WL.isNil; rfl; rfl; rfl) | (apply CW.draw; exact mixed; kernel_rfl)))
    (repeat (first | (apply WL.add; rfl; rfl; rfl; rfl; omega; omega) | (apply QL.add; rfl; rfl; rfl; rfl; omega; omega) | (apply WL.sub'; rfl; rfl; rfl; rfl; omega; omega) | (apply QL.sub'; rfl; rfl; rfl; rfl; omega; omega) | (apply WL.mul; rfl; rfl; rfl; rfl; omega; omega) | (apply QL.mul; rfl; rfl; rfl; rfl; omega; omega) | (apply WL.pure; rfl; rfl; rfl) | (apply QL.pure; rfl; rfl; rfl) | (apply WL.nil) | (apply EX.thenN) | (apply CW.seq) | (apply CW.region) | (apply WL.pass; rfl; rfl) | (apply QL.pass; rfl; rfl) | (apply WL.eqB; rfl; rfl; rfl; rfl) | (apply QL.eqB; rfl; rfl; rfl; rfl) | (apply WL.neB; rfl; rfl; rfl; rfl) | (apply QL.neB; rfl; rfl; rfl; rfl) | (apply WL.lenS; rfl; rfl; rfl) | (apply QL.lenS; rfl; rfl; rfl) | (apply WL.makeFunc; rfl; rfl; rfl; rfl) | (apply QL.makeFunc; rfl; rfl; rfl; rfl) | (apply WL.fa; rfl; rfl; rfl) | (apply QL.fa; rfl; rfl; rfl) | (apply WL.nck; rfl; rfl; rfl) | (apply QL.nck; rfl; rfl; rfl) | (apply WL.ld; rfl; rfl; rfl; assumption; rfl) | (apply QL.ld; rfl; rfl; rfl; assumption; rfl) | (apply WL.ldA; rfl; rfl; rfl; assumption; rfl) | (apply QL.ldA; rfl; rfl; rfl; assumption; rfl) | (apply CW.block) | (apply EX.inN) | (apply CW.condT; rfl) | (apply CW.condF; rfl) | (apply CW.exit) | (apply EX.thenX) | (apply EX.inX) | (apply EX.inXne; rfl) | (apply CW.ret) | (apply EX.thenR) | (apply EX.inR) | (apply CW.skip) | (refine WL.lenO rfl rfl rfl (by assumption) ?_) | (apply WL.isNil; rfl; rfl; rfl) | (apply CW.draw; exact mixed; kernel_rfl)))
    rw [show ((n + 1 + 1 : Nat) : Int) - 1 = ((n + 1 : Nat) : Int) by omega]
    refine WL.call rfl rfl rfl ((ih y1).low hBw) ?_
    rintro v15 y2 ⟨g15, ey2⟩
    have g11 := g11.ext ey2
    have hr := hr.ext ey2
    have hE := hE.trans ey2
    have hBw : w1.heap.size ≤ y2.heap.size := Nat.le_trans hBw ey2.size
    refine WL.call rfl rfl rfl (dc_oneG y2 hBw 7 g15) ?_
    rintro v16 y3 ⟨g16, ey3⟩
    have g11 := g11.ext ey3
    have g15 := g15.ext ey3
    have hr := hr.ext ey3
    have hE := hE.trans ey3
    have hBw : w1.heap.size ≤ y3.heap.size := Nat.le_trans hBw ey3.size
    refine WL.call rfl rfl rfl (dc_andG y3 hBw g11 g16) ?_
    rintro v17 y4 ⟨g17, ey4⟩
    have g11 := g11.ext ey4
    have g15 := g15.ext ey4
    have g16 := g16.ext ey4
    have hr := hr.ext ey4
    have hE := hE.trans ey4
    have hBw : w1.heap.size ≤ y4.heap.size := Nat.le_trans hBw ey4.size
    refine WL.call rfl rfl rfl (dc_someG y4 hBw g17) ?_
    rintro v18 y5 ⟨g18, ey5⟩
    have g11 := g11.ext ey5
    have g15 := g15.ext ey5
    have g16 := g16.ext ey5
    have g17 := g17.ext ey5
    have hr := hr.ext ey5
    have hE := hE.trans ey5
    have hBw : w1.heap.size ≤ y5.heap.size := Nat.le_trans hBw ey5.size
    obtain ⟨uo, uc, rfl, hku⟩ := Rd.ltl g18
    refine WL.st rfl rfl rfl hr rfl rfl (ones_of rfl) (fun z hz hgz => ?_)
    (repeat (first | (apply WL.add; rfl; rfl; rfl; rfl; omega; omega) | (apply QL.add; rfl; rfl; rfl; rfl; omega; omega) | (apply WL.sub'; rfl; rfl; rfl; rfl; omega; omega) | (apply QL.sub'; rfl; rfl; rfl; rfl; omega; omega) | (apply WL.mul; rfl; rfl; rfl; rfl; omega; omega) | (apply QL.mul; rfl; rfl; rfl; rfl; omega; omega) | (apply WL.pure; rfl; rfl; rfl) | (apply QL.pure; rfl; rfl; rfl) | (apply WL.nil) | (apply EX.thenN) | (apply CW.seq) | (apply CW.region) | (apply WL.pass; rfl; rfl) | (apply QL.pass; rfl; rfl) | (apply WL.eqB; rfl; rfl; rfl; rfl) | (apply QL.eqB; rfl; rfl; rfl; rfl) | (apply WL.neB; rfl; rfl; rfl; rfl) | (apply QL.neB; rfl; rfl; rfl; rfl) | (apply WL.lenS; rfl; rfl; rfl) | (apply QL.lenS; rfl; rfl; rfl) | (apply WL.makeFunc; rfl; rfl; rfl; rfl) | (apply QL.makeFunc; rfl; rfl; rfl; rfl) | (apply WL.fa; rfl; rfl; rfl) | (apply QL.fa; rfl; rfl; rfl) | (apply WL.nck; rfl; rfl; rfl) | (apply QL.nck; rfl; rfl; rfl) | (apply WL.ld; rfl; rfl; rfl; assumption; rfl) | (apply QL.ld; rfl; rfl; rfl; assumption; rfl) | (apply WL.ldA; rfl; rfl; rfl; assumption; rfl) | (apply QL.ldA; rfl; rfl; rfl; assumption; rfl) | (apply CW.block) | (apply EX.inN) | (apply CW.condT; rfl) | (apply CW.condF; rfl) | (apply CW.exit) | (apply EX.thenX) | (apply EX.inX) | (apply EX.inXne; rfl) | (apply CW.ret) | (apply EX.thenR) | (apply EX.inR) | (apply CW.skip) | (refine WL.lenO rfl rfl rfl (by assumption) ?_) | (apply WL.isNil; rfl; rfl; rfl) | (apply CW.draw; exact mixed; kernel_rfl)))
    exact EX.retC rfl rfl hz rfl ⟨(g18.st hgz (by omega)).low (by omega), ret_size hE hgz (by omega)⟩
/-- the variables that the closures of form look at -/
theorem clo_event (p : Nat) (w : World) {k A B c : Int} {j : Nat} (hb : Blk w p 53 [.int .i64 k, .int .i64 A, .int .i64 B, .int .i64 c]) :
    Rt Try.prog 80 [.pointer (some ⟨p, 0, none⟩)].toArray w (Fresh w (eventL A)) ∧ Rt Try.prog 82 [.pointer (some ⟨p, 0, none⟩)].toArray w (Fresh w (eventL B)) := by
  have hlb := hb.lt
  constructor
  · refine Rt.enter1 Try.func80 Try.ntmps80 rfl rfl ?_
    (repeat (first | (apply WL.add; rfl; rfl; rfl; rfl; omega; omega) | (apply QL.add; rfl; rfl; rfl; rfl; omega; omega) | (apply WL.sub'; rfl; rfl; rfl; rfl; omega; omega) | (apply QL.sub'; rfl; rfl; rfl; rfl; omega; omega) | (apply WL.mul; rfl; rfl; rfl; rfl; omega; omega) | (apply QL.mul; rfl; rfl; rfl; rfl; omega; omega) | (apply WL.pure; rfl; rfl; rfl) | (apply QL.pure; rfl; rfl; rfl) | (apply WL.nil) | (apply EX.thenN) | (apply CW.seq) | (apply CW.region) | (apply WL.pass; rfl; rfl) | (apply QL.pass; rfl; rfl) | (apply WL.eqB; rfl; rfl; rfl; rfl) | (apply QL.eqB; rfl; rfl; rfl; rfl) | (apply WL.neB; rfl; rfl; rfl; rfl) | (apply QL.neB; rfl; rfl; rfl; rfl) | (apply WL.lenS; rfl; rfl; rfl) | (apply QL.lenS; rfl; rfl; rfl) | (apply WL.makeFunc; rfl; rfl; rfl; rfl) | (apply QL.makeFunc; rfl; rfl; rfl; rfl) | (apply WL.fa; rfl; rfl; rfl) | (apply QL.fa; rfl; rfl; rfl) | (apply WL.nck; rfl; rfl; rfl) | (apply QL.nck; rfl; rfl; rfl) | (apply WL.ld; rfl; rfl; rfl; assumption; rfl) | (apply QL.ld; rfl; rfl; rfl; assumption; rfl) | (apply WL.ldA; rfl; rfl; rfl; assumption; rfl) | (apply QL.ldA; rfl; rfl; rfl; assumption; rfl) | (apply CW.block) | (apply EX.inN) | (apply CW.condT; rfl) | (apply CW.condF; rfl) | (apply CW.exit) | (apply EX.thenX) | (apply EX.inX) | (apply EX.inXne; rfl) | (apply CW.ret) | (apply EX.thenR) | (apply EX.inR) | (apply CW.skip) | (refine WL.lenO rfl rfl rfl (by assumption) ?_) | (apply WL.isNil; rfl; rfl; rfl) | (apply CW.draw; exact mixed; kernel_rfl)))
    refine WL.alloc rfl rfl (fun w1 hr hE1 => ?_)
    have hlr := hr.lt
    have hb := hb.ext hE1
    have hBw : w1.heap.size ≤ w1.heap.size := by omega
    have hE := hE1
    (repeat (first | (apply WL.add; rfl; rfl; rfl; rfl; omega; omega) | (apply QL.add; rfl; rfl; rfl; rfl; omega; omega) | (apply WL.sub'; rfl; rfl; rfl; rfl; omega; omega) | (apply QL.sub'; rfl; rfl; rfl; rfl; omega; omega) | (apply WL.mul; rfl; rfl; rfl; rfl; omega; omega) | (apply QL.mul; rfl; rfl; rfl; rfl; omega; omega) | (apply WL.pure; rfl; rfl; rfl) | (apply QL.pure; rfl; rfl; rfl) | (apply WL.nil) | (apply EX.thenN) | (apply CW.seq) | (apply CW.region) | (apply WL.pass; rfl; rfl) | (apply QL.pass; rfl; rfl) | (apply WL.eqB; rfl; rfl; rfl; rfl) | (apply QL.eqB; rfl; rfl; rfl; rfl) | (apply WL.neB; rfl; rfl; rfl; rfl) | (apply QL.neB; rfl; rfl; rfl; rfl) | (apply WL.lenS; rfl; rfl; rfl) | (apply QL.lenS; rfl; rfl; rfl) | (apply WL.makeFunc; rfl; rfl; rfl; rfl) | (apply QL.makeFunc; rfl; rfl; rfl; rfl) | (apply WL.fa; rfl; rfl; rfl) | (apply QL.fa; rfl; rfl; rfl) | (apply WL.nck; rfl; rfl; rfl) | (apply QL.nck; rfl; rfl; rfl) | (apply WL.ld; rfl; rfl; rfl; assumption; rfl) | (apply QL.ld; rfl; rfl; rfl; assumption; rfl) | (apply WL.ldA; rfl; rfl; rfl; assumption; rfl) | (apply QL.ldA; rfl; rfl; rfl; assumption; rfl) | (apply CW.block) | (apply EX.inN) | (apply CW.condT; rfl) | (apply CW.condF; rfl) | (apply CW.exit) | (apply EX.thenX) | (apply EX.inX) | (apply EX.inXne; rfl) | (apply CW.ret) | (apply EX.thenR) | (apply EX.inR) | (apply CW.skip) | (refine WL.lenO rfl rfl rfl (by assumption) ?_) | (apply WL.isNil; rfl; rfl; rfl) | (apply CW.draw; exact mixed; kernel_rfl)))
    refine WL.call rfl rfl rfl ((event_ok w1 A).low hBw) ?_
    rintro v4 y1 ⟨g4, ey1⟩
    have hr := hr.ext ey1
    have hE := hE.trans ey1
    have hBw : w1.heap.size ≤ y1.heap.size := Nat.le_trans hBw ey1.size
    obtain ⟨uo, uc, rfl, hku⟩ := Rd.ltl g4
    refine WL.st rfl rfl rfl hr rfl rfl (ones_of rfl) (fun z hz hgz => ?_)
    (repeat (first | (apply WL.add; rfl; rfl; rfl; rfl; omega; omega) | (apply QL.add; rfl; rfl; rfl; rfl; omega; omega) | (apply WL.sub'; rfl; rfl; rfl; rfl; omega; omega) | (apply QL.sub'; rfl; rfl; rfl; rfl; omega; omega) | (apply WL.mul; rfl; rfl; rfl; rfl; omega; omega) | (apply QL.mul; rfl; rfl; rfl; rfl; omega; omega) | (apply WL.pure; rfl; rfl; rfl) | (apply QL.pure; rfl; rfl; rfl) | (apply WL.nil) | (apply EX.thenN) | (apply CW.seq) | (apply CW.region) | (apply WL.pass; rfl; rfl) | (apply QL.pass; rfl; rfl) | (apply WL.eqB; rfl; rfl; rfl; rfl) | (apply QL.eqB; rfl; rfl; rfl; rfl) | (apply WL.neB; rfl; rfl; rfl; rfl) | (apply QL.neB; rfl; rfl; rfl; rfl) | (apply WL.lenS; rfl; rfl; rfl) | (apply QL.lenS; rfl; rfl; rfl) | (apply WL.makeFunc; rfl; rfl; rfl; rfl) | (apply QL.makeFunc; rfl; rfl; rfl; rfl) | (apply WL.fa; rfl; rfl; rfl) | (apply QL.fa; rfl; rfl; rfl) | (apply WL.nck; rfl; rfl; rfl) | (apply QL.nck; rfl; rfl; rfl) | (apply WL.ld; rfl; rfl; rfl; assumption; rfl) | (apply QL.ld; rfl; rfl; rfl; assumption; rfl) | (apply WL.ldA; rfl; rfl; rfl; assumption; rfl) | (apply QL.ldA; rfl; rfl; rfl; assumption; rfl) | (apply CW.block) | (apply EX.inN) | (apply CW.condT; rfl) | (apply CW.condF; rfl) | (apply CW.exit) | (apply EX.thenX) | (apply EX.inX) | (apply EX.inXne; rfl) | (apply CW.ret) | (apply EX.thenR) | (apply EX.inR) | (apply CW.skip) | (refine WL.lenO rfl rfl rfl (by assumption) ?_) | (apply WL.isNil; rfl; rfl; rfl) | (apply CW.draw; exact mixed; kernel_rfl)))
    exact EX.retC rfl rfl hz rfl ⟨(g4.st hgz (by omega)).low (by omega), ret_size hE hgz (by omega)⟩
  · refine Rt.enter1 Try.func82 Try.ntmps82 rfl rfl ?_
    (repeat (first | (apply WL.add; rfl; rfl; rfl; rfl; omega; omega) | (apply QL.add; rfl; rfl; rfl; rfl; omega; omega) | (apply WL.sub'; rfl; rfl; rfl; rfl; omega; omega) | (apply QL.sub'; rfl; rfl; rfl; rfl; omega; omega) | (apply WL.mul; rfl; rfl; rfl; rfl; omega; omega) | (apply QL.mul; rfl; rfl; rfl; rfl; omega; omega) | (apply WL.pure; rfl; rfl; rfl) | (apply QL.pure; rfl; rfl; rfl) | (apply WL.nil) | (apply EX.thenN) | (apply CW.seq) | (apply CW.region) | (apply WL.pass; rfl; rfl) | (apply QL.pass; rfl; rfl) | (apply WL.eqB; rfl; rfl; rfl; rfl) | (apply QL.eqB; rfl; rfl; rfl; rfl) | (apply WL.neB; rfl; rfl; rfl; rfl) | (apply QL.neB; rfl; rfl; rfl; rfl) | (apply WL.lenS; rfl; rfl; rfl) | (apply QL.lenS; rfl; rfl; rfl) | (apply WL.makeFunc; rfl; rfl; rfl; rfl) | (apply QL.makeFunc; rfl; rfl; rfl; rfl) | (apply WL.fa; rfl; rfl; rfl) | (apply QL.fa; rfl; rfl; rfl) | (apply WL.nck; rfl; rfl; rfl) | (apply QL.nck; rfl; rfl; rfl) | (apply WL.ld; rfl; rfl; rfl; assumption; rfl) | (apply QL.ld; rfl; rfl; rfl; assumption; rfl) | (apply WL.ldA; rfl; rfl; rfl; assumption; rfl) | (apply QL.ldA; rfl; rfl; rfl; assumption; rfl) | (apply CW.block) | (apply EX.inN) | (apply CW.condT; rfl) | (apply CW.condF; rfl) | (apply CW.exit) | (apply EX.thenX) | (apply EX.inX) | (apply EX.inXne; rfl) | (apply CW.ret) | (apply EX.thenR) | (apply EX.inR) | (apply CW.skip) | (refine WL.lenO rfl rfl rfl (by assumption) ?_) | (apply WL.isNil; rfl; rfl; rfl) | (apply CW.draw; exact mixed; kernel_rfl)))
    refine WL.alloc rfl rfl (fun w1 hr hE1 => ?_)
    have hlr := hr.lt
    have hb := hb.ext hE1
    have hBw : w1.heap.size ≤ w1.heap.size := by omega
    have hE := hE1
    (repeat (first | (apply WL.add; rfl; rfl; rfl; rfl; omega; omega) | (apply QL.add; rfl; rfl; rfl; rfl; omega; omega) | (apply WL.sub'; rfl; rfl; rfl; rfl; omega; omega) | (apply QL.sub'; rfl; rfl; rfl; rfl; omega; omega) | (apply WL.mul; rfl; rfl; rfl; rfl; omega; omega) | (apply QL.mul; rfl; rfl; rfl; rfl; omega; omega) | (apply WL.pure; rfl; rfl; rfl) | (apply QL.pure; rfl; rfl; rfl) | (apply WL.nil) | (apply EX.thenN) | (apply CW.seq) | (apply CW.region) | (apply WL.pass; rfl; rfl) | (apply QL.pass; rfl; rfl) | (apply WL.eqB; rfl; rfl; rfl; rfl) | (apply QL.eqB; rfl; rfl; rfl; rfl) | (apply WL.neB; rfl; rfl; rfl; rfl) | (apply QL.neB; rfl; rfl; rfl; rfl) | (apply WL.lenS; rfl; rfl; rfl) | (apply QL.lenS; rfl; rfl; rfl) | (apply WL.makeFunc; rfl; rfl; rfl; rfl) | (apply QL.makeFunc; rfl; rfl; rfl; rfl) | (apply WL.fa; rfl; rfl; rfl) | (apply QL.fa; rfl; rfl; rfl) | (apply WL.nck; rfl; rfl; rfl) | (apply QL.nck; rfl; rfl; rfl) | (apply WL.ld; rfl; rfl; rfl; assumption; rfl) | (apply QL.ld; rfl; rfl; rfl; assumption; rfl) | (apply WL.ldA; rfl; rfl; rfl; assumption; rfl) | (apply QL.ldA; rfl; rfl; rfl; assumption; rfl) | (apply CW.block) | (apply EX.inN) | (apply CW.condT; rfl) | (apply CW.condF; rfl) | (apply CW.exit) | (apply EX.thenX) | (apply EX.inX) | (apply EX.inXne; rfl) | (apply CW.ret) | (apply EX.thenR) | (apply EX.inR) | (apply CW.skip) | (refine WL.lenO rfl rfl rfl (by assumption) ?_) | (apply WL.isNil; rfl; rfl; rfl) | (apply CW.draw; exact mixed; kernel_rfl)))
    refine WL.call rfl rfl rfl ((event_ok w1 B).low hBw) ?_
    rintro v4 y1 ⟨g4, ey1⟩
    have hr := hr.ext ey1
    have hE := hE.trans ey1
    have hBw : w1.heap.size ≤ y1.heap.size := Nat.le_trans hBw ey1.size
    obtain ⟨uo, uc, rfl, hku⟩ := Rd.ltl g4
    refine WL.st rfl rfl rfl hr rfl rfl (ones_of rfl) (fun z hz hgz => ?_)
    (repeat (first | (apply WL.add; rfl; rfl; rfl; rfl; omega; omega) | (apply QL.add; rfl; rfl; rfl; rfl; omega; omega) | (apply WL.sub'; rfl; rfl; rfl; rfl; omega; omega) | (apply QL.sub'; rfl; rfl; rfl; rfl; omega; omega) | (apply WL.mul; rfl; rfl; rfl; rfl; omega; omega) | (apply QL.mul; rfl; rfl; rfl; rfl; omega; omega) | (apply WL.pure; rfl; rfl; rfl) | (apply QL.pure; rfl; rfl; rfl) | (apply WL.nil) | (apply EX.thenN) | (apply CW.seq) | (apply CW.region) | (apply WL.pass; rfl; rfl) | (apply QL.pass; rfl; rfl) | (apply WL.eqB; rfl; rfl; rfl; rfl) | (apply QL.eqB; rfl; rfl; rfl; rfl) | (apply WL.neB; rfl; rfl; rfl; rfl) | (apply QL.neB; rfl; rfl; rfl; rfl) | (apply WL.lenS; rfl; rfl; rfl) | (apply QL.lenS; rfl; rfl; rfl) | (apply WL.makeFunc; rfl; rfl; rfl; rfl) | (apply QL.makeFunc; rfl; rfl; rfl; rfl) | (apply WL.fa; rfl; rfl; rfl) | (apply QL.fa; rfl; rfl; rfl) | (apply WL.nck; rfl; rfl; rfl) | (apply QL.nck; rfl; rfl; rfl) | (apply WL.ld; rfl; rfl; rfl; assumption; rfl) | (apply QL.ld; rfl; rfl; rfl; assumption; rfl) | (apply WL.ldA; rfl; rfl; rfl; assumption; rfl) | (apply QL.ldA; rfl; rfl; rfl; assumption; rfl) | (apply CW.block) | (apply EX.inN) | (apply CW.condT; rfl) | (apply CW.condF; rfl) | (apply CW.exit) | (apply EX.thenX) | (apply EX.inX) | (apply EX.inXne; rfl) | (apply CW.ret) | (apply EX.thenR) | (apply EX.inR) | (apply CW.skip) | (refine WL.lenO rfl rfl rfl (by assumption) ?_) | (apply WL.isNil; rfl; rfl; rfl) | (apply CW.draw; exact mixed; kernel_rfl)))
    exact EX.retC rfl rfl hz rfl ⟨(g4.st hgz (by omega)).low (by omega), ret_size hE hgz (by omega)⟩
/-- two variables that hold closures which build events -/
structure Clo (w : World) (pt pa pb : Nat) (A B : Int) : Prop where
  t : ∃ k c, Blk w pt 53 [.int .i64 k, .int .i64 A, .int .i64 B, .int .i64 c]
  a : Blk w pa 106 [.func (.func 80) [].toArray [.pointer (some ⟨pt, 0, none⟩)].toArray]
  b : Blk w pb 106 [.func (.func 82) [].toArray [.pointer (some ⟨pt, 0, none⟩)].toArray]
theorem Clo.ext {w w' : World} {pt pa pb : Nat} {A B : Int} (h : Clo w pt pa pb A B) (hE : Ext w w') : Clo w' pt pa pb A B := by
  obtain ⟨⟨k, c, h1⟩, h2, h3⟩ := h
  exact ⟨⟨k, c, h1.ext hE⟩, h2.ext hE, h3.ext hE⟩
theorem Clo.runA {w : World} {pt pa pb : Nat} {A B : Int} (h : Clo w pt pa pb A B) : FnV Try.prog (.func (.func 80) [].toArray [.pointer (some ⟨pt, 0, none⟩)].toArray) [] w (Fresh w (eventL A)) := by
  obtain ⟨k, c, hb⟩ := h.t
  refine FnV.mk (cs := [_]) ?_
  exact (clo_event pt w (j := 0) hb).1
theorem Clo.runB {w : World} {pt pa pb : Nat} {A B : Int} (h : Clo w pt pa pb A B) : FnV Try.prog (.func (.func 82) [].toArray [.pointer (some ⟨pt, 0, none⟩)].toArray) [] w (Fresh w (eventL B)) := by
  obtain ⟨k, c, hb⟩ := h.t
  refine FnV.mk (cs := [_]) ?_
  exact (clo_event pt w (j := 0) hb).2
def respL (A B : Int) : Ltl := .mk 11 0 [.mk 6 0 [.mk 4 0 [eventL A], .mk 10 0 [eventL B]]]
def precL (A B : Int) : Ltl := .mk 6 0 [.mk 8 0 [.mk 4 0 [eventL B], eventL A], .mk 11 0 [.mk 4 0 [eventL B]]]
theorem clo3 (w : World) {pt pa pb : Nat} {A B : Int} (hC : Clo w pt pa pb A B) : Rt Try.prog 83 [.pointer (some ⟨pa, 0, none⟩), .pointer (some ⟨pb, 0, none⟩)].toArray w (Fresh w (respL A B)) := by
  have hla := hC.a.lt
  have hlb := hC.b.lt
  refine Rt.enter2 Try.func83 Try.ntmps83 rfl rfl ?_
  (repeat (first | (apply WL.add; rfl; rfl; rfl; rfl; omega; omega) | (apply QL.add; rfl; rfl; rfl; rfl; omega; omega) | (apply WL.sub'; rfl; rfl; rfl; rfl; omega; omega) | (apply QL.sub'; rfl; rfl; rfl; rfl; omega; omega) | (apply WL.mul; rfl; rfl; rfl; rfl; omega; omega) | (apply QL.mul; rfl; rfl; rfl; rfl; omega; omega) | (apply WL.pure; rfl; rfl; rfl) | (apply QL.pure; rfl; rfl; rfl) | (apply WL.nil) | (apply EX.thenN) | (apply CW.seq) | (apply CW.region) | (apply WL.pass; rfl; rfl) | (apply QL.pass; rfl; rfl) | (apply WL.eqB; rfl; rfl; rfl; rfl) | (apply QL.eqB; rfl; rfl; rfl; rfl) | (apply WL.neB; rfl; rfl; rfl; rfl) | (apply QL.neB; rfl; rfl; rfl; rfl) | (apply WL.lenS; rfl; rfl; rfl) | (apply QL.lenS; rfl; rfl; rfl) | (apply WL.makeFunc; rfl; rfl; rfl; rfl) | (apply QL.makeFunc; rfl; rfl; rfl; rfl) | (apply WL.fa; rfl; rfl; rfl) | (apply QL.fa; rfl; rfl; rfl) | (apply WL.nck; rfl; rfl; rfl) | (apply QL.nck; rfl; rfl; rfl) | (apply WL.ld; rfl; rfl; rfl; assumption; rfl) | (apply QL.ld; rfl; rfl; rfl; assumption; rfl) | (apply WL.ldA; rfl; rfl; rfl; assumption; rfl) | (apply QL.ldA; rfl; rfl; rfl; assumption; rfl) | (apply CW.block) | (apply EX.inN) | (apply CW.condT; rfl) | (apply CW.condF; rfl) | (apply CW.exit) | (apply EX.thenX) | (apply EX.inX) | (apply EX.inXne; rfl) | (apply CW.ret) | (apply EX.thenR) | (apply EX.inR) | (apply CW.skip) | (refine WL.lenO rfl rfl rfl (by assumption) ?_) | (apply WL.isNil; rfl; rfl; rfl) | (apply CW.draw; exact mixed; kernel_rfl)))
  refine WL.alloc rfl rfl (fun w1 hr hE1 => ?_)
  have hlr := hr.lt
  have hC := hC.ext hE1
  have ha := hC.a
  have hb := hC.b
  have ed := Ext.drew w1
  have hC := hC.ext ed
  have hr := hr.ext ed
  have hrlt := hr.lt
  have ha := ha.ext ed
  have halt := ha.lt
  have hb := hb.ext ed
  have hblt := hb.lt
  have hE := hE1.trans ed
  have haK : ∀ x, (fun x : World => SO w.heap.size (drew w1) x) x → x.heap[pa]? = (drew w1).heap[pa]? := fun x hx => hx.2 _ (by omega) halt
  have hbK : ∀ x, (fun x : World => SO w.heap.size (drew w1) x) x → x.heap[pb]? = (drew w1).heap[pb]? := fun x hx => hx.2 _ (by omega) hblt
  (repeat (first | (apply WL.add; rfl; rfl; rfl; rfl; omega; omega) | (apply QL.add; rfl; rfl; rfl; rfl; omega; omega) | (apply WL.sub'; rfl; rfl; rfl; rfl; omega; omega) | (apply QL.sub'; rfl; rfl; rfl; rfl; omega; omega) | (apply WL.mul; rfl; rfl; rfl; rfl; omega; omega) | (apply QL.mul; rfl; rfl; rfl; rfl; omega; omega) | (apply WL.pure; rfl; rfl; rfl) | (apply QL.pure; rfl; rfl; rfl) | (apply WL.nil) | (apply EX.thenN) | (apply CW.seq) | (apply CW.region) | (apply WL.pass; rfl; rfl) | (apply QL.pass; rfl; rfl) | (apply WL.eqB; rfl; rfl; rfl; rfl) | (apply QL.eqB; rfl; rfl; rfl; rfl) | (apply WL.neB; rfl; rfl; rfl; rfl) | (apply QL.neB; rfl; rfl; rfl; rfl) | (apply WL.lenS; rfl; rfl; rfl) | (apply QL.lenS; rfl; rfl; rfl) | (apply WL.makeFunc; rfl; rfl; rfl; rfl) | (apply QL.makeFunc; rfl; rfl; rfl; rfl) | (apply WL.fa; rfl; rfl; rfl) | (apply QL.fa; rfl; rfl; rfl) | (apply WL.nck; rfl; rfl; rfl) | (apply QL.nck; rfl; rfl; rfl) | (apply WL.ld; rfl; rfl; rfl; assumption; rfl) | (apply QL.ld; rfl; rfl; rfl; assumption; rfl) | (apply WL.ldA; rfl; rfl; rfl; assumption; rfl) | (apply QL.ldA; rfl; rfl; rfl; assumption; rfl) | (apply CW.block) | (apply EX.inN) | (apply CW.condT; rfl) | (apply CW.condF; rfl) | (apply CW.exit) | (apply EX.thenX) | (apply EX.inX) | (apply EX.inXne; rfl) | (apply CW.ret) | (apply EX.thenR) | (apply EX.inR) | (apply CW.skip) | (refine WL.lenO rfl rfl rfl (by assumption) ?_) | (apply WL.isNil; rfl; rfl; rfl)))
  refine CW.drawH (fun x : World => SO w.heap.size (drew w1) x) [(0, true), (3, true), (1, false), (2, false), (4, false), (5, false), (6, false), (7, false), (8, false)] mixed (by kernel_rfl) (SO.refl _ _) ?_
  have hS : SO w.heap.size (drew w1) (drew w1) := SO.refl _ _
  have hBw : w1.heap.size ≤ (drew w1).heap.size := by have := ed.size; omega
  (repeat (first | (apply HL.add; rfl; rfl; rfl; rfl; rfl; omega; omega) | (apply HL.sub'; rfl; rfl; rfl; rfl; rfl; omega; omega) | (apply HL.pure; rfl; rfl; rfl; rfl) | (apply HL.pass; rfl; rfl; rfl) | (refine HL.fa rfl rfl rfl rfl ?_) | (apply HL.nck; rfl; rfl; rfl; rfl) | (refine HL.ld (by assumption) rfl rfl rfl rfl (by assumption) rfl ?_) | (refine HL.ldK (by assumption) rfl rfl rfl rfl (by assumption) rfl ?_) | (refine HL.ldA (by assumption) rfl rfl rfl rfl (by assumption) rfl ?_) | (refine HL.lenS rfl rfl rfl rfl ?_) | (refine HL.eqB rfl rfl rfl rfl rfl ?_) | (refine HL.neB rfl rfl rfl rfl rfl ?_) | (refine HL.build rfl rfl rfl rfl rfl ?_) | (apply HL.makeFunc; rfl; rfl; rfl; rfl; rfl) | (apply HL.nil)))
  refine HL.mut rfl (WL.callF (xs := []) (vs := []) rfl rfl rfl rfl (hC.runA.low hBw) ?_)
  rintro v4 y1 ⟨g4, ey1⟩
  have hC := hC.ext ey1
  have hr := hr.ext ey1
  have ha := ha.ext ey1
  have hb := hb.ext ey1
  have hE := hE.trans ey1
  have hBw : w1.heap.size ≤ y1.heap.size := Nat.le_trans hBw ey1.size
  have hS := hS.ext ey1
  refine WL.nil (EX.mut hS ?_)
  refine HL.mut rfl (WL.call rfl rfl rfl (dc_notG y1 hBw g4) ?_)
  rintro v5 y2 ⟨g5, ey2⟩
  have hC := hC.ext ey2
  have g4 := g4.ext ey2
  have hr := hr.ext ey2
  have ha := ha.ext ey2
  have hb := hb.ext ey2
  have hE := hE.trans ey2
  have hBw : w1.heap.size ≤ y2.heap.size := Nat.le_trans hBw ey2.size
  have hS := hS.ext ey2
  refine WL.nil (EX.mut hS ?_)
  refine HL.mut rfl (WL.callF (xs := []) (vs := []) rfl rfl rfl rfl (hC.runB.low hBw) ?_)
  rintro v7 y3 ⟨g7, ey3⟩
  have hC := hC.ext ey3
  have g4 := g4.ext ey3
  have g5 := g5.ext ey3
  have hr := hr.ext ey3
  have ha := ha.ext ey3
  have hb := hb.ext ey3
  have hE := hE.trans ey3
  have hBw : w1.heap.size ≤ y3.heap.size := Nat.le_trans hBw ey3.size
  have hS := hS.ext ey3
  refine WL.nil (EX.mut hS ?_)
  refine HL.mut rfl (WL.call rfl rfl rfl (dc_someG y3 hBw g7) ?_)
  rintro v8 y4 ⟨g8, ey4⟩
  have hC := hC.ext ey4
  have g4 := g4.ext ey4
  have g5 := g5.ext ey4
  have g7 := g7.ext ey4
  have hr := hr.ext ey4
  have ha := ha.ext ey4
  have hb := hb.ext ey4
  have hE := hE.trans ey4
  have hBw : w1.heap.size ≤ y4.heap.size := Nat.le_trans hBw ey4.size
  have hS := hS.ext ey4
  refine WL.nil (EX.mut hS ?_)
  refine HL.mut rfl (WL.call rfl rfl rfl (dc_orG y4 hBw g5 g8) ?_)
  rintro v9 y5 ⟨g9, ey5⟩
  have hC := hC.ext ey5
  have g4 := g4.ext ey5
  have g5 := g5.ext ey5
  have g7 := g7.ext ey5
  have g8 := g8.ext ey5
  have hr := hr.ext ey5
  have ha := ha.ext ey5
  have hb := hb.ext ey5
  have hE := hE.trans ey5
  have hBw : w1.heap.size ≤ y5.heap.size := Nat.le_trans hBw ey5.size
  have hS := hS.ext ey5
  refine WL.nil (EX.mut hS ?_)
  refine HL.mut rfl (WL.call rfl rfl rfl (dc_alwaysG y5 hBw g9) ?_)
  rintro v10 y6 ⟨g10, ey6⟩
  have hC := hC.ext ey6
  have g4 := g4.ext ey6
  have g5 := g5.ext ey6
  have g7 := g7.ext ey6
  have g8 := g8.ext ey6
  have g9 := g9.ext ey6
  have hr := hr.ext ey6
  have ha := ha.ext ey6
  have hb := hb.ext ey6
  have hE := hE.trans ey6
  have hBw : w1.heap.size ≤ y6.heap.size := Nat.le_trans hBw ey6.size
  have hS := hS.ext ey6
  refine WL.nil (EX.mut hS ?_)
  obtain ⟨uo, uc, rfl, hku⟩ := Rd.ltl g10
  refine HL.mut rfl (WL.st rfl rfl rfl hr rfl rfl (ones_of rfl) (fun z hz hgz => ?_))
  refine WL.nil (EX.mut (hS.st hgz) (HL.nil ?_))
  (repeat (first | (apply WL.add; rfl; rfl; rfl; rfl; omega; omega) | (apply QL.add; rfl; rfl; rfl; rfl; omega; omega) | (apply WL.sub'; rfl; rfl; rfl; rfl; omega; omega) | (apply QL.sub'; rfl; rfl; rfl; rfl; omega; omega) | (apply WL.mul; rfl; rfl; rfl; rfl; omega; omega) | (apply QL.mul; rfl; rfl; rfl; rfl; omega; omega) | (apply WL.pure; rfl; rfl; rfl) | (apply QL.pure; rfl; rfl; rfl) | (apply WL.nil) | (apply EX.thenN) | (apply CW.seq) | (apply CW.region) | (apply WL.pass; rfl; rfl) | (apply QL.pass; rfl; rfl) | (apply WL.eqB; rfl; rfl; rfl; rfl) | (apply QL.eqB; rfl; rfl; rfl; rfl) | (apply WL.neB; rfl; rfl; rfl; rfl) | (apply QL.neB; rfl; rfl; rfl; rfl) | (apply WL.lenS; rfl; rfl; rfl) | (apply QL.lenS; rfl; rfl; rfl) | (apply WL.makeFunc; rfl; rfl; rfl; rfl) | (apply QL.makeFunc; rfl; rfl; rfl; rfl) | (apply WL.fa; rfl; rfl; rfl) | (apply QL.fa; rfl; rfl; rfl) | (apply WL.nck; rfl; rfl; rfl) | (apply QL.nck; rfl; rfl; rfl) | (apply WL.ld; rfl; rfl; rfl; assumption; rfl) | (apply QL.ld; rfl; rfl; rfl; assumption; rfl) | (apply WL.ldA; rfl; rfl; rfl; assumption; rfl) | (apply QL.ldA; rfl; rfl; rfl; assumption; rfl) | (apply CW.block) | (apply EX.inN) | (apply CW.condT; rfl) | (apply CW.condF; rfl) | (apply CW.exit) | (apply EX.thenX) | (apply EX.inX) | (apply EX.inXne; rfl) | (apply CW.ret) | (apply EX.thenR) | (apply EX.inR) | (apply CW.skip) | (refine WL.lenO rfl rfl rfl (by assumption) ?_) | (apply WL.isNil; rfl; rfl; rfl) | (apply CW.draw; exact mixed; kernel_rfl)))
  exact EX.retC rfl rfl hz rfl ⟨(g10.st hgz (by omega)).low (by omega), ret_size hE hgz (by omega)⟩
theorem clo4 (w : World) {pt pa pb : Nat} {A B : Int} (hC : Clo w pt pa pb A B) : Rt Try.prog 88 [.pointer (some ⟨pb, 0, none⟩), .pointer (some ⟨pa, 0, none⟩)].toArray w (Fresh w (precL A B)) := by
  have hla := hC.a.lt
  have hlb := hC.b.lt
  refine Rt.enter2 Try.func88 Try.ntmps88 rfl rfl ?_
  (repeat (first | (apply WL.add; rfl; rfl; rfl; rfl; omega; omega) | (apply QL.add; rfl; rfl; rfl; rfl; omega; omega) | (apply WL.sub'; rfl; rfl; rfl; rfl; omega; omega) | (apply QL.sub'; rfl; rfl; rfl; rfl; omega; omega) | (apply WL.mul; rfl; rfl; rfl; rfl; omega; omega) | (apply QL.mul; rfl; rfl; rfl; rfl; omega; omega) | (apply WL.pure; rfl; rfl; rfl) | (apply QL.pure; rfl; rfl; rfl) | (apply WL.nil) | (apply EX.thenN) | (apply CW.seq) | (apply CW.region) | (apply WL.pass; rfl; rfl) | (apply QL.pass; rfl; rfl) | (apply WL.eqB; rfl; rfl; rfl; rfl) | (apply QL.eqB; rfl; rfl; rfl; rfl) | (apply WL.neB; rfl; rfl; rfl; rfl) | (apply QL.neB; rfl; rfl; rfl; rfl) | (apply WL.lenS; rfl; rfl; rfl) | (apply QL.lenS; rfl; rfl; rfl) | (apply WL.makeFunc; rfl; rfl; rfl; rfl) | (apply QL.makeFunc; rfl; rfl; rfl; rfl) | (apply WL.fa; rfl; rfl; rfl) | (apply QL.fa; rfl; rfl; rfl) | (apply WL.nck; rfl; rfl; rfl) | (apply QL.nck; rfl; rfl; rfl) | (apply WL.ld; rfl; rfl; rfl; assumption; rfl) | (apply QL.ld; rfl; rfl; rfl; assumption; rfl) | (apply WL.ldA; rfl; rfl; rfl; assumption; rfl) | (apply QL.ldA; rfl; rfl; rfl; assumption; rfl) | (apply CW.block) | (apply EX.inN) | (apply CW.condT; rfl) | (apply CW.condF; rfl) | (apply CW.exit) | (apply EX.thenX) | (apply EX.inX) | (apply EX.inXne; rfl) | (apply CW.ret) | (apply EX.thenR) | (apply EX.inR) | (apply CW.skip) | (refine WL.lenO rfl rfl rfl (by assumption) ?_) | (apply WL.isNil; rfl; rfl; rfl) | (apply CW.draw; exact mixed; kernel_rfl)))
  refine WL.alloc rfl rfl (fun w1 hr hE1 => ?_)
  have hlr := hr.lt
  have hC := hC.ext hE1
  have ha := hC.a
  have hb := hC.b
  have ed := Ext.drew w1
  have hC := hC.ext ed
  have hr := hr.ext ed
  have hrlt := hr.lt
  have ha := ha.ext ed
  have halt := ha.lt
  have hb := hb.ext ed
  have hblt := hb.lt
  have hE := hE1.trans ed
  have haK : ∀ x, (fun x : World => SO w.heap.size (drew w1) x) x → x.heap[pa]? = (drew w1).heap[pa]? := fun x hx => hx.2 _ (by omega) halt
  have hbK : ∀ x, (fun x : World => SO w.heap.size (drew w1) x) x → x.heap[pb]? = (drew w1).heap[pb]? := fun x hx => hx.2 _ (by omega) hblt
  (repeat (first | (apply WL.add; rfl; rfl; rfl; rfl; omega; omega) | (apply QL.add; rfl; rfl; rfl; rfl; omega; omega) | (apply WL.sub'; rfl; rfl; rfl; rfl; omega; omega) | (apply QL.sub'; rfl; rfl; rfl; rfl; omega; omega) | (apply WL.mul; rfl; rfl; rfl; rfl; omega; omega) | (apply QL.mul; rfl; rfl; rfl; rfl; omega; omega) | (apply WL.pure; rfl; rfl; rfl) | (apply QL.pure; rfl; rfl; rfl) | (apply WL.nil) | (apply EX.thenN) | (apply CW.seq) | (apply CW.region) | (apply WL.pass; rfl; rfl) | (apply QL.pass; rfl; rfl) | (apply WL.eqB; rfl; rfl; rfl; rfl) | (apply QL.eqB; rfl; rfl; rfl; rfl) | (apply WL.neB; rfl; rfl; rfl; rfl) | (apply QL.neB; rfl; rfl; rfl; rfl) | (apply WL.lenS; rfl; rfl; rfl) | (apply QL.lenS; rfl; rfl; rfl) | (apply WL.makeFunc; rfl; rfl; rfl; rfl) | (apply QL.makeFunc; rfl; rfl; rfl; rfl) | (apply WL.fa; rfl; rfl; rfl) | (apply QL.fa; rfl; rfl; rfl) | (apply WL.nck; rfl; rfl; rfl) | (apply QL.nck; rfl; rfl; rfl) | (apply WL.ld; rfl; rfl; rfl; assumption; rfl) | (apply QL.ld; rfl; rfl; rfl; assumption; rfl) | (apply WL.ldA; rfl; rfl; rfl; assumption; rfl) | (apply QL.ldA; rfl; rfl; rfl; assumption; rfl) | (apply CW.block) | (apply EX.inN) | (apply CW.condT; rfl) | (apply CW.condF; rfl) | (apply CW.exit) | (apply EX.thenX) | (apply EX.inX) | (apply EX.inXne; rfl) | (apply CW.ret) | (apply EX.thenR) | (apply EX.inR) | (apply CW.skip) | (refine WL.lenO rfl rfl rfl (by assumption) ?_) | (apply WL.isNil; rfl; rfl; rfl)))
  refine CW.drawH (fun x : World => SO w.heap.size (drew w1) x) [(0, true), (3, true), (6, true), (1, false), (2, false), (4, false), (5, false), (7, false), (8, false), (9, false), (10, false), (11, false)] mixed (by kernel_rfl) (SO.refl _ _) ?_
  have hS : SO w.heap.size (drew w1) (drew w1) := SO.refl _ _
  have hBw : w1.heap.size ≤ (drew w1).heap.size := by have := ed.size; omega
  (repeat (first | (apply HL.add; rfl; rfl; rfl; rfl; rfl; omega; omega) | (apply HL.sub'; rfl; rfl; rfl; rfl; rfl; omega; omega) | (apply HL.pure; rfl; rfl; rfl; rfl) | (apply HL.pass; rfl; rfl; rfl) | (refine HL.fa rfl rfl rfl rfl ?_) | (apply HL.nck; rfl; rfl; rfl; rfl) | (refine HL.ld (by assumption) rfl rfl rfl rfl (by assumption) rfl ?_) | (refine HL.ldK (by assumption) rfl rfl rfl rfl (by assumption) rfl ?_) | (refine HL.ldA (by assumption) rfl rfl rfl rfl (by assumption) rfl ?_) | (refine HL.lenS rfl rfl rfl rfl ?_) | (refine HL.eqB rfl rfl rfl rfl rfl ?_) | (refine HL.neB rfl rfl rfl rfl rfl ?_) | (refine HL.build rfl rfl rfl rfl rfl ?_) | (apply HL.makeFunc; rfl; rfl; rfl; rfl; rfl) | (apply HL.nil)))
  refine HL.mut rfl (WL.callF (xs := []) (vs := []) rfl rfl rfl rfl (hC.runB.low hBw) ?_)
  rintro v4 y1 ⟨g4, ey1⟩
  have hC := hC.ext ey1
  have hr := hr.ext ey1
  have ha := ha.ext ey1
  have hb := hb.ext ey1
  have hE := hE.trans ey1
  have hBw : w1.heap.size ≤ y1.heap.size := Nat.le_trans hBw ey1.size
  have hS := hS.ext ey1
  refine WL.nil (EX.mut hS ?_)
  refine HL.mut rfl (WL.call rfl rfl rfl (dc_notG y1 hBw g4) ?_)
  rintro v5 y2 ⟨g5, ey2⟩
  have hC := hC.ext ey2
  have g4 := g4.ext ey2
  have hr := hr.ext ey2
  have ha := ha.ext ey2
  have hb := hb.ext ey2
  have hE := hE.trans ey2
  have hBw : w1.heap.size ≤ y2.heap.size := Nat.le_trans hBw ey2.size
  have hS := hS.ext ey2
  refine WL.nil (EX.mut hS ?_)
  refine HL.mut rfl (WL.callF (xs := []) (vs := []) rfl rfl rfl rfl (hC.runA.low hBw) ?_)
  rintro v7 y3 ⟨g7, ey3⟩
  have hC := hC.ext ey3
  have g4 := g4.ext ey3
  have g5 := g5.ext ey3
  have hr := hr.ext ey3
  have ha := ha.ext ey3
  have hb := hb.ext ey3
  have hE := hE.trans ey3
  have hBw : w1.heap.size ≤ y3.heap.size := Nat.le_trans hBw ey3.size
  have hS := hS.ext ey3
  refine WL.nil (EX.mut hS ?_)
  refine HL.mut rfl (WL.call rfl rfl rfl (dc_twoG y3 hBw 8 g5 g7) ?_)
  rintro v8 y4 ⟨g8, ey4⟩
  have hC := hC.ext ey4
  have g4 := g4.ext ey4
  have g5 := g5.ext ey4
  have g7 := g7.ext ey4
  have hr := hr.ext ey4
  have ha := ha.ext ey4
  have hb := hb.ext ey4
  have hE := hE.trans ey4
  have hBw : w1.heap.size ≤ y4.heap.size := Nat.le_trans hBw ey4.size
  have hS := hS.ext ey4
  refine WL.nil (EX.mut hS ?_)
  refine HL.mut rfl (WL.callF (xs := []) (vs := []) rfl rfl rfl rfl (hC.runB.low hBw) ?_)
  rintro v10 y5 ⟨g10, ey5⟩
  have hC := hC.ext ey5
  have g4 := g4.ext ey5
  have g5 := g5.ext ey5
  have g7 := g7.ext ey5
  have g8 := g8.ext ey5
  have hr := hr.ext ey5
  have ha := ha.ext ey5
  have hb := hb.ext ey5
  have hE := hE.trans ey5
  have hBw : w1.heap.size ≤ y5.heap.size := Nat.le_trans hBw ey5.size
  have hS := hS.ext ey5
  refine WL.nil (EX.mut hS ?_)
  refine HL.mut rfl (WL.call rfl rfl rfl (dc_notG y5 hBw g10) ?_)
  rintro v11 y6 ⟨g11, ey6⟩
  have hC := hC.ext ey6
  have g4 := g4.ext ey6
  have g5 := g5.ext ey6
  have g7 := g7.ext ey6
  have g8 := g8.ext ey6
  have g10 := g10.ext ey6
  have hr := hr.ext ey6
  have ha := ha.ext ey6
  have hb := hb.ext ey6
  have hE := hE.trans ey6
  have hBw : w1.heap.size ≤ y6.heap.size := Nat.le_trans hBw ey6.size
  have hS := hS.ext ey6
  refine WL.nil (EX.mut hS ?_)
  refine HL.mut rfl (WL.call rfl rfl rfl (dc_alwaysG y6 hBw g11) ?_)
  rintro v12 y7 ⟨g12, ey7⟩
  have hC := hC.ext ey7
  have g4 := g4.ext ey7
  have g5 := g5.ext ey7
  have g7 := g7.ext ey7
  have g8 := g8.ext ey7
  have g10 := g10.ext ey7
  have g11 := g11.ext ey7
  have hr := hr.ext ey7
  have ha := ha.ext ey7
  have hb := hb.ext ey7
  have hE := hE.trans ey7
  have hBw : w1.heap.size ≤ y7.heap.size := Nat.le_trans hBw ey7.size
  have hS := hS.ext ey7
  refine WL.nil (EX.mut hS ?_)
  refine HL.mut rfl (WL.call rfl rfl rfl (dc_orG y7 hBw g8 g12) ?_)
  rintro v13 y8 ⟨g13, ey8⟩
  have hC := hC.ext ey8
  have g4 := g4.ext ey8
  have g5 := g5.ext ey8
  have g7 := g7.ext ey8
  have g8 := g8.ext ey8
  have g10 := g10.ext ey8
  have g11 := g11.ext ey8
  have g12 := g12.ext ey8
  have hr := hr.ext ey8
  have ha := ha.ext ey8
  have hb := hb.ext ey8
  have hE := hE.trans ey8
  have hBw : w1.heap.size ≤ y8.heap.size := Nat.le_trans hBw ey8.size
  have hS := hS.ext ey8
  refine WL.nil (EX.mut hS ?_)
  obtain ⟨uo, uc, rfl, hku⟩ := Rd.ltl g13
  refine HL.mut rfl (WL.st rfl rfl rfl hr rfl rfl (ones_of rfl) (fun z hz hgz => ?_))
  refine WL.nil (EX.mut (hS.st hgz) (HL.nil ?_))
  (repeat (first | (apply WL.add; rfl; rfl; rfl; rfl; omega; omega) | (apply QL.add; rfl; rfl; rfl; rfl; omega; omega) | (apply WL.sub'; rfl; rfl; rfl; rfl; omega; omega) | (apply QL.sub'; rfl; rfl; rfl; rfl; omega; omega) | (apply WL.mul; rfl; rfl; rfl; rfl; omega; omega) | (apply QL.mul; rfl; rfl; rfl; rfl; omega; omega) | (apply WL.pure; rfl; rfl; rfl) | (apply QL.pure; rfl; rfl; rfl) | (apply WL.nil) | (apply EX.thenN) | (apply CW.seq) | (apply CW.region) | (apply WL.pass; rfl; rfl) | (apply QL.pass; rfl; rfl) | (apply WL.eqB; rfl; rfl; rfl; rfl) | (apply QL.eqB; rfl; rfl; rfl; rfl) | (apply WL.neB; rfl; rfl; rfl; rfl) | (apply QL.neB; rfl; rfl; rfl; rfl) | (apply WL.lenS; rfl; rfl; rfl) | (apply QL.lenS; rfl; rfl; rfl) | (apply WL.makeFunc; rfl; rfl; rfl; rfl) | (apply QL.makeFunc; rfl; rfl; rfl; rfl) | (apply WL.fa; rfl; rfl; rfl) | (apply QL.fa; rfl; rfl; rfl) | (apply WL.nck; rfl; rfl; rfl) | (apply QL.nck; rfl; rfl; rfl) | (apply WL.ld; rfl; rfl; rfl; assumption; rfl) | (apply QL.ld; rfl; rfl; rfl; assumption; rfl) | (apply WL.ldA; rfl; rfl; rfl; assumption; rfl) | (apply QL.ldA; rfl; rfl; rfl; assumption; rfl) | (apply CW.block) | (apply EX.inN) | (apply CW.condT; rfl) | (apply CW.condF; rfl) | (apply CW.exit) | (apply EX.thenX) | (apply EX.inX) | (apply EX.inXne; rfl) | (apply CW.ret) | (apply EX.thenR) | (apply EX.inR) | (apply CW.skip) | (refine WL.lenO rfl rfl rfl (by assumption) ?_) | (apply WL.isNil; rfl; rfl; rfl) | (apply CW.draw; exact mixed; kernel_rfl)))
  exact EX.retC rfl rfl hz rfl ⟨(g13.st hgz (by omega)).low (by omega), ret_size hE hgz (by omega)⟩
def declF (k A B c : Int) : Ltl :=
  if k = 1 then manyL A (c.toNat - 1)
  else if k = 2 then .mk 4 0 [manyL A (c.toNat - 1)]
  else if k = 3 then .mk 5 0 [manyL A (c.toNat - 1), .mk 4 0 [manyL A c.toNat]]
  else if k = 4 then (Ltl.mk 6 0 [(Ltl.mk 8 0 [(Ltl.mk 3 63 []), (eventL A)]), (Ltl.mk 11 0 [(Ltl.mk 3 63 [])])])
  else if k = 5 then (Ltl.mk 6 0 [(Ltl.mk 10 0 [(eventL A)]), (Ltl.mk 10 0 [(eventL B)])])
  else if k = 6 then (Ltl.mk 6 0 [(Ltl.mk 4 0 [(Ltl.mk 10 0 [(eventL A)])]), (Ltl.mk 10 0 [(eventL B)])])
  else if k = 7 then (Ltl.mk 5 0 [(Ltl.mk 6 0 [(Ltl.mk 4 0 [(Ltl.mk 10 0 [(eventL A)])]), (Ltl.mk 10 0 [(eventL B)])]), (Ltl.mk 6 0 [(Ltl.mk 4 0 [(Ltl.mk 10 0 [(eventL B)])]), (Ltl.mk 10 0 [(eventL A)])])])
  else if k = 13 then (Ltl.mk 4 0 [(Ltl.mk 5 0 [(Ltl.mk 10 0 [(eventL A)]), (Ltl.mk 10 0 [(eventL B)])])])
  else if k = 8 then (respL A B)
  else if k = 9 then (precL A B)
  else if k = 10 then (Ltl.mk 5 0 [(respL A B), (precL A B)])
  else if k = 11 then (Ltl.mk 11 0 [(Ltl.mk 6 0 [(Ltl.mk 4 0 [(eventL A)]), (Ltl.mk 7 0 [(Ltl.mk 8 0 [(Ltl.mk 4 0 [(eventL A)]), (eventL B)])])])])
  else if k = 12 then (Ltl.mk 11 0 [(Ltl.mk 6 0 [(Ltl.mk 4 0 [(eventL A)]), (Ltl.mk 7 0 [(Ltl.mk 8 0 [(Ltl.mk 3 63 []), (eventL B)])])])])
  else (Ltl.mk 11 0 [(Ltl.mk 6 0 [(Ltl.mk 4 0 [(eventL A)]), (Ltl.mk 4 0 [(Ltl.mk 7 0 [(Ltl.mk 10 0 [(eventL B)])])])])])
set_option maxHeartbeats 2000000 in
theorem form_ok (w : World) (k A B c : Int) (hc : 1 ≤ k ∧ k ≤ 3 → 1 ≤ c ∧ c ≤ 3) : Rt Try.prog 54 [.agg [.int .i64 k, .int .i64 A, .int .i64 B, .int .i64 c].toArray].toArray w (Fresh w (declF k A B c)) := by
  refine Rt.enter1 Try.func54 Try.ntmps54 rfl rfl ?_
  (repeat (first | (apply WL.add; rfl; rfl; rfl; rfl; omega; omega) | (apply QL.add; rfl; rfl; rfl; rfl; omega; omega) | (apply WL.sub'; rfl; rfl; rfl; rfl; omega; omega) | (apply QL.sub'; rfl; rfl; rfl; rfl; omega; omega) | (apply WL.mul; rfl; rfl; rfl; rfl; omega; omega) | (apply QL.mul; rfl; rfl; rfl; rfl; omega; omega) | (apply WL.pure; rfl; rfl; rfl) | (apply QL.pure; rfl; rfl; rfl) | (apply WL.nil) | (apply EX.thenN) | (apply CW.seq) | (apply CW.region) | (apply WL.pass; rfl; rfl) | (apply QL.pass; rfl; rfl) | (apply WL.eqB; rfl; rfl; rfl; rfl) | (apply QL.eqB; rfl; rfl; rfl; rfl) | (apply WL.neB; rfl; rfl; rfl; rfl) | (apply QL.neB; rfl; rfl; rfl; rfl) | (apply WL.lenS; rfl; rfl; rfl) | (apply QL.lenS; rfl; rfl; rfl) | (apply WL.makeFunc; rfl; rfl; rfl; rfl) | (apply QL.makeFunc; rfl; rfl; rfl; rfl) | (apply WL.fa; rfl; rfl; rfl) | (apply QL.fa; rfl; rfl; rfl) | (apply WL.nck; rfl; rfl; rfl) | (apply QL.nck; rfl; rfl; rfl) | (apply WL.ld; rfl; rfl; rfl; assumption; rfl) | (apply QL.ld; rfl; rfl; rfl; assumption; rfl) | (apply WL.ldA; rfl; rfl; rfl; assumption; rfl) | (apply QL.ldA; rfl; rfl; rfl; assumption; rfl) | (apply CW.block) | (apply EX.inN) | (apply CW.condT; rfl) | (apply CW.condF; rfl) | (apply CW.exit) | (apply EX.thenX) | (apply EX.inX) | (apply EX.inXne; rfl) | (apply CW.ret) | (apply EX.thenR) | (apply EX.inR) | (apply CW.skip) | (refine WL.lenO rfl rfl rfl (by assumption) ?_) | (apply WL.isNil; rfl; rfl; rfl) | (apply CW.draw; exact mixed; kernel_rfl)))
  refine WL.boxB rfl rfl rfl fun w1 ht hE1 => ?_
  have hl0 := ht.lt
  refine WL.alloc rfl rfl (fun w2 hr hE2 => ?_)
  have hl1 := hr.lt
  have ht := ht.ext hE2
  have hE2 := hE1.trans hE2
  have hz1 := hE1.size
  (repeat (first | (apply WL.add; rfl; rfl; rfl; rfl; omega; omega) | (apply QL.add; rfl; rfl; rfl; rfl; omega; omega) | (apply WL.sub'; rfl; rfl; rfl; rfl; omega; omega) | (apply QL.sub'; rfl; rfl; rfl; rfl; omega; omega) | (apply WL.mul; rfl; rfl; rfl; rfl; omega; omega) | (apply QL.mul; rfl; rfl; rfl; rfl; omega; omega) | (apply WL.pure; rfl; rfl; rfl) | (apply QL.pure; rfl; rfl; rfl) | (apply WL.nil) | (apply EX.thenN) | (apply CW.seq) | (apply CW.region) | (apply WL.pass; rfl; rfl) | (apply QL.pass; rfl; rfl) | (apply WL.eqB; rfl; rfl; rfl; rfl) | (apply QL.eqB; rfl; rfl; rfl; rfl) | (apply WL.neB; rfl; rfl; rfl; rfl) | (apply QL.neB; rfl; rfl; rfl; rfl) | (apply WL.lenS; rfl; rfl; rfl) | (apply QL.lenS; rfl; rfl; rfl) | (apply WL.makeFunc; rfl; rfl; rfl; rfl) | (apply QL.makeFunc; rfl; rfl; rfl; rfl) | (apply WL.fa; rfl; rfl; rfl) | (apply QL.fa; rfl; rfl; rfl) | (apply WL.nck; rfl; rfl; rfl) | (apply QL.nck; rfl; rfl; rfl) | (apply WL.ld; rfl; rfl; rfl; assumption; rfl) | (apply QL.ld; rfl; rfl; rfl; assumption; rfl) | (apply WL.ldA; rfl; rfl; rfl; assumption; rfl) | (apply QL.ldA; rfl; rfl; rfl; assumption; rfl) | (apply CW.block) | (apply EX.inN) | (apply CW.condT; rfl) | (apply CW.condF; rfl) | (apply CW.exit) | (apply EX.thenX) | (apply EX.inX) | (apply EX.inXne; rfl) | (apply CW.ret) | (apply EX.thenR) | (apply EX.inR) | (apply CW.skip) | (refine WL.lenO rfl rfl rfl (by assumption) ?_) | (apply WL.isNil; rfl; rfl; rfl) | (apply CW.draw; exact mixed; kernel_rfl)))
  refine WL.alloc rfl rfl (fun w3 ha hE3 => ?_)
  refine WL.st rfl rfl rfl ha rfl rfl (ones_of rfl) (fun w4 ha hg4 => ?_)
  have e4 : Ext w2 w4 := hE3.grown hg4 hE3.size (fun g hg => by cases hg; exact Nat.le_refl _)
  have hl2 := ha.lt
  have ht := ht.ext e4
  have hr := hr.ext e4
  have hE4 := hE2.trans e4
  (repeat (first | (apply WL.add; rfl; rfl; rfl; rfl; omega; omega) | (apply QL.add; rfl; rfl; rfl; rfl; omega; omega) | (apply WL.sub'; rfl; rfl; rfl; rfl; omega; omega) | (apply QL.sub'; rfl; rfl; rfl; rfl; omega; omega) | (apply WL.mul; rfl; rfl; rfl; rfl; omega; omega) | (apply QL.mul; rfl; rfl; rfl; rfl; omega; omega) | (apply WL.pure; rfl; rfl; rfl) | (apply QL.pure; rfl; rfl; rfl) | (apply WL.nil) | (apply EX.thenN) | (apply CW.seq) | (apply CW.region) | (apply WL.pass; rfl; rfl) | (apply QL.pass; rfl; rfl) | (apply WL.eqB; rfl; rfl; rfl; rfl) | (apply QL.eqB; rfl; rfl; rfl; rfl) | (apply WL.neB; rfl; rfl; rfl; rfl) | (apply QL.neB; rfl; rfl; rfl; rfl) | (apply WL.lenS; rfl; rfl; rfl) | (apply QL.lenS; rfl; rfl; rfl) | (apply WL.makeFunc; rfl; rfl; rfl; rfl) | (apply QL.makeFunc; rfl; rfl; rfl; rfl) | (apply WL.fa; rfl; rfl; rfl) | (apply QL.fa; rfl; rfl; rfl) | (apply WL.nck; rfl; rfl; rfl) | (apply QL.nck; rfl; rfl; rfl) | (apply WL.ld; rfl; rfl; rfl; assumption; rfl) | (apply QL.ld; rfl; rfl; rfl; assumption; rfl) | (apply WL.ldA; rfl; rfl; rfl; assumption; rfl) | (apply QL.ldA; rfl; rfl; rfl; assumption; rfl) | (apply CW.block) | (apply EX.inN) | (apply CW.condT; rfl) | (apply CW.condF; rfl) | (apply CW.exit) | (apply EX.thenX) | (apply EX.inX) | (apply EX.inXne; rfl) | (apply CW.ret) | (apply EX.thenR) | (apply EX.inR) | (apply CW.skip) | (refine WL.lenO rfl rfl rfl (by assumption) ?_) | (apply WL.isNil; rfl; rfl; rfl) | (apply CW.draw; exact mixed; kernel_rfl)))
  refine WL.alloc rfl rfl (fun w5 hb hE5 => ?_)
  refine WL.st rfl rfl rfl hb rfl rfl (ones_of rfl) (fun w6 hb hg6 => ?_)
  have e6 : Ext w4 w6 := hE5.grown hg6 hE5.size (fun g hg => by cases hg; exact Nat.le_refl _)
  have hl4 := hb.lt
  have ht := ht.ext e6
  have hr := hr.ext e6
  have ha := ha.ext e6
  have hE6 := hE4.trans e6
  have hz2 := hE2.size
  have hz4 := e4.size
  have hz6 := e6.size
  have hC : Clo w6 w.heap.size w2.heap.size w4.heap.size A B := ⟨⟨k, c, ht⟩, ha, hb⟩
  clear hE1 hE2 hE3 hE4 hE5 hg4 hg6 e4 e6
  unfold declF
  by_cases h1 : k = 1
  · subst h1
    obtain ⟨c', rfl⟩ : ∃ c' : Nat, c = ((c' + 1 : Nat) : Int) := ⟨(c - 1).toNat, by omega⟩
    have hc' : c' ≤ 2 := by omega
    rw [show (((c' + 1 : Nat) : Int)).toNat - 1 = c' by omega]
    (repeat (first | (apply WL.add; rfl; rfl; rfl; rfl; omega; omega) | (apply QL.add; rfl; rfl; rfl; rfl; omega; omega) | (apply WL.sub'; rfl; rfl; rfl; rfl; omega; omega) | (apply QL.sub'; rfl; rfl; rfl; rfl; omega; omega) | (apply WL.mul; rfl; rfl; rfl; rfl; omega; omega) | (apply QL.mul; rfl; rfl; rfl; rfl; omega; omega) | (apply WL.pure; rfl; rfl; rfl) | (apply QL.pure; rfl; rfl; rfl) | (apply WL.nil) | (apply EX.thenN) | (apply CW.seq) | (apply CW.region) | (apply WL.pass; rfl; rfl) | (apply QL.pass; rfl; rfl) | (apply WL.eqB; rfl; rfl; rfl; rfl) | (apply QL.eqB; rfl; rfl; rfl; rfl) | (apply WL.neB; rfl; rfl; rfl; rfl) | (apply QL.neB; rfl; rfl; rfl; rfl) | (apply WL.lenS; rfl; rfl; rfl) | (apply QL.lenS; rfl; rfl; rfl) | (apply WL.makeFunc; rfl; rfl; rfl; rfl) | (apply QL.makeFunc; rfl; rfl; rfl; rfl) | (apply WL.fa; rfl; rfl; rfl) | (apply QL.fa; rfl; rfl; rfl) | (apply WL.nck; rfl; rfl; rfl) | (apply QL.nck; rfl; rfl; rfl) | (apply WL.ld; rfl; rfl; rfl; assumption; rfl) | (apply QL.ld; rfl; rfl; rfl; assumption; rfl) | (apply WL.ldA; rfl; rfl; rfl; assumption; rfl) | (apply QL.ldA; rfl; rfl; rfl; assumption; rfl) | (apply CW.block) | (apply EX.inN) | (apply CW.condT; rfl) | (apply CW.condF; rfl) | (apply CW.exit) | (apply EX.thenX) | (apply EX.inX) | (apply EX.inXne; rfl) | (apply CW.ret) | (apply EX.thenR) | (apply EX.inR) | (apply CW.skip) | (refine WL.lenO rfl rfl rfl (by assumption) ?_) | (apply WL.isNil; rfl; rfl; rfl)))
    have hBw : w6.heap.size ≤ w6.heap.size := by omega
    have hE := hE6
    (repeat (first | (apply WL.add; rfl; rfl; rfl; rfl; omega; omega) | (apply QL.add; rfl; rfl; rfl; rfl; omega; omega) | (apply WL.sub'; rfl; rfl; rfl; rfl; omega; omega) | (apply QL.sub'; rfl; rfl; rfl; rfl; omega; omega) | (apply WL.mul; rfl; rfl; rfl; rfl; omega; omega) | (apply QL.mul; rfl; rfl; rfl; rfl; omega; omega) | (apply WL.pure; rfl; rfl; rfl) | (apply QL.pure; rfl; rfl; rfl) | (apply WL.nil) | (apply EX.thenN) | (apply CW.seq) | (apply CW.region) | (apply WL.pass; rfl; rfl) | (apply QL.pass; rfl; rfl) | (apply WL.eqB; rfl; rfl; rfl; rfl) | (apply QL.eqB; rfl; rfl; rfl; rfl) | (apply WL.neB; rfl; rfl; rfl; rfl) | (apply QL.neB; rfl; rfl; rfl; rfl) | (apply WL.lenS; rfl; rfl; rfl) | (apply QL.lenS; rfl; rfl; rfl) | (apply WL.makeFunc; rfl; rfl; rfl; rfl) | (apply QL.makeFunc; rfl; rfl; rfl; rfl) | (apply WL.fa; rfl; rfl; rfl) | (apply QL.fa; rfl; rfl; rfl) | (apply WL.nck; rfl; rfl; rfl) | (apply QL.nck; rfl; rfl; rfl) | (apply WL.ld; rfl; rfl; rfl; assumption; rfl) | (apply QL.ld; rfl; rfl; rfl; assumption; rfl) | (apply WL.ldA; rfl; rfl; rfl; assumption; rfl) | (apply QL.ldA; rfl; rfl; rfl; assumption; rfl) | (apply CW.block) | (apply EX.inN) | (apply CW.condT; rfl) | (apply CW.condF; rfl) | (apply CW.exit) | (apply EX.thenX) | (apply EX.inX) | (apply EX.inXne; rfl) | (apply CW.ret) | (apply EX.thenR) | (apply EX.inR) | (apply CW.skip) | (refine WL.lenO rfl rfl rfl (by assumption) ?_) | (apply WL.isNil; rfl; rfl; rfl) | (apply CW.draw; exact mixed; kernel_rfl)))
    refine WL.call rfl rfl rfl ((many_ok A c' (by omega) w6).low hBw) ?_
    rintro v19 y1 ⟨g19, ey1⟩
    have hC := hC.ext ey1
    have hr := hr.ext ey1
    have ht := ht.ext ey1
    have ha := ha.ext ey1
    have hb := hb.ext ey1
    have hE := hE.trans ey1
    have hBw : w6.heap.size ≤ y1.heap.size := Nat.le_trans hBw ey1.size
    obtain ⟨uo, uc, rfl, hku⟩ := Rd.ltl g19
    refine WL.st rfl rfl rfl hr rfl rfl (ones_of rfl) (fun z hz hgz => ?_)
    (repeat (first | (apply WL.add; rfl; rfl; rfl; rfl; omega; omega) | (apply QL.add; rfl; rfl; rfl; rfl; omega; omega) | (apply WL.sub'; rfl; rfl; rfl; rfl; omega; omega) | (apply QL.sub'; rfl; rfl; rfl; rfl; omega; omega) | (apply WL.mul; rfl; rfl; rfl; rfl; omega; omega) | (apply QL.mul; rfl; rfl; rfl; rfl; omega; omega) | (apply WL.pure; rfl; rfl; rfl) | (apply QL.pure; rfl; rfl; rfl) | (apply WL.nil) | (apply EX.thenN) | (apply CW.seq) | (apply CW.region) | (apply WL.pass; rfl; rfl) | (apply QL.pass; rfl; rfl) | (apply WL.eqB; rfl; rfl; rfl; rfl) | (apply QL.eqB; rfl; rfl; rfl; rfl) | (apply WL.neB; rfl; rfl; rfl; rfl) | (apply QL.neB; rfl; rfl; rfl; rfl) | (apply WL.lenS; rfl; rfl; rfl) | (apply QL.lenS; rfl; rfl; rfl) | (apply WL.makeFunc; rfl; rfl; rfl; rfl) | (apply QL.makeFunc; rfl; rfl; rfl; rfl) | (apply WL.fa; rfl; rfl; rfl) | (apply QL.fa; rfl; rfl; rfl) | (apply WL.nck; rfl; rfl; rfl) | (apply QL.nck; rfl; rfl; rfl) | (apply WL.ld; rfl; rfl; rfl; assumption; rfl) | (apply QL.ld; rfl; rfl; rfl; assumption; rfl) | (apply WL.ldA; rfl; rfl; rfl; assumption; rfl) | (apply QL.ldA; rfl; rfl; rfl; assumption; rfl) | (apply CW.block) | (apply EX.inN) | (apply CW.condT; rfl) | (apply CW.condF; rfl) | (apply CW.exit) | (apply EX.thenX) | (apply EX.inX) | (apply EX.inXne; rfl) | (apply CW.ret) | (apply EX.thenR) | (apply EX.inR) | (apply CW.skip) | (refine WL.lenO rfl rfl rfl (by assumption) ?_) | (apply WL.isNil; rfl; rfl; rfl) | (apply CW.draw; exact mixed; kernel_rfl)))
    exact EX.retC rfl rfl hz rfl ⟨(g19.st hgz (by omega)).low (by omega), ret_size hE hgz (by omega)⟩
  by_cases h2 : k = 2
  · subst h2
    obtain ⟨c', rfl⟩ : ∃ c' : Nat, c = ((c' + 1 : Nat) : Int) := ⟨(c - 1).toNat, by omega⟩
    have hc' : c' ≤ 2 := by omega
    rw [show (((c' + 1 : Nat) : Int)).toNat - 1 = c' by omega]
    (repeat (first | (apply WL.add; rfl; rfl; rfl; rfl; omega; omega) | (apply QL.add; rfl; rfl; rfl; rfl; omega; omega) | (apply WL.sub'; rfl; rfl; rfl; rfl; omega; omega) | (apply QL.sub'; rfl; rfl; rfl; rfl; omega; omega) | (apply WL.mul; rfl; rfl; rfl; rfl; omega; omega) | (apply QL.mul; rfl; rfl; rfl; rfl; omega; omega) | (apply WL.pure; rfl; rfl; rfl) | (apply QL.pure; rfl; rfl; rfl) | (apply WL.nil) | (apply EX.thenN) | (apply CW.seq) | (apply CW.region) | (apply WL.pass; rfl; rfl) | (apply QL.pass; rfl; rfl) | (apply WL.eqB; rfl; rfl; rfl; rfl) | (apply QL.eqB; rfl; rfl; rfl; rfl) | (apply WL.neB; rfl; rfl; rfl; rfl) | (apply QL.neB; rfl; rfl; rfl; rfl) | (apply WL.lenS; rfl; rfl; rfl) | (apply QL.lenS; rfl; rfl; rfl) | (apply WL.makeFunc; rfl; rfl; rfl; rfl) | (apply QL.makeFunc; rfl; rfl; rfl; rfl) | (apply WL.fa; rfl; rfl; rfl) | (apply QL.fa; rfl; rfl; rfl) | (apply WL.nck; rfl; rfl; rfl) | (apply QL.nck; rfl; rfl; rfl) | (apply WL.ld; rfl; rfl; rfl; assumption; rfl) | (apply QL.ld; rfl; rfl; rfl; assumption; rfl) | (apply WL.ldA; rfl; rfl; rfl; assumption; rfl) | (apply QL.ldA; rfl; rfl; rfl; assumption; rfl) | (apply CW.block) | (apply EX.inN) | (apply CW.condT; rfl) | (apply CW.condF; rfl) | (apply CW.exit) | (apply EX.thenX) | (apply EX.inX) | (apply EX.inXne; rfl) | (apply CW.ret) | (apply EX.thenR) | (apply EX.inR) | (apply CW.skip) | (refine WL.lenO rfl rfl rfl (by assumption) ?_) | (apply WL.isNil; rfl; rfl; rfl)))
    have hBw : w6.heap.size ≤ w6.heap.size := by omega
    have hE := hE6
    (repeat (first | (apply WL.add; rfl; rfl; rfl; rfl; omega; omega) | (apply QL.add; rfl; rfl; rfl; rfl; omega; omega) | (apply WL.sub'; rfl; rfl; rfl; rfl; omega; omega) | (apply QL.sub'; rfl; rfl; rfl; rfl; omega; omega) | (apply WL.mul; rfl; rfl; rfl; rfl; omega; omega) | (apply QL.mul; rfl; rfl; rfl; rfl; omega; omega) | (apply WL.pure; rfl; rfl; rfl) | (apply QL.pure; rfl; rfl; rfl) | (apply WL.nil) | (apply EX.thenN) | (apply CW.seq) | (apply CW.region) | (apply WL.pass; rfl; rfl) | (apply QL.pass; rfl; rfl) | (apply WL.eqB; rfl; rfl; rfl; rfl) | (apply QL.eqB; rfl; rfl; rfl; rfl) | (apply WL.neB; rfl; rfl; rfl; rfl) | (apply QL.neB; rfl; rfl; rfl; rfl) | (apply WL.lenS; rfl; rfl; rfl) | (apply QL.lenS; rfl; rfl; rfl) | (apply WL.makeFunc; rfl; rfl; rfl; rfl) | (apply QL.makeFunc; rfl; rfl; rfl; rfl) | (apply WL.fa; rfl; rfl; rfl) | (apply QL.fa; rfl; rfl; rfl) | (apply WL.nck; rfl; rfl; rfl) | (apply QL.nck; rfl; rfl; rfl) | (apply WL.ld; rfl; rfl; rfl; assumption; rfl) | (apply QL.ld; rfl; rfl; rfl; assumption; rfl) | (apply WL.ldA; rfl; rfl; rfl; assumption; rfl) | (apply QL.ldA; rfl; rfl; rfl; assumption; rfl) | (apply CW.block) | (apply EX.inN) | (apply CW.condT; rfl) | (apply CW.condF; rfl) | (apply CW.exit) | (apply EX.thenX) | (apply EX.inX) | (apply EX.inXne; rfl) | (apply CW.ret) | (apply EX.thenR) | (apply EX.inR) | (apply CW.skip) | (refine WL.lenO rfl rfl rfl (by assumption) ?_) | (apply WL.isNil; rfl; rfl; rfl) | (apply CW.draw; exact mixed; kernel_rfl)))
    refine WL.call rfl rfl rfl ((many_ok A c' (by omega) w6).low hBw) ?_
    rintro v26 y1 ⟨g26, ey1⟩
    have hC := hC.ext ey1
    have hr := hr.ext ey1
    have ht := ht.ext ey1
    have ha := ha.ext ey1
    have hb := hb.ext ey1
    have hE := hE.trans ey1
    have hBw : w6.heap.size ≤ y1.heap.size := Nat.le_trans hBw ey1.size
    refine WL.call rfl rfl rfl (dc_notG y1 hBw g26) ?_
    rintro v27 y2 ⟨g27, ey2⟩
    have hC := hC.ext ey2
    have g26 := g26.ext ey2
    have hr := hr.ext ey2
    have ht := ht.ext ey2
    have ha := ha.ext ey2
    have hb := hb.ext ey2
    have hE := hE.trans ey2
    have hBw : w6.heap.size ≤ y2.heap.size := Nat.le_trans hBw ey2.size
    obtain ⟨uo, uc, rfl, hku⟩ := Rd.ltl g27
    refine WL.st rfl rfl rfl hr rfl rfl (ones_of rfl) (fun z hz hgz => ?_)
    (repeat (first | (apply WL.add; rfl; rfl; rfl; rfl; omega; omega) | (apply QL.add; rfl; rfl; rfl; rfl; omega; omega) | (apply WL.sub'; rfl; rfl; rfl; rfl; omega; omega) | (apply QL.sub'; rfl; rfl; rfl; rfl; omega; omega) | (apply WL.mul; rfl; rfl; rfl; rfl; omega; omega) | (apply QL.mul; rfl; rfl; rfl; rfl; omega; omega) | (apply WL.pure; rfl; rfl; rfl) | (apply QL.pure; rfl; rfl; rfl) | (apply WL.nil) | (apply EX.thenN) | (apply CW.seq) | (apply CW.region) | (apply WL.pass; rfl; rfl) | (apply QL.pass; rfl; rfl) | (apply WL.eqB; rfl; rfl; rfl; rfl) | (apply QL.eqB; rfl; rfl; rfl; rfl) | (apply WL.neB; rfl; rfl; rfl; rfl) | (apply QL.neB; rfl; rfl; rfl; rfl) | (apply WL.lenS; rfl; rfl; rfl) | (apply QL.lenS; rfl; rfl; rfl) | (apply WL.makeFunc; rfl; rfl; rfl; rfl) | (apply QL.makeFunc; rfl; rfl; rfl; rfl) | (apply WL.fa; rfl; rfl; rfl) | (apply QL.fa; rfl; rfl; rfl) | (apply WL.nck; rfl; rfl; rfl) | (apply QL.nck; rfl; rfl; rfl) | (apply WL.ld; rfl; rfl; rfl; assumption; rfl) | (apply QL.ld; rfl; rfl; rfl; assumption; rfl) | (apply WL.ldA; rfl; rfl; rfl; assumption; rfl) | (apply QL.ldA; rfl; rfl; rfl; assumption; rfl) | (apply CW.block) | (apply EX.inN) | (apply CW.condT; rfl) | (apply CW.condF; rfl) | (apply CW.exit) | (apply EX.thenX) | (apply EX.inX) | (apply EX.inXne; rfl) | (apply CW.ret) | (apply EX.thenR) | (apply EX.inR) | (apply CW.skip) | (refine WL.lenO rfl rfl rfl (by assumption) ?_) | (apply WL.isNil; rfl; rfl; rfl) | (apply CW.draw; exact mixed; kernel_rfl)))
    exact EX.retC rfl rfl hz rfl ⟨(g27.st hgz (by omega)).low (by omega), ret_size hE hgz (by omega)⟩
  by_cases h3 : k = 3
  · subst h3
    obtain ⟨c', rfl⟩ : ∃ c' : Nat, c = ((c' + 1 : Nat) : Int) := ⟨(c - 1).toNat, by omega⟩
    have hc' : c' ≤ 2 := by omega
    rw [show (((c' + 1 : Nat) : Int)).toNat - 1 = c' by omega]
    rw [show (((c' + 1 : Nat) : Int)).toNat = c' + 1 by omega]
    (repeat (first | (apply WL.add; rfl; rfl; rfl; rfl; omega; omega) | (apply QL.add; rfl; rfl; rfl; rfl; omega; omega) | (apply WL.sub'; rfl; rfl; rfl; rfl; omega; omega) | (apply QL.sub'; rfl; rfl; rfl; rfl; omega; omega) | (apply WL.mul; rfl; rfl; rfl; rfl; omega; omega) | (apply QL.mul; rfl; rfl; rfl; rfl; omega; omega) | (apply WL.pure; rfl; rfl; rfl) | (apply QL.pure; rfl; rfl; rfl) | (apply WL.nil) | (apply EX.thenN) | (apply CW.seq) | (apply CW.region) | (apply WL.pass; rfl; rfl) | (apply QL.pass; rfl; rfl) | (apply WL.eqB; rfl; rfl; rfl; rfl) | (apply QL.eqB; rfl; rfl; rfl; rfl) | (apply WL.neB; rfl; rfl; rfl; rfl) | (apply QL.neB; rfl; rfl; rfl; rfl) | (apply WL.lenS; rfl; rfl; rfl) | (apply QL.lenS; rfl; rfl; rfl) | (apply WL.makeFunc; rfl; rfl; rfl; rfl) | (apply QL.makeFunc; rfl; rfl; rfl; rfl) | (apply WL.fa; rfl; rfl; rfl) | (apply QL.fa; rfl; rfl; rfl) | (apply WL.nck; rfl; rfl; rfl) | (apply QL.nck; rfl; rfl; rfl) | (apply WL.ld; rfl; rfl; rfl; assumption; rfl) | (apply QL.ld; rfl; rfl; rfl; assumption; rfl) | (apply WL.ldA; rfl; rfl; rfl; assumption; rfl) | (apply QL.ldA; rfl; rfl; rfl; assumption; rfl) | (apply CW.block) | (apply EX.inN) | (apply CW.condT; rfl) | (apply CW.condF; rfl) | (apply CW.exit) | (apply EX.thenX) | (apply EX.inX) | (apply EX.inXne; rfl) | (apply CW.ret) | (apply EX.thenR) | (apply EX.inR) | (apply CW.skip) | (refine WL.lenO rfl rfl rfl (by assumption) ?_) | (apply WL.isNil; rfl; rfl; rfl)))
    have ed := Ext.drew w6
    have hC := hC.ext ed
    have hr := hr.ext ed
    have hrlt := hr.lt
    have ht := ht.ext ed
    have htlt := ht.lt
    have ha := ha.ext ed
    have halt := ha.lt
    have hb := hb.ext ed
    have hblt := hb.lt
    have hE := hE6.trans ed
    have htK : ∀ x, (fun x : World => SO w1.heap.size (drew w6) x) x → x.heap[w.heap.size]? = (drew w6).heap[w.heap.size]? := fun x hx => hx.2 _ (by omega) htlt
    have haK : ∀ x, (fun x : World => SO w1.heap.size (drew w6) x) x → x.heap[w2.heap.size]? = (drew w6).heap[w2.heap.size]? := fun x hx => hx.2 _ (by omega) halt
    have hbK : ∀ x, (fun x : World => SO w1.heap.size (drew w6) x) x → x.heap[w4.heap.size]? = (drew w6).heap[w4.heap.size]? := fun x hx => hx.2 _ (by omega) hblt
    (repeat (first | (apply WL.add; rfl; rfl; rfl; rfl; omega; omega) | (apply QL.add; rfl; rfl; rfl; rfl; omega; omega) | (apply WL.sub'; rfl; rfl; rfl; rfl; omega; omega) | (apply QL.sub'; rfl; rfl; rfl; rfl; omega; omega) | (apply WL.mul; rfl; rfl; rfl; rfl; omega; omega) | (apply QL.mul; rfl; rfl; rfl; rfl; omega; omega) | (apply WL.pure; rfl; rfl; rfl) | (apply QL.pure; rfl; rfl; rfl) | (apply WL.nil) | (apply EX.thenN) | (apply CW.seq) | (apply CW.region) | (apply WL.pass; rfl; rfl) | (apply QL.pass; rfl; rfl) | (apply WL.eqB; rfl; rfl; rfl; rfl) | (apply QL.eqB; rfl; rfl; rfl; rfl) | (apply WL.neB; rfl; rfl; rfl; rfl) | (apply QL.neB; rfl; rfl; rfl; rfl) | (apply WL.lenS; rfl; rfl; rfl) | (apply QL.lenS; rfl; rfl; rfl) | (apply WL.makeFunc; rfl; rfl; rfl; rfl) | (apply QL.makeFunc; rfl; rfl; rfl; rfl) | (apply WL.fa; rfl; rfl; rfl) | (apply QL.fa; rfl; rfl; rfl) | (apply WL.nck; rfl; rfl; rfl) | (apply QL.nck; rfl; rfl; rfl) | (apply WL.ld; rfl; rfl; rfl; assumption; rfl) | (apply QL.ld; rfl; rfl; rfl; assumption; rfl) | (apply WL.ldA; rfl; rfl; rfl; assumption; rfl) | (apply QL.ldA; rfl; rfl; rfl; assumption; rfl) | (apply CW.block) | (apply EX.inN) | (apply CW.condT; rfl) | (apply CW.condF; rfl) | (apply CW.exit) | (apply EX.thenX) | (apply EX.inX) | (apply EX.inXne; rfl) | (apply CW.ret) | (apply EX.thenR) | (apply EX.inR) | (apply CW.skip) | (refine WL.lenO rfl rfl rfl (by assumption) ?_) | (apply WL.isNil; rfl; rfl; rfl)))
    refine CW.drawH (fun x : World => SO w1.heap.size (drew w6) x) [(0, true), (1, true), (2, true), (3, true), (5, true), (6, true), (7, true), (8, true), (9, true), (4, false), (10, false), (11, false), (12, false), (13, false)] mixed (by kernel_rfl) (SO.refl _ _) ?_
    have hS : SO w1.heap.size (drew w6) (drew w6) := SO.refl _ _
    have hBw : w6.heap.size ≤ (drew w6).heap.size := by have := ed.size; omega
    (repeat (first | (apply HL.add; rfl; rfl; rfl; rfl; rfl; omega; omega) | (apply HL.sub'; rfl; rfl; rfl; rfl; rfl; omega; omega) | (apply HL.pure; rfl; rfl; rfl; rfl) | (apply HL.pass; rfl; rfl; rfl) | (refine HL.fa rfl rfl rfl rfl ?_) | (apply HL.nck; rfl; rfl; rfl; rfl) | (refine HL.ld (by assumption) rfl rfl rfl rfl (by assumption) rfl ?_) | (refine HL.ldK (by assumption) rfl rfl rfl rfl (by assumption) rfl ?_) | (refine HL.ldA (by assumption) rfl rfl rfl rfl (by assumption) rfl ?_) | (refine HL.lenS rfl rfl rfl rfl ?_) | (refine HL.eqB rfl rfl rfl rfl rfl ?_) | (refine HL.neB rfl rfl rfl rfl rfl ?_) | (refine HL.build rfl rfl rfl rfl rfl ?_) | (apply HL.makeFunc; rfl; rfl; rfl; rfl; rfl) | (apply HL.nil)))
    refine HL.mut rfl (WL.call rfl rfl rfl ((many_ok A c' (by omega) (drew w6)).low hBw) ?_)
    rintro v34 y1 ⟨g34, ey1⟩
    have hC := hC.ext ey1
    have hr := hr.ext ey1
    have ht := ht.ext ey1
    have ha := ha.ext ey1
    have hb := hb.ext ey1
    have hE := hE.trans ey1
    have hBw : w6.heap.size ≤ y1.heap.size := Nat.le_trans hBw ey1.size
    have hS := hS.ext ey1
    refine WL.nil (EX.mut hS ?_)
    refine HL.mut rfl (WL.call rfl rfl rfl ((many_ok A (c' + 1) (by omega) y1).low hBw) ?_)
    rintro v40 y2 ⟨g40, ey2⟩
    have hC := hC.ext ey2
    have g34 := g34.ext ey2
    have hr := hr.ext ey2
    have ht := ht.ext ey2
    have ha := ha.ext ey2
    have hb := hb.ext ey2
    have hE := hE.trans ey2
    have hBw : w6.heap.size ≤ y2.heap.size := Nat.le_trans hBw ey2.size
    have hS := hS.ext ey2
    refine WL.nil (EX.mut hS ?_)
    refine HL.mut rfl (WL.call rfl rfl rfl (dc_notG y2 hBw g40) ?_)
    rintro v41 y3 ⟨g41, ey3⟩
    have hC := hC.ext ey3
    have g34 := g34.ext ey3
    have g40 := g40.ext ey3
    have hr := hr.ext ey3
    have ht := ht.ext ey3
    have ha := ha.ext ey3
    have hb := hb.ext ey3
    have hE := hE.trans ey3
    have hBw : w6.heap.size ≤ y3.heap.size := Nat.le_trans hBw ey3.size
    have hS := hS.ext ey3
    refine WL.nil (EX.mut hS ?_)
    refine HL.mut rfl (WL.call rfl rfl rfl (dc_andG y3 hBw g34 g41) ?_)
    rintro v42 y4 ⟨g42, ey4⟩
    have hC := hC.ext ey4
    have g34 := g34.ext ey4
    have g40 := g40.ext ey4
    have g41 := g41.ext ey4
    have hr := hr.ext ey4
    have ht := ht.ext ey4
    have ha := ha.ext ey4
    have hb := hb.ext ey4
    have hE := hE.trans ey4
    have hBw : w6.heap.size ≤ y4.heap.size := Nat.le_trans hBw ey4.size
    have hS := hS.ext ey4
    refine WL.nil (EX.mut hS ?_)
    obtain ⟨uo, uc, rfl, hku⟩ := Rd.ltl g42
    refine HL.mut rfl (WL.st rfl rfl rfl hr rfl rfl (ones_of rfl) (fun z hz hgz => ?_))
    refine WL.nil (EX.mut (hS.st hgz) (HL.nil ?_))
    (repeat (first | (apply WL.add; rfl; rfl; rfl; rfl; omega; omega) | (apply QL.add; rfl; rfl; rfl; rfl; omega; omega) | (apply WL.sub'; rfl; rfl; rfl; rfl; omega; omega) | (apply QL.sub'; rfl; rfl; rfl; rfl; omega; omega) | (apply WL.mul; rfl; rfl; rfl; rfl; omega; omega) | (apply QL.mul; rfl; rfl; rfl; rfl; omega; omega) | (apply WL.pure; rfl; rfl; rfl) | (apply QL.pure; rfl; rfl; rfl) | (apply WL.nil) | (apply EX.thenN) | (apply CW.seq) | (apply CW.region) | (apply WL.pass; rfl; rfl) | (apply QL.pass; rfl; rfl) | (apply WL.eqB; rfl; rfl; rfl; rfl) | (apply QL.eqB; rfl; rfl; rfl; rfl) | (apply WL.neB; rfl; rfl; rfl; rfl) | (apply QL.neB; rfl; rfl; rfl; rfl) | (apply WL.lenS; rfl; rfl; rfl) | (apply QL.lenS; rfl; rfl; rfl) | (apply WL.makeFunc; rfl; rfl; rfl; rfl) | (apply QL.makeFunc; rfl; rfl; rfl; rfl) | (apply WL.fa; rfl; rfl; rfl) | (apply QL.fa; rfl; rfl; rfl) | (apply WL.nck; rfl; rfl; rfl) | (apply QL.nck; rfl; rfl; rfl) | (apply WL.ld; rfl; rfl; rfl; assumption; rfl) | (apply QL.ld; rfl; rfl; rfl; assumption; rfl) | (apply WL.ldA; rfl; rfl; rfl; assumption; rfl) | (apply QL.ldA; rfl; rfl; rfl; assumption; rfl) | (apply CW.block) | (apply EX.inN) | (apply CW.condT; rfl) | (apply CW.condF; rfl) | (apply CW.exit) | (apply EX.thenX) | (apply EX.inX) | (apply EX.inXne; rfl) | (apply CW.ret) | (apply EX.thenR) | (apply EX.inR) | (apply CW.skip) | (refine WL.lenO rfl rfl rfl (by assumption) ?_) | (apply WL.isNil; rfl; rfl; rfl) | (apply CW.draw; exact mixed; kernel_rfl)))
    exact EX.retC rfl rfl hz rfl ⟨(g42.st hgz (by omega)).low (by omega), ret_size hE hgz (by omega)⟩
  by_cases h4 : k = 4
  · subst h4
    (repeat (first | (apply WL.add; rfl; rfl; rfl; rfl; omega; omega) | (apply QL.add; rfl; rfl; rfl; rfl; omega; omega) | (apply WL.sub'; rfl; rfl; rfl; rfl; omega; omega) | (apply QL.sub'; rfl; rfl; rfl; rfl; omega; omega) | (apply WL.mul; rfl; rfl; rfl; rfl; omega; omega) | (apply QL.mul; rfl; rfl; rfl; rfl; omega; omega) | (apply WL.pure; rfl; rfl; rfl) | (apply QL.pure; rfl; rfl; rfl) | (apply WL.nil) | (apply EX.thenN) | (apply CW.seq) | (apply CW.region) | (apply WL.pass; rfl; rfl) | (apply QL.pass; rfl; rfl) | (apply WL.eqB; rfl; rfl; rfl; rfl) | (apply QL.eqB; rfl; rfl; rfl; rfl) | (apply WL.neB; rfl; rfl; rfl; rfl) | (apply QL.neB; rfl; rfl; rfl; rfl) | (apply WL.lenS; rfl; rfl; rfl) | (apply QL.lenS; rfl; rfl; rfl) | (apply WL.makeFunc; rfl; rfl; rfl; rfl) | (apply QL.makeFunc; rfl; rfl; rfl; rfl) | (apply WL.fa; rfl; rfl; rfl) | (apply QL.fa; rfl; rfl; rfl) | (apply WL.nck; rfl; rfl; rfl) | (apply QL.nck; rfl; rfl; rfl) | (apply WL.ld; rfl; rfl; rfl; assumption; rfl) | (apply QL.ld; rfl; rfl; rfl; assumption; rfl) | (apply WL.ldA; rfl; rfl; rfl; assumption; rfl) | (apply QL.ldA; rfl; rfl; rfl; assumption; rfl) | (apply CW.block) | (apply EX.inN) | (apply CW.condT; rfl) | (apply CW.condF; rfl) | (apply CW.exit) | (apply EX.thenX) | (apply EX.inX) | (apply EX.inXne; rfl) | (apply CW.ret) | (apply EX.thenR) | (apply EX.inR) | (apply CW.skip) | (refine WL.lenO rfl rfl rfl (by assumption) ?_) | (apply WL.isNil; rfl; rfl; rfl)))
    have ed := Ext.drew w6
    have hC := hC.ext ed
    have hr := hr.ext ed
    have hrlt := hr.lt
    have ht := ht.ext ed
    have htlt := ht.lt
    have ha := ha.ext ed
    have halt := ha.lt
    have hb := hb.ext ed
    have hblt := hb.lt
    have hE := hE6.trans ed
    have htK : ∀ x, (fun x : World => SO w1.heap.size (drew w6) x) x → x.heap[w.heap.size]? = (drew w6).heap[w.heap.size]? := fun x hx => hx.2 _ (by omega) htlt
    have haK : ∀ x, (fun x : World => SO w1.heap.size (drew w6) x) x → x.heap[w2.heap.size]? = (drew w6).heap[w2.heap.size]? := fun x hx => hx.2 _ (by omega) halt
    have hbK : ∀ x, (fun x : World => SO w1.heap.size (drew w6) x) x → x.heap[w4.heap.size]? = (drew w6).heap[w4.heap.size]? := fun x hx => hx.2 _ (by omega) hblt
    (repeat (first | (apply WL.add; rfl; rfl; rfl; rfl; omega; omega) | (apply QL.add; rfl; rfl; rfl; rfl; omega; omega) | (apply WL.sub'; rfl; rfl; rfl; rfl; omega; omega) | (apply QL.sub'; rfl; rfl; rfl; rfl; omega; omega) | (apply WL.mul; rfl; rfl; rfl; rfl; omega; omega) | (apply QL.mul; rfl; rfl; rfl; rfl; omega; omega) | (apply WL.pure; rfl; rfl; rfl) | (apply QL.pure; rfl; rfl; rfl) | (apply WL.nil) | (apply EX.thenN) | (apply CW.seq) | (apply CW.region) | (apply WL.pass; rfl; rfl) | (apply QL.pass; rfl; rfl) | (apply WL.eqB; rfl; rfl; rfl; rfl) | (apply QL.eqB; rfl; rfl; rfl; rfl) | (apply WL.neB; rfl; rfl; rfl; rfl) | (apply QL.neB; rfl; rfl; rfl; rfl) | (apply WL.lenS; rfl; rfl; rfl) | (apply QL.lenS; rfl; rfl; rfl) | (apply WL.makeFunc; rfl; rfl; rfl; rfl) | (apply QL.makeFunc; rfl; rfl; rfl; rfl) | (apply WL.fa; rfl; rfl; rfl) | (apply QL.fa; rfl; rfl; rfl) | (apply WL.nck; rfl; rfl; rfl) | (apply QL.nck; rfl; rfl; rfl) | (apply WL.ld; rfl; rfl; rfl; assumption; rfl) | (apply QL.ld; rfl; rfl; rfl; assumption; rfl) | (apply WL.ldA; rfl; rfl; rfl; assumption; rfl) | (apply QL.ldA; rfl; rfl; rfl; assumption; rfl) | (apply CW.block) | (apply EX.inN) | (apply CW.condT; rfl) | (apply CW.condF; rfl) | (apply CW.exit) | (apply EX.thenX) | (apply EX.inX) | (apply EX.inXne; rfl) | (apply CW.ret) | (apply EX.thenR) | (apply EX.inR) | (apply CW.skip) | (refine WL.lenO rfl rfl rfl (by assumption) ?_) | (apply WL.isNil; rfl; rfl; rfl)))
    refine CW.drawH (fun x : World => SO w1.heap.size (drew w6) x) [(1, true), (0, false), (2, false), (3, false), (4, false), (5, false), (6, false), (7, false)] mixed (by kernel_rfl) (SO.refl _ _) ?_
    have hS : SO w1.heap.size (drew w6) (drew w6) := SO.refl _ _
    have hBw : w6.heap.size ≤ (drew w6).heap.size := by have := ed.size; omega
    (repeat (first | (apply HL.add; rfl; rfl; rfl; rfl; rfl; omega; omega) | (apply HL.sub'; rfl; rfl; rfl; rfl; rfl; omega; omega) | (apply HL.pure; rfl; rfl; rfl; rfl) | (apply HL.pass; rfl; rfl; rfl) | (refine HL.fa rfl rfl rfl rfl ?_) | (apply HL.nck; rfl; rfl; rfl; rfl) | (refine HL.ld (by assumption) rfl rfl rfl rfl (by assumption) rfl ?_) | (refine HL.ldK (by assumption) rfl rfl rfl rfl (by assumption) rfl ?_) | (refine HL.ldA (by assumption) rfl rfl rfl rfl (by assumption) rfl ?_) | (refine HL.lenS rfl rfl rfl rfl ?_) | (refine HL.eqB rfl rfl rfl rfl rfl ?_) | (refine HL.neB rfl rfl rfl rfl rfl ?_) | (refine HL.build rfl rfl rfl rfl rfl ?_) | (apply HL.makeFunc; rfl; rfl; rfl; rfl; rfl) | (apply HL.nil)))
    refine HL.mut rfl (WL.call rfl rfl rfl (dc_atomG (drew w6) w6.heap.size 63) ?_)
    rintro v45 y1 ⟨g45, ey1⟩
    have hC := hC.ext ey1
    have hr := hr.ext ey1
    have ht := ht.ext ey1
    have ha := ha.ext ey1
    have hb := hb.ext ey1
    have hE := hE.trans ey1
    have hBw : w6.heap.size ≤ y1.heap.size := Nat.le_trans hBw ey1.size
    have hS := hS.ext ey1
    refine WL.nil (EX.mut hS ?_)
    refine HL.mut rfl (WL.callF (xs := []) (vs := []) rfl rfl rfl rfl (hC.runA.low hBw) ?_)
    rintro v47 y2 ⟨g47, ey2⟩
    have hC := hC.ext ey2
    have g45 := g45.ext ey2
    have hr := hr.ext ey2
    have ht := ht.ext ey2
    have ha := ha.ext ey2
    have hb := hb.ext ey2
    have hE := hE.trans ey2
    have hBw : w6.heap.size ≤ y2.heap.size := Nat.le_trans hBw ey2.size
    have hS := hS.ext ey2
    refine WL.nil (EX.mut hS ?_)
    refine HL.mut rfl (WL.call rfl rfl rfl (dc_twoG y2 hBw 8 g45 g47) ?_)
    rintro v48 y3 ⟨g48, ey3⟩
    have hC := hC.ext ey3
    have g45 := g45.ext ey3
    have g47 := g47.ext ey3
    have hr := hr.ext ey3
    have ht := ht.ext ey3
    have ha := ha.ext ey3
    have hb := hb.ext ey3
    have hE := hE.trans ey3
    have hBw : w6.heap.size ≤ y3.heap.size := Nat.le_trans hBw ey3.size
    have hS := hS.ext ey3
    refine WL.nil (EX.mut hS ?_)
    refine HL.mut rfl (WL.call rfl rfl rfl (dc_atomG y3 w6.heap.size 63) ?_)
    rintro v49 y4 ⟨g49, ey4⟩
    have hC := hC.ext ey4
    have g45 := g45.ext ey4
    have g47 := g47.ext ey4
    have g48 := g48.ext ey4
    have hr := hr.ext ey4
    have ht := ht.ext ey4
    have ha := ha.ext ey4
    have hb := hb.ext ey4
    have hE := hE.trans ey4
    have hBw : w6.heap.size ≤ y4.heap.size := Nat.le_trans hBw ey4.size
    have hS := hS.ext ey4
    refine WL.nil (EX.mut hS ?_)
    refine HL.mut rfl (WL.call rfl rfl rfl (dc_alwaysG y4 hBw g49) ?_)
    rintro v50 y5 ⟨g50, ey5⟩
    have hC := hC.ext ey5
    have g45 := g45.ext ey5
    have g47 := g47.ext ey5
    have g48 := g48.ext ey5
    have g49 := g49.ext ey5
    have hr := hr.ext ey5
    have ht := ht.ext ey5
    have ha := ha.ext ey5
    have hb := hb.ext ey5
    have hE := hE.trans ey5
    have hBw : w6.heap.size ≤ y5.heap.size := Nat.le_trans hBw ey5.size
    have hS := hS.ext ey5
    refine WL.nil (EX.mut hS ?_)
    refine HL.mut rfl (WL.call rfl rfl rfl (dc_orG y5 hBw g48 g50) ?_)
    rintro v51 y6 ⟨g51, ey6⟩
    have hC := hC.ext ey6
    have g45 := g45.ext ey6
    have g47 := g47.ext ey6
    have g48 := g48.ext ey6
    have g49 := g49.ext ey6
    have g50 := g50.ext ey6
    have hr := hr.ext ey6
    have ht := ht.ext ey6
    have ha := ha.ext ey6
    have hb := hb.ext ey6
    have hE := hE.trans ey6
    have hBw : w6.heap.size ≤ y6.heap.size := Nat.le_trans hBw ey6.size
    have hS := hS.ext ey6
    refine WL.nil (EX.mut hS ?_)
    obtain ⟨uo, uc, rfl, hku⟩ := Rd.ltl g51
    refine HL.mut rfl (WL.st rfl rfl rfl hr rfl rfl (ones_of rfl) (fun z hz hgz => ?_))
    refine WL.nil (EX.mut (hS.st hgz) (HL.nil ?_))
    (repeat (first | (apply WL.add; rfl; rfl; rfl; rfl; omega; omega) | (apply QL.add; rfl; rfl; rfl; rfl; omega; omega) | (apply WL.sub'; rfl; rfl; rfl; rfl; omega; omega) | (apply QL.sub'; rfl; rfl; rfl; rfl; omega; omega) | (apply WL.mul; rfl; rfl; rfl; rfl; omega; omega) | (apply QL.mul; rfl; rfl; rfl; rfl; omega; omega) | (apply WL.pure; rfl; rfl; rfl) | (apply QL.pure; rfl; rfl; rfl) | (apply WL.nil) | (apply EX.thenN) | (apply CW.seq) | (apply CW.region) | (apply WL.pass; rfl; rfl) | (apply QL.pass; rfl; rfl) | (apply WL.eqB; rfl; rfl; rfl; rfl) | (apply QL.eqB; rfl; rfl; rfl; rfl) | (apply WL.neB; rfl; rfl; rfl; rfl) | (apply QL.neB; rfl; rfl; rfl; rfl) | (apply WL.lenS; rfl; rfl; rfl) | (apply QL.lenS; rfl; rfl; rfl) | (apply WL.makeFunc; rfl; rfl; rfl; rfl) | (apply QL.makeFunc; rfl; rfl; rfl; rfl) | (apply WL.fa; rfl; rfl; rfl) | (apply QL.fa; rfl; rfl; rfl) | (apply WL.nck; rfl; rfl; rfl) | (apply QL.nck; rfl; rfl; rfl) | (apply WL.ld; rfl; rfl; rfl; assumption; rfl) | (apply QL.ld; rfl; rfl; rfl; assumption; rfl) | (apply WL.ldA; rfl; rfl; rfl; assumption; rfl) | (apply QL.ldA; rfl; rfl; rfl; assumption; rfl) | (apply CW.block) | (apply EX.inN) | (apply CW.condT; rfl) | (apply CW.condF; rfl) | (apply CW.exit) | (apply EX.thenX) | (apply EX.inX) | (apply EX.inXne; rfl) | (apply CW.ret) | (apply EX.thenR) | (apply EX.inR) | (apply CW.skip) | (refine WL.lenO rfl rfl rfl (by assumption) ?_) | (apply WL.isNil; rfl; rfl; rfl) | (apply CW.draw; exact mixed; kernel_rfl)))
    exact EX.retC rfl rfl hz rfl ⟨(g51.st hgz (by omega)).low (by omega), ret_size hE hgz (by omega)⟩
  by_cases h5 : k = 5
  · subst h5
    (repeat (first | (apply WL.add; rfl; rfl; rfl; rfl; omega; omega) | (apply QL.add; rfl; rfl; rfl; rfl; omega; omega) | (apply WL.sub'; rfl; rfl; rfl; rfl; omega; omega) | (apply QL.sub'; rfl; rfl; rfl; rfl; omega; omega) | (apply WL.mul; rfl; rfl; rfl; rfl; omega; omega) | (apply QL.mul; rfl; rfl; rfl; rfl; omega; omega) | (apply WL.pure; rfl; rfl; rfl) | (apply QL.pure; rfl; rfl; rfl) | (apply WL.nil) | (apply EX.thenN) | (apply CW.seq) | (apply CW.region) | (apply WL.pass; rfl; rfl) | (apply QL.pass; rfl; rfl) | (apply WL.eqB; rfl; rfl; rfl; rfl) | (apply QL.eqB; rfl; rfl; rfl; rfl) | (apply WL.neB; rfl; rfl; rfl; rfl) | (apply QL.neB; rfl; rfl; rfl; rfl) | (apply WL.lenS; rfl; rfl; rfl) | (apply QL.lenS; rfl; rfl; rfl) | (apply WL.makeFunc; rfl; rfl; rfl; rfl) | (apply QL.makeFunc; rfl; rfl; rfl; rfl) | (apply WL.fa; rfl; rfl; rfl) | (apply QL.fa; rfl; rfl; rfl) | (apply WL.nck; rfl; rfl; rfl) | (apply QL.nck; rfl; rfl; rfl) | (apply WL.ld; rfl; rfl; rfl; assumption; rfl) | (apply QL.ld; rfl; rfl; rfl; assumption; rfl) | (apply WL.ldA; rfl; rfl; rfl; assumption; rfl) | (apply QL.ldA; rfl; rfl; rfl; assumption; rfl) | (apply CW.block) | (apply EX.inN) | (apply CW.condT; rfl) | (apply CW.condF; rfl) | (apply CW.exit) | (apply EX.thenX) | (apply EX.inX) | (apply EX.inXne; rfl) | (apply CW.ret) | (apply EX.thenR) | (apply EX.inR) | (apply CW.skip) | (refine WL.lenO rfl rfl rfl (by assumption) ?_) | (apply WL.isNil; rfl; rfl; rfl)))
    have ed := Ext.drew w6
    have hC := hC.ext ed
    have hr := hr.ext ed
    have hrlt := hr.lt
    have ht := ht.ext ed
    have htlt := ht.lt
    have ha := ha.ext ed
    have halt := ha.lt
    have hb := hb.ext ed
    have hblt := hb.lt
    have hE := hE6.trans ed
    have htK : ∀ x, (fun x : World => SO w1.heap.size (drew w6) x) x → x.heap[w.heap.size]? = (drew w6).heap[w.heap.size]? := fun x hx => hx.2 _ (by omega) htlt
    have haK : ∀ x, (fun x : World => SO w1.heap.size (drew w6) x) x → x.heap[w2.heap.size]? = (drew w6).heap[w2.heap.size]? := fun x hx => hx.2 _ (by omega) halt
    have hbK : ∀ x, (fun x : World => SO w1.heap.size (drew w6) x) x → x.heap[w4.heap.size]? = (drew w6).heap[w4.heap.size]? := fun x hx => hx.2 _ (by omega) hblt
    (repeat (first | (apply WL.add; rfl; rfl; rfl; rfl; omega; omega) | (apply QL.add; rfl; rfl; rfl; rfl; omega; omega) | (apply WL.sub'; rfl; rfl; rfl; rfl; omega; omega) | (apply QL.sub'; rfl; rfl; rfl; rfl; omega; omega) | (apply WL.mul; rfl; rfl; rfl; rfl; omega; omega) | (apply QL.mul; rfl; rfl; rfl; rfl; omega; omega) | (apply WL.pure; rfl; rfl; rfl) | (apply QL.pure; rfl; rfl; rfl) | (apply WL.nil) | (apply EX.thenN) | (apply CW.seq) | (apply CW.region) | (apply WL.pass; rfl; rfl) | (apply QL.pass; rfl; rfl) | (apply WL.eqB; rfl; rfl; rfl; rfl) | (apply QL.eqB; rfl; rfl; rfl; rfl) | (apply WL.neB; rfl; rfl; rfl; rfl) | (apply QL.neB; rfl; rfl; rfl; rfl) | (apply WL.lenS; rfl; rfl; rfl) | (apply QL.lenS; rfl; rfl; rfl) | (apply WL.makeFunc; rfl; rfl; rfl; rfl) | (apply QL.makeFunc; rfl; rfl; rfl; rfl) | (apply WL.fa; rfl; rfl; rfl) | (apply QL.fa; rfl; rfl; rfl) | (apply WL.nck; rfl; rfl; rfl) | (apply QL.nck; rfl; rfl; rfl) | (apply WL.ld; rfl; rfl; rfl; assumption; rfl) | (apply QL.ld; rfl; rfl; rfl; assumption; rfl) | (apply WL.ldA; rfl; rfl; rfl; assumption; rfl) | (apply QL.ldA; rfl; rfl; rfl; assumption; rfl) | (apply CW.block) | (apply EX.inN) | (apply CW.condT; rfl) | (apply CW.condF; rfl) | (apply CW.exit) | (apply EX.thenX) | (apply EX.inX) | (apply EX.inXne; rfl) | (apply CW.ret) | (apply EX.thenR) | (apply EX.inR) | (apply CW.skip) | (refine WL.lenO rfl rfl rfl (by assumption) ?_) | (apply WL.isNil; rfl; rfl; rfl)))
    refine CW.drawH (fun x : World => SO w1.heap.size (drew w6) x) [(0, true), (3, true), (1, false), (2, false), (4, false), (5, false), (6, false), (7, false)] mixed (by kernel_rfl) (SO.refl _ _) ?_
    have hS : SO w1.heap.size (drew w6) (drew w6) := SO.refl _ _
    have hBw : w6.heap.size ≤ (drew w6).heap.size := by have := ed.size; omega
    (repeat (first | (apply HL.add; rfl; rfl; rfl; rfl; rfl; omega; omega) | (apply HL.sub'; rfl; rfl; rfl; rfl; rfl; omega; omega) | (apply HL.pure; rfl; rfl; rfl; rfl) | (apply HL.pass; rfl; rfl; rfl) | (refine HL.fa rfl rfl rfl rfl ?_) | (apply HL.nck; rfl; rfl; rfl; rfl) | (refine HL.ld (by assumption) rfl rfl rfl rfl (by assumption) rfl ?_) | (refine HL.ldK (by assumption) rfl rfl rfl rfl (by assumption) rfl ?_) | (refine HL.ldA (by assumption) rfl rfl rfl rfl (by assumption) rfl ?_) | (refine HL.lenS rfl rfl rfl rfl ?_) | (refine HL.eqB rfl rfl rfl rfl rfl ?_) | (refine HL.neB rfl rfl rfl rfl rfl ?_) | (refine HL.build rfl rfl rfl rfl rfl ?_) | (apply HL.makeFunc; rfl; rfl; rfl; rfl; rfl) | (apply HL.nil)))
    refine HL.mut rfl (WL.callF (xs := []) (vs := []) rfl rfl rfl rfl (hC.runA.low hBw) ?_)
    rintro v55 y1 ⟨g55, ey1⟩
    have hC := hC.ext ey1
    have hr := hr.ext ey1
    have ht := ht.ext ey1
    have ha := ha.ext ey1
    have hb := hb.ext ey1
    have hE := hE.trans ey1
    have hBw : w6.heap.size ≤ y1.heap.size := Nat.le_trans hBw ey1.size
    have hS := hS.ext ey1
    refine WL.nil (EX.mut hS ?_)
    refine HL.mut rfl (WL.call rfl rfl rfl (dc_someG y1 hBw g55) ?_)
    rintro v56 y2 ⟨g56, ey2⟩
    have hC := hC.ext ey2
    have g55 := g55.ext ey2
    have hr := hr.ext ey2
    have ht := ht.ext ey2
    have ha := ha.ext ey2
    have hb := hb.ext ey2
    have hE := hE.trans ey2
    have hBw : w6.heap.size ≤ y2.heap.size := Nat.le_trans hBw ey2.size
    have hS := hS.ext ey2
    refine WL.nil (EX.mut hS ?_)
    refine HL.mut rfl (WL.callF (xs := []) (vs := []) rfl rfl rfl rfl (hC.runB.low hBw) ?_)
    rintro v58 y3 ⟨g58, ey3⟩
    have hC := hC.ext ey3
    have g55 := g55.ext ey3
    have g56 := g56.ext ey3
    have hr := hr.ext ey3
    have ht := ht.ext ey3
    have ha := ha.ext ey3
    have hb := hb.ext ey3
    have hE := hE.trans ey3
    have hBw : w6.heap.size ≤ y3.heap.size := Nat.le_trans hBw ey3.size
    have hS := hS.ext ey3
    refine WL.nil (EX.mut hS ?_)
    refine HL.mut rfl (WL.call rfl rfl rfl (dc_someG y3 hBw g58) ?_)
    rintro v59 y4 ⟨g59, ey4⟩
    have hC := hC.ext ey4
    have g55 := g55.ext ey4
    have g56 := g56.ext ey4
    have g58 := g58.ext ey4
    have hr := hr.ext ey4
    have ht := ht.ext ey4
    have ha := ha.ext ey4
    have hb := hb.ext ey4
    have hE := hE.trans ey4
    have hBw : w6.heap.size ≤ y4.heap.size := Nat.le_trans hBw ey4.size
    have hS := hS.ext ey4
    refine WL.nil (EX.mut hS ?_)
    refine HL.mut rfl (WL.call rfl rfl rfl (dc_orG y4 hBw g56 g59) ?_)
    rintro v60 y5 ⟨g60, ey5⟩
    have hC := hC.ext ey5
    have g55 := g55.ext ey5
    have g56 := g56.ext ey5
    have g58 := g58.ext ey5
    have g59 := g59.ext ey5
    have hr := hr.ext ey5
    have ht := ht.ext ey5
    have ha := ha.ext ey5
    have hb := hb.ext ey5
    have hE := hE.trans ey5
    have hBw : w6.heap.size ≤ y5.heap.size := Nat.le_trans hBw ey5.size
    have hS := hS.ext ey5
    refine WL.nil (EX.mut hS ?_)
    obtain ⟨uo, uc, rfl, hku⟩ := Rd.ltl g60
    refine HL.mut rfl (WL.st rfl rfl rfl hr rfl rfl (ones_of rfl) (fun z hz hgz => ?_))
    refine WL.nil (EX.mut (hS.st hgz) (HL.nil ?_))
    (repeat (first | (apply WL.add; rfl; rfl; rfl; rfl; omega; omega) | (apply QL.add; rfl; rfl; rfl; rfl; omega; omega) | (apply WL.sub'; rfl; rfl; rfl; rfl; omega; omega) | (apply QL.sub'; rfl; rfl; rfl; rfl; omega; omega) | (apply WL.mul; rfl; rfl; rfl; rfl; omega; omega) | (apply QL.mul; rfl; rfl; rfl; rfl; omega; omega) | (apply WL.pure; rfl; rfl; rfl) | (apply QL.pure; rfl; rfl; rfl) | (apply WL.nil) | (apply EX.thenN) | (apply CW.seq) | (apply CW.region) | (apply WL.pass; rfl; rfl) | (apply QL.pass; rfl; rfl) | (apply WL.eqB; rfl; rfl; rfl; rfl) | (apply QL.eqB; rfl; rfl; rfl; rfl) | (apply WL.neB; rfl; rfl; rfl; rfl) | (apply QL.neB; rfl; rfl; rfl; rfl) | (apply WL.lenS; rfl; rfl; rfl) | (apply QL.lenS; rfl; rfl; rfl) | (apply WL.makeFunc; rfl; rfl; rfl; rfl) | (apply QL.makeFunc; rfl; rfl; rfl; rfl) | (apply WL.fa; rfl; rfl; rfl) | (apply QL.fa; rfl; rfl; rfl) | (apply WL.nck; rfl; rfl; rfl) | (apply QL.nck; rfl; rfl; rfl) | (apply WL.ld; rfl; rfl; rfl; assumption; rfl) | (apply QL.ld; rfl; rfl; rfl; assumption; rfl) | (apply WL.ldA; rfl; rfl; rfl; assumption; rfl) | (apply QL.ldA; rfl; rfl; rfl; assumption; rfl) | (apply CW.block) | (apply EX.inN) | (apply CW.condT; rfl) | (apply CW.condF; rfl) | (apply CW.exit) | (apply EX.thenX) | (apply EX.inX) | (apply EX.inXne; rfl) | (apply CW.ret) | (apply EX.thenR) | (apply EX.inR) | (apply CW.skip) | (refine WL.lenO rfl rfl rfl (by assumption) ?_) | (apply WL.isNil; rfl; rfl; rfl) | (apply CW.draw; exact mixed; kernel_rfl)))
    exact EX.retC rfl rfl hz rfl ⟨(g60.st hgz (by omega)).low (by omega), ret_size hE hgz (by omega)⟩
  by_cases h6 : k = 6
  · subst h6
    (repeat (first | (apply WL.add; rfl; rfl; rfl; rfl; omega; omega) | (apply QL.add; rfl; rfl; rfl; rfl; omega; omega) | (apply WL.sub'; rfl; rfl; rfl; rfl; omega; omega) | (apply QL.sub'; rfl; rfl; rfl; rfl; omega; omega) | (apply WL.mul; rfl; rfl; rfl; rfl; omega; omega) | (apply QL.mul; rfl; rfl; rfl; rfl; omega; omega) | (apply WL.pure; rfl; rfl; rfl) | (apply QL.pure; rfl; rfl; rfl) | (apply WL.nil) | (apply EX.thenN) | (apply CW.seq) | (apply CW.region) | (apply WL.pass; rfl; rfl) | (apply QL.pass; rfl; rfl) | (apply WL.eqB; rfl; rfl; rfl; rfl) | (apply QL.eqB; rfl; rfl; rfl; rfl) | (apply WL.neB; rfl; rfl; rfl; rfl) | (apply QL.neB; rfl; rfl; rfl; rfl) | (apply WL.lenS; rfl; rfl; rfl) | (apply QL.lenS; rfl; rfl; rfl) | (apply WL.makeFunc; rfl; rfl; rfl; rfl) | (apply QL.makeFunc; rfl; rfl; rfl; rfl) | (apply WL.fa; rfl; rfl; rfl) | (apply QL.fa; rfl; rfl; rfl) | (apply WL.nck; rfl; rfl; rfl) | (apply QL.nck; rfl; rfl; rfl) | (apply WL.ld; rfl; rfl; rfl; assumption; rfl) | (apply QL.ld; rfl; rfl; rfl; assumption; rfl) | (apply WL.ldA; rfl; rfl; rfl; assumption; rfl) | (apply QL.ldA; rfl; rfl; rfl; assumption; rfl) | (apply CW.block) | (apply EX.inN) | (apply CW.condT; rfl) | (apply CW.condF; rfl) | (apply CW.exit) | (apply EX.thenX) | (apply EX.inX) | (apply EX.inXne; rfl) | (apply CW.ret) | (apply EX.thenR) | (apply EX.inR) | (apply CW.skip) | (refine WL.lenO rfl rfl rfl (by assumption) ?_) | (apply WL.isNil; rfl; rfl; rfl)))
    have ed := Ext.drew w6
    have hC := hC.ext ed
    have hr := hr.ext ed
    have hrlt := hr.lt
    have ht := ht.ext ed
    have htlt := ht.lt
    have ha := ha.ext ed
    have halt := ha.lt
    have hb := hb.ext ed
    have hblt := hb.lt
    have hE := hE6.trans ed
    have htK : ∀ x, (fun x : World => SO w1.heap.size (drew w6) x) x → x.heap[w.heap.size]? = (drew w6).heap[w.heap.size]? := fun x hx => hx.2 _ (by omega) htlt
    have haK : ∀ x, (fun x : World => SO w1.heap.size (drew w6) x) x → x.heap[w2.heap.size]? = (drew w6).heap[w2.heap.size]? := fun x hx => hx.2 _ (by omega) halt
    have hbK : ∀ x, (fun x : World => SO w1.heap.size (drew w6) x) x → x.heap[w4.heap.size]? = (drew w6).heap[w4.heap.size]? := fun x hx => hx.2 _ (by omega) hblt
    (repeat (first | (apply WL.add; rfl; rfl; rfl; rfl; omega; omega) | (apply QL.add; rfl; rfl; rfl; rfl; omega; omega) | (apply WL.sub'; rfl; rfl; rfl; rfl; omega; omega) | (apply QL.sub'; rfl; rfl; rfl; rfl; omega; omega) | (apply WL.mul; rfl; rfl; rfl; rfl; omega; omega) | (apply QL.mul; rfl; rfl; rfl; rfl; omega; omega) | (apply WL.pure; rfl; rfl; rfl) | (apply QL.pure; rfl; rfl; rfl) | (apply WL.nil) | (apply EX.thenN) | (apply CW.seq) | (apply CW.region) | (apply WL.pass; rfl; rfl) | (apply QL.pass; rfl; rfl) | (apply WL.eqB; rfl; rfl; rfl; rfl) | (apply QL.eqB; rfl; rfl; rfl; rfl) | (apply WL.neB; rfl; rfl; rfl; rfl) | (apply QL.neB; rfl; rfl; rfl; rfl) | (apply WL.lenS; rfl; rfl; rfl) | (apply QL.lenS; rfl; rfl; rfl) | (apply WL.makeFunc; rfl; rfl; rfl; rfl) | (apply QL.makeFunc; rfl; rfl; rfl; rfl) | (apply WL.fa; rfl; rfl; rfl) | (apply QL.fa; rfl; rfl; rfl) | (apply WL.nck; rfl; rfl; rfl) | (apply QL.nck; rfl; rfl; rfl) | (apply WL.ld; rfl; rfl; rfl; assumption; rfl) | (apply QL.ld; rfl; rfl; rfl; assumption; rfl) | (apply WL.ldA; rfl; rfl; rfl; assumption; rfl) | (apply QL.ldA; rfl; rfl; rfl; assumption; rfl) | (apply CW.block) | (apply EX.inN) | (apply CW.condT; rfl) | (apply CW.condF; rfl) | (apply CW.exit) | (apply EX.thenX) | (apply EX.inX) | (apply EX.inXne; rfl) | (apply CW.ret) | (apply EX.thenR) | (apply EX.inR) | (apply CW.skip) | (refine WL.lenO rfl rfl rfl (by assumption) ?_) | (apply WL.isNil; rfl; rfl; rfl)))
    refine CW.drawH (fun x : World => SO w1.heap.size (drew w6) x) [(0, true), (4, true), (1, false), (2, false), (3, false), (5, false), (6, false), (7, false), (8, false)] mixed (by kernel_rfl) (SO.refl _ _) ?_
    have hS : SO w1.heap.size (drew w6) (drew w6) := SO.refl _ _
    have hBw : w6.heap.size ≤ (drew w6).heap.size := by have := ed.size; omega
    (repeat (first | (apply HL.add; rfl; rfl; rfl; rfl; rfl; omega; omega) | (apply HL.sub'; rfl; rfl; rfl; rfl; rfl; omega; omega) | (apply HL.pure; rfl; rfl; rfl; rfl) | (apply HL.pass; rfl; rfl; rfl) | (refine HL.fa rfl rfl rfl rfl ?_) | (apply HL.nck; rfl; rfl; rfl; rfl) | (refine HL.ld (by assumption) rfl rfl rfl rfl (by assumption) rfl ?_) | (refine HL.ldK (by assumption) rfl rfl rfl rfl (by assumption) rfl ?_) | (refine HL.ldA (by assumption) rfl rfl rfl rfl (by assumption) rfl ?_) | (refine HL.lenS rfl rfl rfl rfl ?_) | (refine HL.eqB rfl rfl rfl rfl rfl ?_) | (refine HL.neB rfl rfl rfl rfl rfl ?_) | (refine HL.build rfl rfl rfl rfl rfl ?_) | (apply HL.makeFunc; rfl; rfl; rfl; rfl; rfl) | (apply HL.nil)))
    refine HL.mut rfl (WL.callF (xs := []) (vs := []) rfl rfl rfl rfl (hC.runA.low hBw) ?_)
    rintro v64 y1 ⟨g64, ey1⟩
    have hC := hC.ext ey1
    have hr := hr.ext ey1
    have ht := ht.ext ey1
    have ha := ha.ext ey1
    have hb := hb.ext ey1
    have hE := hE.trans ey1
    have hBw : w6.heap.size ≤ y1.heap.size := Nat.le_trans hBw ey1.size
    have hS := hS.ext ey1
    refine WL.nil (EX.mut hS ?_)
    refine HL.mut rfl (WL.call rfl rfl rfl (dc_someG y1 hBw g64) ?_)
    rintro v65 y2 ⟨g65, ey2⟩
    have hC := hC.ext ey2
    have g64 := g64.ext ey2
    have hr := hr.ext ey2
    have ht := ht.ext ey2
    have ha := ha.ext ey2
    have hb := hb.ext ey2
    have hE := hE.trans ey2
    have hBw : w6.heap.size ≤ y2.heap.size := Nat.le_trans hBw ey2.size
    have hS := hS.ext ey2
    refine WL.nil (EX.mut hS ?_)
    refine HL.mut rfl (WL.call rfl rfl rfl (dc_notG y2 hBw g65) ?_)
    rintro v66 y3 ⟨g66, ey3⟩
    have hC := hC.ext ey3
    have g64 := g64.ext ey3
    have g65 := g65.ext ey3
    have hr := hr.ext ey3
    have ht := ht.ext ey3
    have ha := ha.ext ey3
    have hb := hb.ext ey3
    have hE := hE.trans ey3
    have hBw : w6.heap.size ≤ y3.heap.size := Nat.le_trans hBw ey3.size
    have hS := hS.ext ey3
    refine WL.nil (EX.mut hS ?_)
    refine HL.mut rfl (WL.callF (xs := []) (vs := []) rfl rfl rfl rfl (hC.runB.low hBw) ?_)
    rintro v68 y4 ⟨g68, ey4⟩
    have hC := hC.ext ey4
    have g64 := g64.ext ey4
    have g65 := g65.ext ey4
    have g66 := g66.ext ey4
    have hr := hr.ext ey4
    have ht := ht.ext ey4
    have ha := ha.ext ey4
    have hb := hb.ext ey4
    have hE := hE.trans ey4
    have hBw : w6.heap.size ≤ y4.heap.size := Nat.le_trans hBw ey4.size
    have hS := hS.ext ey4
    refine WL.nil (EX.mut hS ?_)
    refine HL.mut rfl (WL.call rfl rfl rfl (dc_someG y4 hBw g68) ?_)
    rintro v69 y5 ⟨g69, ey5⟩
    have hC := hC.ext ey5
    have g64 := g64.ext ey5
    have g65 := g65.ext ey5
    have g66 := g66.ext ey5
    have g68 := g68.ext ey5
    have hr := hr.ext ey5
    have ht := ht.ext ey5
    have ha := ha.ext ey5
    have hb := hb.ext ey5
    have hE := hE.trans ey5
    have hBw : w6.heap.size ≤ y5.heap.size := Nat.le_trans hBw ey5.size
    have hS := hS.ext ey5
    refine WL.nil (EX.mut hS ?_)
    refine HL.mut rfl (WL.call rfl rfl rfl (dc_orG y5 hBw g66 g69) ?_)
    rintro v70 y6 ⟨g70, ey6⟩
    have hC := hC.ext ey6
    have g64 := g64.ext ey6
    have g65 := g65.ext ey6
    have g66 := g66.ext ey6
    have g68 := g68.ext ey6
    have g69 := g69.ext ey6
    have hr := hr.ext ey6
    have ht := ht.ext ey6
    have ha := ha.ext ey6
    have hb := hb.ext ey6
    have hE := hE.trans ey6
    have hBw : w6.heap.size ≤ y6.heap.size := Nat.le_trans hBw ey6.size
    have hS := hS.ext ey6
    refine WL.nil (EX.mut hS ?_)
    obtain ⟨uo, uc, rfl, hku⟩ := Rd.ltl g70
    refine HL.mut rfl (WL.st rfl rfl rfl hr rfl rfl (ones_of rfl) (fun z hz hgz => ?_))
    refine WL.nil (EX.mut (hS.st hgz) (HL.nil ?_))
    (repeat (first | (apply WL.add; rfl; rfl; rfl; rfl; omega; omega) | (apply QL.add; rfl; rfl; rfl; rfl; omega; omega) | (apply WL.sub'; rfl; rfl; rfl; rfl; omega; omega) | (apply QL.sub'; rfl; rfl; rfl; rfl; omega; omega) | (apply WL.mul; rfl; rfl; rfl; rfl; omega; omega) | (apply QL.mul; rfl; rfl; rfl; rfl; omega; omega) | (apply WL.pure; rfl; rfl; rfl) | (apply QL.pure; rfl; rfl; rfl) | (apply WL.nil) | (apply EX.thenN) | (apply CW.seq) | (apply CW.region) | (apply WL.pass; rfl; rfl) | (apply QL.pass; rfl; rfl) | (apply WL.eqB; rfl; rfl; rfl; rfl) | (apply QL.eqB; rfl; rfl; rfl; rfl) | (apply WL.neB; rfl; rfl; rfl; rfl) | (apply QL.neB; rfl; rfl; rfl; rfl) | (apply WL.lenS; rfl; rfl; rfl) | (apply QL.lenS; rfl; rfl; rfl) | (apply WL.makeFunc; rfl; rfl; rfl; rfl) | (apply QL.makeFunc; rfl; rfl; rfl; rfl) | (apply WL.fa; rfl; rfl; rfl) | (apply QL.fa; rfl; rfl; rfl) | (apply WL.nck; rfl; rfl; rfl) | (apply QL.nck; rfl; rfl; rfl) | (apply WL.ld; rfl; rfl; rfl; assumption; rfl) | (apply QL.ld; rfl; rfl; rfl; assumption; rfl) | (apply WL.ldA; rfl; rfl; rfl; assumption; rfl) | (apply QL.ldA; rfl; rfl; rfl; assumption; rfl) | (apply CW.block) | (apply EX.inN) | (apply CW.condT; rfl) | (apply CW.condF; rfl) | (apply CW.exit) | (apply EX.thenX) | (apply EX.inX) | (apply EX.inXne; rfl) | (apply CW.ret) | (apply EX.thenR) | (apply EX.inR) | (apply CW.skip) | (refine WL.lenO rfl rfl rfl (by assumption) ?_) | (apply WL.isNil; rfl; rfl; rfl) | (apply CW.draw; exact mixed; kernel_rfl)))
    exact EX.retC rfl rfl hz rfl ⟨(g70.st hgz (by omega)).low (by omega), ret_size hE hgz (by omega)⟩
  by_cases h7 : k = 7
  · subst h7
    (repeat (first | (apply WL.add; rfl; rfl; rfl; rfl; omega; omega) | (apply QL.add; rfl; rfl; rfl; rfl; omega; omega) | (apply WL.sub'; rfl; rfl; rfl; rfl; omega; omega) | (apply QL.sub'; rfl; rfl; rfl; rfl; omega; omega) | (apply WL.mul; rfl; rfl; rfl; rfl; omega; omega) | (apply QL.mul; rfl; rfl; rfl; rfl; omega; omega) | (apply WL.pure; rfl; rfl; rfl) | (apply QL.pure; rfl; rfl; rfl) | (apply WL.nil) | (apply EX.thenN) | (apply CW.seq) | (apply CW.region) | (apply WL.pass; rfl; rfl) | (apply QL.pass; rfl; rfl) | (apply WL.eqB; rfl; rfl; rfl; rfl) | (apply QL.eqB; rfl; rfl; rfl; rfl) | (apply WL.neB; rfl; rfl; rfl; rfl) | (apply QL.neB; rfl; rfl; rfl; rfl) | (apply WL.lenS; rfl; rfl; rfl) | (apply QL.lenS; rfl; rfl; rfl) | (apply WL.makeFunc; rfl; rfl; rfl; rfl) | (apply QL.makeFunc; rfl; rfl; rfl; rfl) | (apply WL.fa; rfl; rfl; rfl) | (apply QL.fa; rfl; rfl; rfl) | (apply WL.nck; rfl; rfl; rfl) | (apply QL.nck; rfl; rfl; rfl) | (apply WL.ld; rfl; rfl; rfl; assumption; rfl) | (apply QL.ld; rfl; rfl; rfl; assumption; rfl) | (apply WL.ldA; rfl; rfl; rfl; assumption; rfl) | (apply QL.ldA; rfl; rfl; rfl; assumption; rfl) | (apply CW.block) | (apply EX.inN) | (apply CW.condT; rfl) | (apply CW.condF; rfl) | (apply CW.exit) | (apply EX.thenX) | (apply EX.inX) | (apply EX.inXne; rfl) | (apply CW.ret) | (apply EX.thenR) | (apply EX.inR) | (apply CW.skip) | (refine WL.lenO rfl rfl rfl (by assumption) ?_) | (apply WL.isNil; rfl; rfl; rfl)))
    have ed := Ext.drew w6
    have hC := hC.ext ed
    have hr := hr.ext ed
    have hrlt := hr.lt
    have ht := ht.ext ed
    have htlt := ht.lt
    have ha := ha.ext ed
    have halt := ha.lt
    have hb := hb.ext ed
    have hblt := hb.lt
    have hE := hE6.trans ed
    have htK : ∀ x, (fun x : World => SO w1.heap.size (drew w6) x) x → x.heap[w.heap.size]? = (drew w6).heap[w.heap.size]? := fun x hx => hx.2 _ (by omega) htlt
    have haK : ∀ x, (fun x : World => SO w1.heap.size (drew w6) x) x → x.heap[w2.heap.size]? = (drew w6).heap[w2.heap.size]? := fun x hx => hx.2 _ (by omega) halt
    have hbK : ∀ x, (fun x : World => SO w1.heap.size (drew w6) x) x → x.heap[w4.heap.size]? = (drew w6).heap[w4.heap.size]? := fun x hx => hx.2 _ (by omega) hblt
    (repeat (first | (apply WL.add; rfl; rfl; rfl; rfl; omega; omega) | (apply QL.add; rfl; rfl; rfl; rfl; omega; omega) | (apply WL.sub'; rfl; rfl; rfl; rfl; omega; omega) | (apply QL.sub'; rfl; rfl; rfl; rfl; omega; omega) | (apply WL.mul; rfl; rfl; rfl; rfl; omega; omega) | (apply QL.mul; rfl; rfl; rfl; rfl; omega; omega) | (apply WL.pure; rfl; rfl; rfl) | (apply QL.pure; rfl; rfl; rfl) | (apply WL.nil) | (apply EX.thenN) | (apply CW.seq) | (apply CW.region) | (apply WL.pass; rfl; rfl) | (apply QL.pass; rfl; rfl) | (apply WL.eqB; rfl; rfl; rfl; rfl) | (apply QL.eqB; rfl; rfl; rfl; rfl) | (apply WL.neB; rfl; rfl; rfl; rfl) | (apply QL.neB; rfl; rfl; rfl; rfl) | (apply WL.lenS; rfl; rfl; rfl) | (apply QL.lenS; rfl; rfl; rfl) | (apply WL.makeFunc; rfl; rfl; rfl; rfl) | (apply QL.makeFunc; rfl; rfl; rfl; rfl) | (apply WL.fa; rfl; rfl; rfl) | (apply QL.fa; rfl; rfl; rfl) | (apply WL.nck; rfl; rfl; rfl) | (apply QL.nck; rfl; rfl; rfl) | (apply WL.ld; rfl; rfl; rfl; assumption; rfl) | (apply QL.ld; rfl; rfl; rfl; assumption; rfl) | (apply WL.ldA; rfl; rfl; rfl; assumption; rfl) | (apply QL.ldA; rfl; rfl; rfl; assumption; rfl) | (apply CW.block) | (apply EX.inN) | (apply CW.condT; rfl) | (apply CW.condF; rfl) | (apply CW.exit) | (apply EX.thenX) | (apply EX.inX) | (apply EX.inXne; rfl) | (apply CW.ret) | (apply EX.thenR) | (apply EX.inR) | (apply CW.skip) | (refine WL.lenO rfl rfl rfl (by assumption) ?_) | (apply WL.isNil; rfl; rfl; rfl)))
    refine CW.drawH (fun x : World => SO w1.heap.size (drew w6) x) [(0, true), (4, true), (8, true), (12, true), (1, false), (2, false), (3, false), (5, false), (6, false), (7, false), (9, false), (10, false), (11, false), (13, false), (14, false), (15, false), (16, false), (17, false)] mixed (by kernel_rfl) (SO.refl _ _) ?_
    have hS : SO w1.heap.size (drew w6) (drew w6) := SO.refl _ _
    have hBw : w6.heap.size ≤ (drew w6).heap.size := by have := ed.size; omega
    (repeat (first | (apply HL.add; rfl; rfl; rfl; rfl; rfl; omega; omega) | (apply HL.sub'; rfl; rfl; rfl; rfl; rfl; omega; omega) | (apply HL.pure; rfl; rfl; rfl; rfl) | (apply HL.pass; rfl; rfl; rfl) | (refine HL.fa rfl rfl rfl rfl ?_) | (apply HL.nck; rfl; rfl; rfl; rfl) | (refine HL.ld (by assumption) rfl rfl rfl rfl (by assumption) rfl ?_) | (refine HL.ldK (by assumption) rfl rfl rfl rfl (by assumption) rfl ?_) | (refine HL.ldA (by assumption) rfl rfl rfl rfl (by assumption) rfl ?_) | (refine HL.lenS rfl rfl rfl rfl ?_) | (refine HL.eqB rfl rfl rfl rfl rfl ?_) | (refine HL.neB rfl rfl rfl rfl rfl ?_) | (refine HL.build rfl rfl rfl rfl rfl ?_) | (apply HL.makeFunc; rfl; rfl; rfl; rfl; rfl) | (apply HL.nil)))
    refine HL.mut rfl (WL.callF (xs := []) (vs := []) rfl rfl rfl rfl (hC.runA.low hBw) ?_)
    rintro v74 y1 ⟨g74, ey1⟩
    have hC := hC.ext ey1
    have hr := hr.ext ey1
    have ht := ht.ext ey1
    have ha := ha.ext ey1
    have hb := hb.ext ey1
    have hE := hE.trans ey1
    have hBw : w6.heap.size ≤ y1.heap.size := Nat.le_trans hBw ey1.size
    have hS := hS.ext ey1
    refine WL.nil (EX.mut hS ?_)
    refine HL.mut rfl (WL.call rfl rfl rfl (dc_someG y1 hBw g74) ?_)
    rintro v75 y2 ⟨g75, ey2⟩
    have hC := hC.ext ey2
    have g74 := g74.ext ey2
    have hr := hr.ext ey2
    have ht := ht.ext ey2
    have ha := ha.ext ey2
    have hb := hb.ext ey2
    have hE := hE.trans ey2
    have hBw : w6.heap.size ≤ y2.heap.size := Nat.le_trans hBw ey2.size
    have hS := hS.ext ey2
    refine WL.nil (EX.mut hS ?_)
    refine HL.mut rfl (WL.call rfl rfl rfl (dc_notG y2 hBw g75) ?_)
    rintro v76 y3 ⟨g76, ey3⟩
    have hC := hC.ext ey3
    have g74 := g74.ext ey3
    have g75 := g75.ext ey3
    have hr := hr.ext ey3
    have ht := ht.ext ey3
    have ha := ha.ext ey3
    have hb := hb.ext ey3
    have hE := hE.trans ey3
    have hBw : w6.heap.size ≤ y3.heap.size := Nat.le_trans hBw ey3.size
    have hS := hS.ext ey3
    refine WL.nil (EX.mut hS ?_)
    refine HL.mut rfl (WL.callF (xs := []) (vs := []) rfl rfl rfl rfl (hC.runB.low hBw) ?_)
    rintro v78 y4 ⟨g78, ey4⟩
    have hC := hC.ext ey4
    have g74 := g74.ext ey4
    have g75 := g75.ext ey4
    have g76 := g76.ext ey4
    have hr := hr.ext ey4
    have ht := ht.ext ey4
    have ha := ha.ext ey4
    have hb := hb.ext ey4
    have hE := hE.trans ey4
    have hBw : w6.heap.size ≤ y4.heap.size := Nat.le_trans hBw ey4.size
    have hS := hS.ext ey4
    refine WL.nil (EX.mut hS ?_)
    refine HL.mut rfl (WL.call rfl rfl rfl (dc_someG y4 hBw g78) ?_)
    rintro v79 y5 ⟨g79, ey5⟩
    have hC := hC.ext ey5
    have g74 := g74.ext ey5
    have g75 := g75.ext ey5
    have g76 := g76.ext ey5
    have g78 := g78.ext ey5
    have hr := hr.ext ey5
    have ht := ht.ext ey5
    have ha := ha.ext ey5
    have hb := hb.ext ey5
    have hE := hE.trans ey5
    have hBw : w6.heap.size ≤ y5.heap.size := Nat.le_trans hBw ey5.size
    have hS := hS.ext ey5
    refine WL.nil (EX.mut hS ?_)
    refine HL.mut rfl (WL.call rfl rfl rfl (dc_orG y5 hBw g76 g79) ?_)
    rintro v80 y6 ⟨g80, ey6⟩
    have hC := hC.ext ey6
    have g74 := g74.ext ey6
    have g75 := g75.ext ey6
    have g76 := g76.ext ey6
    have g78 := g78.ext ey6
    have g79 := g79.ext ey6
    have hr := hr.ext ey6
    have ht := ht.ext ey6
    have ha := ha.ext ey6
    have hb := hb.ext ey6
    have hE := hE.trans ey6
    have hBw : w6.heap.size ≤ y6.heap.size := Nat.le_trans hBw ey6.size
    have hS := hS.ext ey6
    refine WL.nil (EX.mut hS ?_)
    refine HL.mut rfl (WL.callF (xs := []) (vs := []) rfl rfl rfl rfl (hC.runB.low hBw) ?_)
    rintro v82 y7 ⟨g82, ey7⟩
    have hC := hC.ext ey7
    have g74 := g74.ext ey7
    have g75 := g75.ext ey7
    have g76 := g76.ext ey7
    have g78 := g78.ext ey7
    have g79 := g79.ext ey7
    have g80 := g80.ext ey7
    have hr := hr.ext ey7
    have ht := ht.ext ey7
    have ha := ha.ext ey7
    have hb := hb.ext ey7
    have hE := hE.trans ey7
    have hBw : w6.heap.size ≤ y7.heap.size := Nat.le_trans hBw ey7.size
    have hS := hS.ext ey7
    refine WL.nil (EX.mut hS ?_)
    refine HL.mut rfl (WL.call rfl rfl rfl (dc_someG y7 hBw g82) ?_)
    rintro v83 y8 ⟨g83, ey8⟩
    have hC := hC.ext ey8
    have g74 := g74.ext ey8
    have g75 := g75.ext ey8
    have g76 := g76.ext ey8
    have g78 := g78.ext ey8
    have g79 := g79.ext ey8
    have g80 := g80.ext ey8
    have g82 := g82.ext ey8
    have hr := hr.ext ey8
    have ht := ht.ext ey8
    have ha := ha.ext ey8
    have hb := hb.ext ey8
    have hE := hE.trans ey8
    have hBw : w6.heap.size ≤ y8.heap.size := Nat.le_trans hBw ey8.size
    have hS := hS.ext ey8
    refine WL.nil (EX.mut hS ?_)
    refine HL.mut rfl (WL.call rfl rfl rfl (dc_notG y8 hBw g83) ?_)
    rintro v84 y9 ⟨g84, ey9⟩
    have hC := hC.ext ey9
    have g74 := g74.ext ey9
    have g75 := g75.ext ey9
    have g76 := g76.ext ey9
    have g78 := g78.ext ey9
    have g79 := g79.ext ey9
    have g80 := g80.ext ey9
    have g82 := g82.ext ey9
    have g83 := g83.ext ey9
    have hr := hr.ext ey9
    have ht := ht.ext ey9
    have ha := ha.ext ey9
    have hb := hb.ext ey9
    have hE := hE.trans ey9
    have hBw : w6.heap.size ≤ y9.heap.size := Nat.le_trans hBw ey9.size
    have hS := hS.ext ey9
    refine WL.nil (EX.mut hS ?_)
    refine HL.mut rfl (WL.callF (xs := []) (vs := []) rfl rfl rfl rfl (hC.runA.low hBw) ?_)
    rintro v86 y10 ⟨g86, ey10⟩
    have hC := hC.ext ey10
    have g74 := g74.ext ey10
    have g75 := g75.ext ey10
    have g76 := g76.ext ey10
    have g78 := g78.ext ey10
    have g79 := g79.ext ey10
    have g80 := g80.ext ey10
    have g82 := g82.ext ey10
    have g83 := g83.ext ey10
    have g84 := g84.ext ey10
    have hr := hr.ext ey10
    have ht := ht.ext ey10
    have ha := ha.ext ey10
    have hb := hb.ext ey10
    have hE := hE.trans ey10
    have hBw : w6.heap.size ≤ y10.heap.size := Nat.le_trans hBw ey10.size
    have hS := hS.ext ey10
    refine WL.nil (EX.mut hS ?_)
    refine HL.mut rfl (WL.call rfl rfl rfl (dc_someG y10 hBw g86) ?_)
    rintro v87 y11 ⟨g87, ey11⟩
    have hC := hC.ext ey11
    have g74 := g74.ext ey11
    have g75 := g75.ext ey11
    have g76 := g76.ext ey11
    have g78 := g78.ext ey11
    have g79 := g79.ext ey11
    have g80 := g80.ext ey11
    have g82 := g82.ext ey11
    have g83 := g83.ext ey11
    have g84 := g84.ext ey11
    have g86 := g86.ext ey11
    have hr := hr.ext ey11
    have ht := ht.ext ey11
    have ha := ha.ext ey11
    have hb := hb.ext ey11
    have hE := hE.trans ey11
    have hBw : w6.heap.size ≤ y11.heap.size := Nat.le_trans hBw ey11.size
    have hS := hS.ext ey11
    refine WL.nil (EX.mut hS ?_)
    refine HL.mut rfl (WL.call rfl rfl rfl (dc_orG y11 hBw g84 g87) ?_)
    rintro v88 y12 ⟨g88, ey12⟩
    have hC := hC.ext ey12
    have g74 := g74.ext ey12
    have g75 := g75.ext ey12
    have g76 := g76.ext ey12
    have g78 := g78.ext ey12
    have g79 := g79.ext ey12
    have g80 := g80.ext ey12
    have g82 := g82.ext ey12
    have g83 := g83.ext ey12
    have g84 := g84.ext ey12
    have g86 := g86.ext ey12
    have g87 := g87.ext ey12
    have hr := hr.ext ey12
    have ht := ht.ext ey12
    have ha := ha.ext ey12
    have hb := hb.ext ey12
    have hE := hE.trans ey12
    have hBw : w6.heap.size ≤ y12.heap.size := Nat.le_trans hBw ey12.size
    have hS := hS.ext ey12
    refine WL.nil (EX.mut hS ?_)
    refine HL.mut rfl (WL.call rfl rfl rfl (dc_andG y12 hBw g80 g88) ?_)
    rintro v89 y13 ⟨g89, ey13⟩
    have hC := hC.ext ey13
    have g74 := g74.ext ey13
    have g75 := g75.ext ey13
    have g76 := g76.ext ey13
    have g78 := g78.ext ey13
    have g79 := g79.ext ey13
    have g80 := g80.ext ey13
    have g82 := g82.ext ey13
    have g83 := g83.ext ey13
    have g84 := g84.ext ey13
    have g86 := g86.ext ey13
    have g87 := g87.ext ey13
    have g88 := g88.ext ey13
    have hr := hr.ext ey13
    have ht := ht.ext ey13
    have ha := ha.ext ey13
    have hb := hb.ext ey13
    have hE := hE.trans ey13
    have hBw : w6.heap.size ≤ y13.heap.size := Nat.le_trans hBw ey13.size
    have hS := hS.ext ey13
    refine WL.nil (EX.mut hS ?_)
    obtain ⟨uo, uc, rfl, hku⟩ := Rd.ltl g89
    refine HL.mut rfl (WL.st rfl rfl rfl hr rfl rfl (ones_of rfl) (fun z hz hgz => ?_))
    refine WL.nil (EX.mut (hS.st hgz) (HL.nil ?_))
    (repeat (first | (apply WL.add; rfl; rfl; rfl; rfl; omega; omega) | (apply QL.add; rfl; rfl; rfl; rfl; omega; omega) | (apply WL.sub'; rfl; rfl; rfl; rfl; omega; omega) | (apply QL.sub'; rfl; rfl; rfl; rfl; omega; omega) | (apply WL.mul; rfl; rfl; rfl; rfl; omega; omega) | (apply QL.mul; rfl; rfl; rfl; rfl; omega; omega) | (apply WL.pure; rfl; rfl; rfl) | (apply QL.pure; rfl; rfl; rfl) | (apply WL.nil) | (apply EX.thenN) | (apply CW.seq) | (apply CW.region) | (apply WL.pass; rfl; rfl) | (apply QL.pass; rfl; rfl) | (apply WL.eqB; rfl; rfl; rfl; rfl) | (apply QL.eqB; rfl; rfl; rfl; rfl) | (apply WL.neB; rfl; rfl; rfl; rfl) | (apply QL.neB; rfl; rfl; rfl; rfl) | (apply WL.lenS; rfl; rfl; rfl) | (apply QL.lenS; rfl; rfl; rfl) | (apply WL.makeFunc; rfl; rfl; rfl; rfl) | (apply QL.makeFunc; rfl; rfl; rfl; rfl) | (apply WL.fa; rfl; rfl; rfl) | (apply QL.fa; rfl; rfl; rfl) | (apply WL.nck; rfl; rfl; rfl) | (apply QL.nck; rfl; rfl; rfl) | (apply WL.ld; rfl; rfl; rfl; assumption; rfl) | (apply QL.ld; rfl; rfl; rfl; assumption; rfl) | (apply WL.ldA; rfl; rfl; rfl; assumption; rfl) | (apply QL.ldA; rfl; rfl; rfl; assumption; rfl) | (apply CW.block) | (apply EX.inN) | (apply CW.condT; rfl) | (apply CW.condF; rfl) | (apply CW.exit) | (apply EX.thenX) | (apply EX.inX) | (apply EX.inXne; rfl) | (apply CW.ret) | (apply EX.thenR) | (apply EX.inR) | (apply CW.skip) | (refine WL.lenO rfl rfl rfl (by assumption) ?_) | (apply WL.isNil; rfl; rfl; rfl) | (apply CW.draw; exact mixed; kernel_rfl)))
    exact EX.retC rfl rfl hz rfl ⟨(g89.st hgz (by omega)).low (by omega), ret_size hE hgz (by omega)⟩
  by_cases h13 : k = 13
  · subst h13
    (repeat (first | (apply WL.add; rfl; rfl; rfl; rfl; omega; omega) | (apply QL.add; rfl; rfl; rfl; rfl; omega; omega) | (apply WL.sub'; rfl; rfl; rfl; rfl; omega; omega) | (apply QL.sub'; rfl; rfl; rfl; rfl; omega; omega) | (apply WL.mul; rfl; rfl; rfl; rfl; omega; omega) | (apply QL.mul; rfl; rfl; rfl; rfl; omega; omega) | (apply WL.pure; rfl; rfl; rfl) | (apply QL.pure; rfl; rfl; rfl) | (apply WL.nil) | (apply EX.thenN) | (apply CW.seq) | (apply CW.region) | (apply WL.pass; rfl; rfl) | (apply QL.pass; rfl; rfl) | (apply WL.eqB; rfl; rfl; rfl; rfl) | (apply QL.eqB; rfl; rfl; rfl; rfl) | (apply WL.neB; rfl; rfl; rfl; rfl) | (apply QL.neB; rfl; rfl; rfl; rfl) | (apply WL.lenS; rfl; rfl; rfl) | (apply QL.lenS; rfl; rfl; rfl) | (apply WL.makeFunc; rfl; rfl; rfl; rfl) | (apply QL.makeFunc; rfl; rfl; rfl; rfl) | (apply WL.fa; rfl; rfl; rfl) | (apply QL.fa; rfl; rfl; rfl) | (apply WL.nck; rfl; rfl; rfl) | (apply QL.nck; rfl; rfl; rfl) | (apply WL.ld; rfl; rfl; rfl; assumption; rfl) | (apply QL.ld; rfl; rfl; rfl; assumption; rfl) | (apply WL.ldA; rfl; rfl; rfl; assumption; rfl) | (apply QL.ldA; rfl; rfl; rfl; assumption; rfl) | (apply CW.block) | (apply EX.inN) | (apply CW.condT; rfl) | (apply CW.condF; rfl) | (apply CW.exit) | (apply EX.thenX) | (apply EX.inX) | (apply EX.inXne; rfl) | (apply CW.ret) | (apply EX.thenR) | (apply EX.inR) | (apply CW.skip) | (refine WL.lenO rfl rfl rfl (by assumption) ?_) | (apply WL.isNil; rfl; rfl; rfl)))
    have ed := Ext.drew w6
    have hC := hC.ext ed
    have hr := hr.ext ed
    have hrlt := hr.lt
    have ht := ht.ext ed
    have htlt := ht.lt
    have ha := ha.ext ed
    have halt := ha.lt
    have hb := hb.ext ed
    have hblt := hb.lt
    have hE := hE6.trans ed
    have htK : ∀ x, (fun x : World => SO w1.heap.size (drew w6) x) x → x.heap[w.heap.size]? = (drew w6).heap[w.heap.size]? := fun x hx => hx.2 _ (by omega) htlt
    have haK : ∀ x, (fun x : World => SO w1.heap.size (drew w6) x) x → x.heap[w2.heap.size]? = (drew w6).heap[w2.heap.size]? := fun x hx => hx.2 _ (by omega) halt
    have hbK : ∀ x, (fun x : World => SO w1.heap.size (drew w6) x) x → x.heap[w4.heap.size]? = (drew w6).heap[w4.heap.size]? := fun x hx => hx.2 _ (by omega) hblt
    (repeat (first | (apply WL.add; rfl; rfl; rfl; rfl; omega; omega) | (apply QL.add; rfl; rfl; rfl; rfl; omega; omega) | (apply WL.sub'; rfl; rfl; rfl; rfl; omega; omega) | (apply QL.sub'; rfl; rfl; rfl; rfl; omega; omega) | (apply WL.mul; rfl; rfl; rfl; rfl; omega; omega) | (apply QL.mul; rfl; rfl; rfl; rfl; omega; omega) | (apply WL.pure; rfl; rfl; rfl) | (apply QL.pure; rfl; rfl; rfl) | (apply WL.nil) | (apply EX.thenN) | (apply CW.seq) | (apply CW.region) | (apply WL.pass; rfl; rfl) | (apply QL.pass; rfl; rfl) | (apply WL.eqB; rfl; rfl; rfl; rfl) | (apply QL.eqB; rfl; rfl; rfl; rfl) | (apply WL.neB; rfl; rfl; rfl; rfl) | (apply QL.neB; rfl; rfl; rfl; rfl) | (apply WL.lenS; rfl; rfl; rfl) | (apply QL.lenS; rfl; rfl; rfl) | (apply WL.makeFunc; rfl; rfl; rfl; rfl) | (apply QL.makeFunc; rfl; rfl; rfl; rfl) | (apply WL.fa; rfl; rfl; rfl) | (apply QL.fa; rfl; rfl; rfl) | (apply WL.nck; rfl; rfl; rfl) | (apply QL.nck; rfl; rfl; rfl) | (apply WL.ld; rfl; rfl; rfl; assumption; rfl) | (apply QL.ld; rfl; rfl; rfl; assumption; rfl) | (apply WL.ldA; rfl; rfl; rfl; assumption; rfl) | (apply QL.ldA; rfl; rfl; rfl; assumption; rfl) | (apply CW.block) | (apply EX.inN) | (apply CW.condT; rfl) | (apply CW.condF; rfl) | (apply CW.exit) | (apply EX.thenX) | (apply EX.inX) | (apply EX.inXne; rfl) | (apply CW.ret) | (apply EX.thenR) | (apply EX.inR) | (apply CW.skip) | (refine WL.lenO rfl rfl rfl (by assumption) ?_) | (apply WL.isNil; rfl; rfl; rfl)))
    refine CW.drawH (fun x : World => SO w1.heap.size (drew w6) x) [(0, true), (3, true), (1, false), (2, false), (4, false), (5, false), (6, false), (7, false), (8, false)] mixed (by kernel_rfl) (SO.refl _ _) ?_
    have hS : SO w1.heap.size (drew w6) (drew w6) := SO.refl _ _
    have hBw : w6.heap.size ≤ (drew w6).heap.size := by have := ed.size; omega
    (repeat (first | (apply HL.add; rfl; rfl; rfl; rfl; rfl; omega; omega) | (apply HL.sub'; rfl; rfl; rfl; rfl; rfl; omega; omega) | (apply HL.pure; rfl; rfl; rfl; rfl) | (apply HL.pass; rfl; rfl; rfl) | (refine HL.fa rfl rfl rfl rfl ?_) | (apply HL.nck; rfl; rfl; rfl; rfl) | (refine HL.ld (by assumption) rfl rfl rfl rfl (by assumption) rfl ?_) | (refine HL.ldK (by assumption) rfl rfl rfl rfl (by assumption) rfl ?_) | (refine HL.ldA (by assumption) rfl rfl rfl rfl (by assumption) rfl ?_) | (refine HL.lenS rfl rfl rfl rfl ?_) | (refine HL.eqB rfl rfl rfl rfl rfl ?_) | (refine HL.neB rfl rfl rfl rfl rfl ?_) | (refine HL.build rfl rfl rfl rfl rfl ?_) | (apply HL.makeFunc; rfl; rfl; rfl; rfl; rfl) | (apply HL.nil)))
    refine HL.mut rfl (WL.callF (xs := []) (vs := []) rfl rfl rfl rfl (hC.runA.low hBw) ?_)
    rintro v93 y1 ⟨g93, ey1⟩
    have hC := hC.ext ey1
    have hr := hr.ext ey1
    have ht := ht.ext ey1
    have ha := ha.ext ey1
    have hb := hb.ext ey1
    have hE := hE.trans ey1
    have hBw : w6.heap.size ≤ y1.heap.size := Nat.le_trans hBw ey1.size
    have hS := hS.ext ey1
    refine WL.nil (EX.mut hS ?_)
    refine HL.mut rfl (WL.call rfl rfl rfl (dc_someG y1 hBw g93) ?_)
    rintro v94 y2 ⟨g94, ey2⟩
    have hC := hC.ext ey2
    have g93 := g93.ext ey2
    have hr := hr.ext ey2
    have ht := ht.ext ey2
    have ha := ha.ext ey2
    have hb := hb.ext ey2
    have hE := hE.trans ey2
    have hBw : w6.heap.size ≤ y2.heap.size := Nat.le_trans hBw ey2.size
    have hS := hS.ext ey2
    refine WL.nil (EX.mut hS ?_)
    refine HL.mut rfl (WL.callF (xs := []) (vs := []) rfl rfl rfl rfl (hC.runB.low hBw) ?_)
    rintro v96 y3 ⟨g96, ey3⟩
    have hC := hC.ext ey3
    have g93 := g93.ext ey3
    have g94 := g94.ext ey3
    have hr := hr.ext ey3
    have ht := ht.ext ey3
    have ha := ha.ext ey3
    have hb := hb.ext ey3
    have hE := hE.trans ey3
    have hBw : w6.heap.size ≤ y3.heap.size := Nat.le_trans hBw ey3.size
    have hS := hS.ext ey3
    refine WL.nil (EX.mut hS ?_)
    refine HL.mut rfl (WL.call rfl rfl rfl (dc_someG y3 hBw g96) ?_)
    rintro v97 y4 ⟨g97, ey4⟩
    have hC := hC.ext ey4
    have g93 := g93.ext ey4
    have g94 := g94.ext ey4
    have g96 := g96.ext ey4
    have hr := hr.ext ey4
    have ht := ht.ext ey4
    have ha := ha.ext ey4
    have hb := hb.ext ey4
    have hE := hE.trans ey4
    have hBw : w6.heap.size ≤ y4.heap.size := Nat.le_trans hBw ey4.size
    have hS := hS.ext ey4
    refine WL.nil (EX.mut hS ?_)
    refine HL.mut rfl (WL.call rfl rfl rfl (dc_andG y4 hBw g94 g97) ?_)
    rintro v98 y5 ⟨g98, ey5⟩
    have hC := hC.ext ey5
    have g93 := g93.ext ey5
    have g94 := g94.ext ey5
    have g96 := g96.ext ey5
    have g97 := g97.ext ey5
    have hr := hr.ext ey5
    have ht := ht.ext ey5
    have ha := ha.ext ey5
    have hb := hb.ext ey5
    have hE := hE.trans ey5
    have hBw : w6.heap.size ≤ y5.heap.size := Nat.le_trans hBw ey5.size
    have hS := hS.ext ey5
    refine WL.nil (EX.mut hS ?_)
    refine HL.mut rfl (WL.call rfl rfl rfl (dc_notG y5 hBw g98) ?_)
    rintro v99 y6 ⟨g99, ey6⟩
    have hC := hC.ext ey6
    have g93 := g93.ext ey6
    have g94 := g94.ext ey6
    have g96 := g96.ext ey6
    have g97 := g97.ext ey6
    have g98 := g98.ext ey6
    have hr := hr.ext ey6
    have ht := ht.ext ey6
    have ha := ha.ext ey6
    have hb := hb.ext ey6
    have hE := hE.trans ey6
    have hBw : w6.heap.size ≤ y6.heap.size := Nat.le_trans hBw ey6.size
    have hS := hS.ext ey6
    refine WL.nil (EX.mut hS ?_)
    obtain ⟨uo, uc, rfl, hku⟩ := Rd.ltl g99
    refine HL.mut rfl (WL.st rfl rfl rfl hr rfl rfl (ones_of rfl) (fun z hz hgz => ?_))
    refine WL.nil (EX.mut (hS.st hgz) (HL.nil ?_))
    (repeat (first | (apply WL.add; rfl; rfl; rfl; rfl; omega; omega) | (apply QL.add; rfl; rfl; rfl; rfl; omega; omega) | (apply WL.sub'; rfl; rfl; rfl; rfl; omega; omega) | (apply QL.sub'; rfl; rfl; rfl; rfl; omega; omega) | (apply WL.mul; rfl; rfl; rfl; rfl; omega; omega) | (apply QL.mul; rfl; rfl; rfl; rfl; omega; omega) | (apply WL.pure; rfl; rfl; rfl) | (apply QL.pure; rfl; rfl; rfl) | (apply WL.nil) | (apply EX.thenN) | (apply CW.seq) | (apply CW.region) | (apply WL.pass; rfl; rfl) | (apply QL.pass; rfl; rfl) | (apply WL.eqB; rfl; rfl; rfl; rfl) | (apply QL.eqB; rfl; rfl; rfl; rfl) | (apply WL.neB; rfl; rfl; rfl; rfl) | (apply QL.neB; rfl; rfl; rfl; rfl) | (apply WL.lenS; rfl; rfl; rfl) | (apply QL.lenS; rfl; rfl; rfl) | (apply WL.makeFunc; rfl; rfl; rfl; rfl) | (apply QL.makeFunc; rfl; rfl; rfl; rfl) | (apply WL.fa; rfl; rfl; rfl) | (apply QL.fa; rfl; rfl; rfl) | (apply WL.nck; rfl; rfl; rfl) | (apply QL.nck; rfl; rfl; rfl) | (apply WL.ld; rfl; rfl; rfl; assumption; rfl) | (apply QL.ld; rfl; rfl; rfl; assumption; rfl) | (apply WL.ldA; rfl; rfl; rfl; assumption; rfl) | (apply QL.ldA; rfl; rfl; rfl; assumption; rfl) | (apply CW.block) | (apply EX.inN) | (apply CW.condT; rfl) | (apply CW.condF; rfl) | (apply CW.exit) | (apply EX.thenX) | (apply EX.inX) | (apply EX.inXne; rfl) | (apply CW.ret) | (apply EX.thenR) | (apply EX.inR) | (apply CW.skip) | (refine WL.lenO rfl rfl rfl (by assumption) ?_) | (apply WL.isNil; rfl; rfl; rfl) | (apply CW.draw; exact mixed; kernel_rfl)))
    exact EX.retC rfl rfl hz rfl ⟨(g99.st hgz (by omega)).low (by omega), ret_size hE hgz (by omega)⟩
  by_cases h8 : k = 8
  · subst h8
    (repeat (first | (apply WL.add; rfl; rfl; rfl; rfl; omega; omega) | (apply QL.add; rfl; rfl; rfl; rfl; omega; omega) | (apply WL.sub'; rfl; rfl; rfl; rfl; omega; omega) | (apply QL.sub'; rfl; rfl; rfl; rfl; omega; omega) | (apply WL.mul; rfl; rfl; rfl; rfl; omega; omega) | (apply QL.mul; rfl; rfl; rfl; rfl; omega; omega) | (apply WL.pure; rfl; rfl; rfl) | (apply QL.pure; rfl; rfl; rfl) | (apply WL.nil) | (apply EX.thenN) | (apply CW.seq) | (apply CW.region) | (apply WL.pass; rfl; rfl) | (apply QL.pass; rfl; rfl) | (apply WL.eqB; rfl; rfl; rfl; rfl) | (apply QL.eqB; rfl; rfl; rfl; rfl) | (apply WL.neB; rfl; rfl; rfl; rfl) | (apply QL.neB; rfl; rfl; rfl; rfl) | (apply WL.lenS; rfl; rfl; rfl) | (apply QL.lenS; rfl; rfl; rfl) | (apply WL.makeFunc; rfl; rfl; rfl; rfl) | (apply QL.makeFunc; rfl; rfl; rfl; rfl) | (apply WL.fa; rfl; rfl; rfl) | (apply QL.fa; rfl; rfl; rfl) | (apply WL.nck; rfl; rfl; rfl) | (apply QL.nck; rfl; rfl; rfl) | (apply WL.ld; rfl; rfl; rfl; assumption; rfl) | (apply QL.ld; rfl; rfl; rfl; assumption; rfl) | (apply WL.ldA; rfl; rfl; rfl; assumption; rfl) | (apply QL.ldA; rfl; rfl; rfl; assumption; rfl) | (apply CW.block) | (apply EX.inN) | (apply CW.condT; rfl) | (apply CW.condF; rfl) | (apply CW.exit) | (apply EX.thenX) | (apply EX.inX) | (apply EX.inXne; rfl) | (apply CW.ret) | (apply EX.thenR) | (apply EX.inR) | (apply CW.skip) | (refine WL.lenO rfl rfl rfl (by assumption) ?_) | (apply WL.isNil; rfl; rfl; rfl)))
    have hBw : w6.heap.size ≤ w6.heap.size := by omega
    have hE := hE6
    (repeat (first | (apply WL.add; rfl; rfl; rfl; rfl; omega; omega) | (apply QL.add; rfl; rfl; rfl; rfl; omega; omega) | (apply WL.sub'; rfl; rfl; rfl; rfl; omega; omega) | (apply QL.sub'; rfl; rfl; rfl; rfl; omega; omega) | (apply WL.mul; rfl; rfl; rfl; rfl; omega; omega) | (apply QL.mul; rfl; rfl; rfl; rfl; omega; omega) | (apply WL.pure; rfl; rfl; rfl) | (apply QL.pure; rfl; rfl; rfl) | (apply WL.nil) | (apply EX.thenN) | (apply CW.seq) | (apply CW.region) | (apply WL.pass; rfl; rfl) | (apply QL.pass; rfl; rfl) | (apply WL.eqB; rfl; rfl; rfl; rfl) | (apply QL.eqB; rfl; rfl; rfl; rfl) | (apply WL.neB; rfl; rfl; rfl; rfl) | (apply QL.neB; rfl; rfl; rfl; rfl) | (apply WL.lenS; rfl; rfl; rfl) | (apply QL.lenS; rfl; rfl; rfl) | (apply WL.makeFunc; rfl; rfl; rfl; rfl) | (apply QL.makeFunc; rfl; rfl; rfl; rfl) | (apply WL.fa; rfl; rfl; rfl) | (apply QL.fa; rfl; rfl; rfl) | (apply WL.nck; rfl; rfl; rfl) | (apply QL.nck; rfl; rfl; rfl) | (apply WL.ld; rfl; rfl; rfl; assumption; rfl) | (apply QL.ld; rfl; rfl; rfl; assumption; rfl) | (apply WL.ldA; rfl; rfl; rfl; assumption; rfl) | (apply QL.ldA; rfl; rfl; rfl; assumption; rfl) | (apply CW.block) | (apply EX.inN) | (apply CW.condT; rfl) | (apply CW.condF; rfl) | (apply CW.exit) | (apply EX.thenX) | (apply EX.inX) | (apply EX.inXne; rfl) | (apply CW.ret) | (apply EX.thenR) | (apply EX.inR) | (apply CW.skip) | (refine WL.lenO rfl rfl rfl (by assumption) ?_) | (apply WL.isNil; rfl; rfl; rfl) | (apply CW.draw; exact mixed; kernel_rfl)))
    refine WL.callF (xs := []) (vs := []) rfl rfl rfl rfl (FnV.low (FnV.mk (cs := [_, _]) (clo3 w6 hC)) hBw) ?_
    rintro v103 y1 ⟨g103, ey1⟩
    have hC := hC.ext ey1
    have hr := hr.ext ey1
    have ht := ht.ext ey1
    have ha := ha.ext ey1
    have hb := hb.ext ey1
    have hE := hE.trans ey1
    have hBw : w6.heap.size ≤ y1.heap.size := Nat.le_trans hBw ey1.size
    obtain ⟨uo, uc, rfl, hku⟩ := Rd.ltl g103
    refine WL.st rfl rfl rfl hr rfl rfl (ones_of rfl) (fun z hz hgz => ?_)
    (repeat (first | (apply WL.add; rfl; rfl; rfl; rfl; omega; omega) | (apply QL.add; rfl; rfl; rfl; rfl; omega; omega) | (apply WL.sub'; rfl; rfl; rfl; rfl; omega; omega) | (apply QL.sub'; rfl; rfl; rfl; rfl; omega; omega) | (apply WL.mul; rfl; rfl; rfl; rfl; omega; omega) | (apply QL.mul; rfl; rfl; rfl; rfl; omega; omega) | (apply WL.pure; rfl; rfl; rfl) | (apply QL.pure; rfl; rfl; rfl) | (apply WL.nil) | (apply EX.thenN) | (apply CW.seq) | (apply CW.region) | (apply WL.pass; rfl; rfl) | (apply QL.pass; rfl; rfl) | (apply WL.eqB; rfl; rfl; rfl; rfl) | (apply QL.eqB; rfl; rfl; rfl; rfl) | (apply WL.neB; rfl; rfl; rfl; rfl) | (apply QL.neB; rfl; rfl; rfl; rfl) | (apply WL.lenS; rfl; rfl; rfl) | (apply QL.lenS; rfl; rfl; rfl) | (apply WL.makeFunc; rfl; rfl; rfl; rfl) | (apply QL.makeFunc; rfl; rfl; rfl; rfl) | (apply WL.fa; rfl; rfl; rfl) | (apply QL.fa; rfl; rfl; rfl) | (apply WL.nck; rfl; rfl; rfl) | (apply QL.nck; rfl; rfl; rfl) | (apply WL.ld; rfl; rfl; rfl; assumption; rfl) | (apply QL.ld; rfl; rfl; rfl; assumption; rfl) | (apply WL.ldA; rfl; rfl; rfl; assumption; rfl) | (apply QL.ldA; rfl; rfl; rfl; assumption; rfl) | (apply CW.block) | (apply EX.inN) | (apply CW.condT; rfl) | (apply CW.condF; rfl) | (apply CW.exit) | (apply EX.thenX) | (apply EX.inX) | (apply EX.inXne; rfl) | (apply CW.ret) | (apply EX.thenR) | (apply EX.inR) | (apply CW.skip) | (refine WL.lenO rfl rfl rfl (by assumption) ?_) | (apply WL.isNil; rfl; rfl; rfl) | (apply CW.draw; exact mixed; kernel_rfl)))
    exact EX.retC rfl rfl hz rfl ⟨(g103.st hgz (by omega)).low (by omega), ret_size hE hgz (by omega)⟩
  by_cases h9 : k = 9
  · subst h9
    (repeat (first | (apply WL.add; rfl; rfl; rfl; rfl; omega; omega) | (apply QL.add; rfl; rfl; rfl; rfl; omega; omega) | (apply WL.sub'; rfl; rfl; rfl; rfl; omega; omega) | (apply QL.sub'; rfl; rfl; rfl; rfl; omega; omega) | (apply WL.mul; rfl; rfl; rfl; rfl; omega; omega) | (apply QL.mul; rfl; rfl; rfl; rfl; omega; omega) | (apply WL.pure; rfl; rfl; rfl) | (apply QL.pure; rfl; rfl; rfl) | (apply WL.nil) | (apply EX.thenN) | (apply CW.seq) | (apply CW.region) | (apply WL.pass; rfl; rfl) | (apply QL.pass; rfl; rfl) | (apply WL.eqB; rfl; rfl; rfl; rfl) | (apply QL.eqB; rfl; rfl; rfl; rfl) | (apply WL.neB; rfl; rfl; rfl; rfl) | (apply QL.neB; rfl; rfl; rfl; rfl) | (apply WL.lenS; rfl; rfl; rfl) | (apply QL.lenS; rfl; rfl; rfl) | (apply WL.makeFunc; rfl; rfl; rfl; rfl) | (apply QL.makeFunc; rfl; rfl; rfl; rfl) | (apply WL.fa; rfl; rfl; rfl) | (apply QL.fa; rfl; rfl; rfl) | (apply WL.nck; rfl; rfl; rfl) | (apply QL.nck; rfl; rfl; rfl) | (apply WL.ld; rfl; rfl; rfl; assumption; rfl) | (apply QL.ld; rfl; rfl; rfl; assumption; rfl) | (apply WL.ldA; rfl; rfl; rfl; assumption; rfl) | (apply QL.ldA; rfl; rfl; rfl; assumption; rfl) | (apply CW.block) | (apply EX.inN) | (apply CW.condT; rfl) | (apply CW.condF; rfl) | (apply CW.exit) | (apply EX.thenX) | (apply EX.inX) | (apply EX.inXne; rfl) | (apply CW.ret) | (apply EX.thenR) | (apply EX.inR) | (apply CW.skip) | (refine WL.lenO rfl rfl rfl (by assumption) ?_) | (apply WL.isNil; rfl; rfl; rfl)))
    have hBw : w6.heap.size ≤ w6.heap.size := by omega
    have hE := hE6
    (repeat (first | (apply WL.add; rfl; rfl; rfl; rfl; omega; omega) | (apply QL.add; rfl; rfl; rfl; rfl; omega; omega) | (apply WL.sub'; rfl; rfl; rfl; rfl; omega; omega) | (apply QL.sub'; rfl; rfl; rfl; rfl; omega; omega) | (apply WL.mul; rfl; rfl; rfl; rfl; omega; omega) | (apply QL.mul; rfl; rfl; rfl; rfl; omega; omega) | (apply WL.pure; rfl; rfl; rfl) | (apply QL.pure; rfl; rfl; rfl) | (apply WL.nil) | (apply EX.thenN) | (apply CW.seq) | (apply CW.region) | (apply WL.pass; rfl; rfl) | (apply QL.pass; rfl; rfl) | (apply WL.eqB; rfl; rfl; rfl; rfl) | (apply QL.eqB; rfl; rfl; rfl; rfl) | (apply WL.neB; rfl; rfl; rfl; rfl) | (apply QL.neB; rfl; rfl; rfl; rfl) | (apply WL.lenS; rfl; rfl; rfl) | (apply QL.lenS; rfl; rfl; rfl) | (apply WL.makeFunc; rfl; rfl; rfl; rfl) | (apply QL.makeFunc; rfl; rfl; rfl; rfl) | (apply WL.fa; rfl; rfl; rfl) | (apply QL.fa; rfl; rfl; rfl) | (apply WL.nck; rfl; rfl; rfl) | (apply QL.nck; rfl; rfl; rfl) | (apply WL.ld; rfl; rfl; rfl; assumption; rfl) | (apply QL.ld; rfl; rfl; rfl; assumption; rfl) | (apply WL.ldA; rfl; rfl; rfl; assumption; rfl) | (apply QL.ldA; rfl; rfl; rfl; assumption; rfl) | (apply CW.block) | (apply EX.inN) | (apply CW.condT; rfl) | (apply CW.condF; rfl) | (apply CW.exit) | (apply EX.thenX) | (apply EX.inX) | (apply EX.inXne; rfl) | (apply CW.ret) | (apply EX.thenR) | (apply EX.inR) | (apply CW.skip) | (refine WL.lenO rfl rfl rfl (by assumption) ?_) | (apply WL.isNil; rfl; rfl; rfl) | (apply CW.draw; exact mixed; kernel_rfl)))
    refine WL.callF (xs := []) (vs := []) rfl rfl rfl rfl (FnV.low (FnV.mk (cs := [_, _]) (clo4 w6 hC)) hBw) ?_
    rintro v107 y1 ⟨g107, ey1⟩
    have hC := hC.ext ey1
    have hr := hr.ext ey1
    have ht := ht.ext ey1
    have ha := ha.ext ey1
    have hb := hb.ext ey1
    have hE := hE.trans ey1
    have hBw : w6.heap.size ≤ y1.heap.size := Nat.le_trans hBw ey1.size
    obtain ⟨uo, uc, rfl, hku⟩ := Rd.ltl g107
    refine WL.st rfl rfl rfl hr rfl rfl (ones_of rfl) (fun z hz hgz => ?_)
    (repeat (first | (apply WL.add; rfl; rfl; rfl; rfl; omega; omega) | (apply QL.add; rfl; rfl; rfl; rfl; omega; omega) | (apply WL.sub'; rfl; rfl; rfl; rfl; omega; omega) | (apply QL.sub'; rfl; rfl; rfl; rfl; omega; omega) | (apply WL.mul; rfl; rfl; rfl; rfl; omega; omega) | (apply QL.mul; rfl; rfl; rfl; rfl; omega; omega) | (apply WL.pure; rfl; rfl; rfl) | (apply QL.pure; rfl; rfl; rfl) | (apply WL.nil) | (apply EX.thenN) | (apply CW.seq) | (apply CW.region) | (apply WL.pass; rfl; rfl) | (apply QL.pass; rfl; rfl) | (apply WL.eqB; rfl; rfl; rfl; rfl) | (apply QL.eqB; rfl; rfl; rfl; rfl) | (apply WL.neB; rfl; rfl; rfl; rfl) | (apply QL.neB; rfl; rfl; rfl; rfl) | (apply WL.lenS; rfl; rfl; rfl) | (apply QL.lenS; rfl; rfl; rfl) | (apply WL.makeFunc; rfl; rfl; rfl; rfl) | (apply QL.makeFunc; rfl; rfl; rfl; rfl) | (apply WL.fa; rfl; rfl; rfl) | (apply QL.fa; rfl; rfl; rfl) | (apply WL.nck; rfl; rfl; rfl) | (apply QL.nck; rfl; rfl; rfl) | (apply WL.ld; rfl; rfl; rfl; assumption; rfl) | (apply QL.ld; rfl; rfl; rfl; assumption; rfl) | (apply WL.ldA; rfl; rfl; rfl; assumption; rfl) | (apply QL.ldA; rfl; rfl; rfl; assumption; rfl) | (apply CW.block) | (apply EX.inN) | (apply CW.condT; rfl) | (apply CW.condF; rfl) | (apply CW.exit) | (apply EX.thenX) | (apply EX.inX) | (apply EX.inXne; rfl) | (apply CW.ret) | (apply EX.thenR) | (apply EX.inR) | (apply CW.skip) | (refine WL.lenO rfl rfl rfl (by assumption) ?_) | (apply WL.isNil; rfl; rfl; rfl) | (apply CW.draw; exact mixed; kernel_rfl)))
    exact EX.retC rfl rfl hz rfl ⟨(g107.st hgz (by omega)).low (by omega), ret_size hE hgz (by omega)⟩
  by_cases h10 : k = 10
  · subst h10
    (repeat (first | (apply WL.add; rfl; rfl; rfl; rfl; omega; omega) | (apply QL.add; rfl; rfl; rfl; rfl; omega; omega) | (apply WL.sub'; rfl; rfl; rfl; rfl; omega; omega) | (apply QL.sub'; rfl; rfl; rfl; rfl; omega; omega) | (apply WL.mul; rfl; rfl; rfl; rfl; omega; omega) | (apply QL.mul; rfl; rfl; rfl; rfl; omega; omega) | (apply WL.pure; rfl; rfl; rfl) | (apply QL.pure; rfl; rfl; rfl) | (apply WL.nil) | (apply EX.thenN) | (apply CW.seq) | (apply CW.region) | (apply WL.pass; rfl; rfl) | (apply QL.pass; rfl; rfl) | (apply WL.eqB; rfl; rfl; rfl; rfl) | (apply QL.eqB; rfl; rfl; rfl; rfl) | (apply WL.neB; rfl; rfl; rfl; rfl) | (apply QL.neB; rfl; rfl; rfl; rfl) | (apply WL.lenS; rfl; rfl; rfl) | (apply QL.lenS; rfl; rfl; rfl) | (apply WL.makeFunc; rfl; rfl; rfl; rfl) | (apply QL.makeFunc; rfl; rfl; rfl; rfl) | (apply WL.fa; rfl; rfl; rfl) | (apply QL.fa; rfl; rfl; rfl) | (apply WL.nck; rfl; rfl; rfl) | (apply QL.nck; rfl; rfl; rfl) | (apply WL.ld; rfl; rfl; rfl; assumption; rfl) | (apply QL.ld; rfl; rfl; rfl; assumption; rfl) | (apply WL.ldA; rfl; rfl; rfl; assumption; rfl) | (apply QL.ldA; rfl; rfl; rfl; assumption; rfl) | (apply CW.block) | (apply EX.inN) | (apply CW.condT; rfl) | (apply CW.condF; rfl) | (apply CW.exit) | (apply EX.thenX) | (apply EX.inX) | (apply EX.inXne; rfl) | (apply CW.ret) | (apply EX.thenR) | (apply EX.inR) | (apply CW.skip) | (refine WL.lenO rfl rfl rfl (by assumption) ?_) | (apply WL.isNil; rfl; rfl; rfl)))
    have hBw : w6.heap.size ≤ w6.heap.size := by omega
    have hE := hE6
    (repeat (first | (apply WL.add; rfl; rfl; rfl; rfl; omega; omega) | (apply QL.add; rfl; rfl; rfl; rfl; omega; omega) | (apply WL.sub'; rfl; rfl; rfl; rfl; omega; omega) | (apply QL.sub'; rfl; rfl; rfl; rfl; omega; omega) | (apply WL.mul; rfl; rfl; rfl; rfl; omega; omega) | (apply QL.mul; rfl; rfl; rfl; rfl; omega; omega) | (apply WL.pure; rfl; rfl; rfl) | (apply QL.pure; rfl; rfl; rfl) | (apply WL.nil) | (apply EX.thenN) | (apply CW.seq) | (apply CW.region) | (apply WL.pass; rfl; rfl) | (apply QL.pass; rfl; rfl) | (apply WL.eqB; rfl; rfl; rfl; rfl) | (apply QL.eqB; rfl; rfl; rfl; rfl) | (apply WL.neB; rfl; rfl; rfl; rfl) | (apply QL.neB; rfl; rfl; rfl; rfl) | (apply WL.lenS; rfl; rfl; rfl) | (apply QL.lenS; rfl; rfl; rfl) | (apply WL.makeFunc; rfl; rfl; rfl; rfl) | (apply QL.makeFunc; rfl; rfl; rfl; rfl) | (apply WL.fa; rfl; rfl; rfl) | (apply QL.fa; rfl; rfl; rfl) | (apply WL.nck; rfl; rfl; rfl) | (apply QL.nck; rfl; rfl; rfl) | (apply WL.ld; rfl; rfl; rfl; assumption; rfl) | (apply QL.ld; rfl; rfl; rfl; assumption; rfl) | (apply WL.ldA; rfl; rfl; rfl; assumption; rfl) | (apply QL.ldA; rfl; rfl; rfl; assumption; rfl) | (apply CW.block) | (apply EX.inN) | (apply CW.condT; rfl) | (apply CW.condF; rfl) | (apply CW.exit) | (apply EX.thenX) | (apply EX.inX) | (apply EX.inXne; rfl) | (apply CW.ret) | (apply EX.thenR) | (apply EX.inR) | (apply CW.skip) | (refine WL.lenO rfl rfl rfl (by assumption) ?_) | (apply WL.isNil; rfl; rfl; rfl) | (apply CW.draw; exact mixed; kernel_rfl)))
    refine WL.callF (xs := []) (vs := []) rfl rfl rfl rfl (FnV.low (FnV.mk (cs := [_, _]) (clo3 w6 hC)) hBw) ?_
    rintro v111 y1 ⟨g111, ey1⟩
    have hC := hC.ext ey1
    have hr := hr.ext ey1
    have ht := ht.ext ey1
    have ha := ha.ext ey1
    have hb := hb.ext ey1
    have hE := hE.trans ey1
    have hBw : w6.heap.size ≤ y1.heap.size := Nat.le_trans hBw ey1.size
    (repeat (first | (apply WL.add; rfl; rfl; rfl; rfl; omega; omega) | (apply QL.add; rfl; rfl; rfl; rfl; omega; omega) | (apply WL.sub'; rfl; rfl; rfl; rfl; omega; omega) | (apply QL.sub'; rfl; rfl; rfl; rfl; omega; omega) | (apply WL.mul; rfl; rfl; rfl; rfl; omega; omega) | (apply QL.mul; rfl; rfl; rfl; rfl; omega; omega) | (apply WL.pure; rfl; rfl; rfl) | (apply QL.pure; rfl; rfl; rfl) | (apply WL.nil) | (apply EX.thenN) | (apply CW.seq) | (apply CW.region) | (apply WL.pass; rfl; rfl) | (apply QL.pass; rfl; rfl) | (apply WL.eqB; rfl; rfl; rfl; rfl) | (apply QL.eqB; rfl; rfl; rfl; rfl) | (apply WL.neB; rfl; rfl; rfl; rfl) | (apply QL.neB; rfl; rfl; rfl; rfl) | (apply WL.lenS; rfl; rfl; rfl) | (apply QL.lenS; rfl; rfl; rfl) | (apply WL.makeFunc; rfl; rfl; rfl; rfl) | (apply QL.makeFunc; rfl; rfl; rfl; rfl) | (apply WL.fa; rfl; rfl; rfl) | (apply QL.fa; rfl; rfl; rfl) | (apply WL.nck; rfl; rfl; rfl) | (apply QL.nck; rfl; rfl; rfl) | (apply WL.ld; rfl; rfl; rfl; assumption; rfl) | (apply QL.ld; rfl; rfl; rfl; assumption; rfl) | (apply WL.ldA; rfl; rfl; rfl; assumption; rfl) | (apply QL.ldA; rfl; rfl; rfl; assumption; rfl) | (apply CW.block) | (apply EX.inN) | (apply CW.condT; rfl) | (apply CW.condF; rfl) | (apply CW.exit) | (apply EX.thenX) | (apply EX.inX) | (apply EX.inXne; rfl) | (apply CW.ret) | (apply EX.thenR) | (apply EX.inR) | (apply CW.skip) | (refine WL.lenO rfl rfl rfl (by assumption) ?_) | (apply WL.isNil; rfl; rfl; rfl) | (apply CW.draw; exact mixed; kernel_rfl)))
    refine WL.callF (xs := []) (vs := []) rfl rfl rfl rfl (FnV.low (FnV.mk (cs := [_, _]) (clo4 y1 hC)) hBw) ?_
    rintro v113 y2 ⟨g113, ey2⟩
    have hC := hC.ext ey2
    have g111 := g111.ext ey2
    have hr := hr.ext ey2
    have ht := ht.ext ey2
    have ha := ha.ext ey2
    have hb := hb.ext ey2
    have hE := hE.trans ey2
    have hBw : w6.heap.size ≤ y2.heap.size := Nat.le_trans hBw ey2.size
    refine WL.call rfl rfl rfl (dc_andG y2 hBw g111 g113) ?_
    rintro v114 y3 ⟨g114, ey3⟩
    have hC := hC.ext ey3
    have g111 := g111.ext ey3
    have g113 := g113.ext ey3
    have hr := hr.ext ey3
    have ht := ht.ext ey3
    have ha := ha.ext ey3
    have hb := hb.ext ey3
    have hE := hE.trans ey3
    have hBw : w6.heap.size ≤ y3.heap.size := Nat.le_trans hBw ey3.size
    obtain ⟨uo, uc, rfl, hku⟩ := Rd.ltl g114
    refine WL.st rfl rfl rfl hr rfl rfl (ones_of rfl) (fun z hz hgz => ?_)
    (repeat (first | (apply WL.add; rfl; rfl; rfl; rfl; omega; omega) | (apply QL.add; rfl; rfl; rfl; rfl; omega; omega) | (apply WL.sub'; rfl; rfl; rfl; rfl; omega; omega) | (apply QL.sub'; rfl; rfl; rfl; rfl; omega; omega) | (apply WL.mul; rfl; rfl; rfl; rfl; omega; omega) | (apply QL.mul; rfl; rfl; rfl; rfl; omega; omega) | (apply WL.pure; rfl; rfl; rfl) | (apply QL.pure; rfl; rfl; rfl) | (apply WL.nil) | (apply EX.thenN) | (apply CW.seq) | (apply CW.region) | (apply WL.pass; rfl; rfl) | (apply QL.pass; rfl; rfl) | (apply WL.eqB; rfl; rfl; rfl; rfl) | (apply QL.eqB; rfl; rfl; rfl; rfl) | (apply WL.neB; rfl; rfl; rfl; rfl) | (apply QL.neB; rfl; rfl; rfl; rfl) | (apply WL.lenS; rfl; rfl; rfl) | (apply QL.lenS; rfl; rfl; rfl) | (apply WL.makeFunc; rfl; rfl; rfl; rfl) | (apply QL.makeFunc; rfl; rfl; rfl; rfl) | (apply WL.fa; rfl; rfl; rfl) | (apply QL.fa; rfl; rfl; rfl) | (apply WL.nck; rfl; rfl; rfl) | (apply QL.nck; rfl; rfl; rfl) | (apply WL.ld; rfl; rfl; rfl; assumption; rfl) | (apply QL.ld; rfl; rfl; rfl; assumption; rfl) | (apply WL.ldA; rfl; rfl; rfl; assumption; rfl) | (apply QL.ldA; rfl; rfl; rfl; assumption; rfl) | (apply CW.block) | (apply EX.inN) | (apply CW.condT; rfl) | (apply CW.condF; rfl) | (apply CW.exit) | (apply EX.thenX) | (apply EX.inX) | (apply EX.inXne; rfl) | (apply CW.ret) | (apply EX.thenR) | (apply EX.inR) | (apply CW.skip) | (refine WL.lenO rfl rfl rfl (by assumption) ?_) | (apply WL.isNil; rfl; rfl; rfl) | (apply CW.draw; exact mixed; kernel_rfl)))
    exact EX.retC rfl rfl hz rfl ⟨(g114.st hgz (by omega)).low (by omega), ret_size hE hgz (by omega)⟩
  by_cases h11 : k = 11
  · subst h11
    (repeat (first | (apply WL.add; rfl; rfl; rfl; rfl; omega; omega) | (apply QL.add; rfl; rfl; rfl; rfl; omega; omega) | (apply WL.sub'; rfl; rfl; rfl; rfl; omega; omega) | (apply QL.sub'; rfl; rfl; rfl; rfl; omega; omega) | (apply WL.mul; rfl; rfl; rfl; rfl; omega; omega) | (apply QL.mul; rfl; rfl; rfl; rfl; omega; omega) | (apply WL.pure; rfl; rfl; rfl) | (apply QL.pure; rfl; rfl; rfl) | (apply WL.nil) | (apply EX.thenN) | (apply CW.seq) | (apply CW.region) | (apply WL.pass; rfl; rfl) | (apply QL.pass; rfl; rfl) | (apply WL.eqB; rfl; rfl; rfl; rfl) | (apply QL.eqB; rfl; rfl; rfl; rfl) | (apply WL.neB; rfl; rfl; rfl; rfl) | (apply QL.neB; rfl; rfl; rfl; rfl) | (apply WL.lenS; rfl; rfl; rfl) | (apply QL.lenS; rfl; rfl; rfl) | (apply WL.makeFunc; rfl; rfl; rfl; rfl) | (apply QL.makeFunc; rfl; rfl; rfl; rfl) | (apply WL.fa; rfl; rfl; rfl) | (apply QL.fa; rfl; rfl; rfl) | (apply WL.nck; rfl; rfl; rfl) | (apply QL.nck; rfl; rfl; rfl) | (apply WL.ld; rfl; rfl; rfl; assumption; rfl) | (apply QL.ld; rfl; rfl; rfl; assumption; rfl) | (apply WL.ldA; rfl; rfl; rfl; assumption; rfl) | (apply QL.ldA; rfl; rfl; rfl; assumption; rfl) | (apply CW.block) | (apply EX.inN) | (apply CW.condT; rfl) | (apply CW.condF; rfl) | (apply CW.exit) | (apply EX.thenX) | (apply EX.inX) | (apply EX.inXne; rfl) | (apply CW.ret) | (apply EX.thenR) | (apply EX.inR) | (apply CW.skip) | (refine WL.lenO rfl rfl rfl (by assumption) ?_) | (apply WL.isNil; rfl; rfl; rfl)))
    have ed := Ext.drew w6
    have hC := hC.ext ed
    have hr := hr.ext ed
    have hrlt := hr.lt
    have ht := ht.ext ed
    have htlt := ht.lt
    have ha := ha.ext ed
    have halt := ha.lt
    have hb := hb.ext ed
    have hblt := hb.lt
    have hE := hE6.trans ed
    have htK : ∀ x, (fun x : World => SO w1.heap.size (drew w6) x) x → x.heap[w.heap.size]? = (drew w6).heap[w.heap.size]? := fun x hx => hx.2 _ (by omega) htlt
    have haK : ∀ x, (fun x : World => SO w1.heap.size (drew w6) x) x → x.heap[w2.heap.size]? = (drew w6).heap[w2.heap.size]? := fun x hx => hx.2 _ (by omega) halt
    have hbK : ∀ x, (fun x : World => SO w1.heap.size (drew w6) x) x → x.heap[w4.heap.size]? = (drew w6).heap[w4.heap.size]? := fun x hx => hx.2 _ (by omega) hblt
    (repeat (first | (apply WL.add; rfl; rfl; rfl; rfl; omega; omega) | (apply QL.add; rfl; rfl; rfl; rfl; omega; omega) | (apply WL.sub'; rfl; rfl; rfl; rfl; omega; omega) | (apply QL.sub'; rfl; rfl; rfl; rfl; omega; omega) | (apply WL.mul; rfl; rfl; rfl; rfl; omega; omega) | (apply QL.mul; rfl; rfl; rfl; rfl; omega; omega) | (apply WL.pure; rfl; rfl; rfl) | (apply QL.pure; rfl; rfl; rfl) | (apply WL.nil) | (apply EX.thenN) | (apply CW.seq) | (apply CW.region) | (apply WL.pass; rfl; rfl) | (apply QL.pass; rfl; rfl) | (apply WL.eqB; rfl; rfl; rfl; rfl) | (apply QL.eqB; rfl; rfl; rfl; rfl) | (apply WL.neB; rfl; rfl; rfl; rfl) | (apply QL.neB; rfl; rfl; rfl; rfl) | (apply WL.lenS; rfl; rfl; rfl) | (apply QL.lenS; rfl; rfl; rfl) | (apply WL.makeFunc; rfl; rfl; rfl; rfl) | (apply QL.makeFunc; rfl; rfl; rfl; rfl) | (apply WL.fa; rfl; rfl; rfl) | (apply QL.fa; rfl; rfl; rfl) | (apply WL.nck; rfl; rfl; rfl) | (apply QL.nck; rfl; rfl; rfl) | (apply WL.ld; rfl; rfl; rfl; assumption; rfl) | (apply QL.ld; rfl; rfl; rfl; assumption; rfl) | (apply WL.ldA; rfl; rfl; rfl; assumption; rfl) | (apply QL.ldA; rfl; rfl; rfl; assumption; rfl) | (apply CW.block) | (apply EX.inN) | (apply CW.condT; rfl) | (apply CW.condF; rfl) | (apply CW.exit) | (apply EX.thenX) | (apply EX.inX) | (apply EX.inXne; rfl) | (apply CW.ret) | (apply EX.thenR) | (apply EX.inR) | (apply CW.skip) | (refine WL.lenO rfl rfl rfl (by assumption) ?_) | (apply WL.isNil; rfl; rfl; rfl)))
    refine CW.drawH (fun x : World => SO w1.heap.size (drew w6) x) [(0, true), (3, true), (6, true), (1, false), (2, false), (4, false), (5, false), (7, false), (8, false), (9, false), (10, false), (11, false), (12, false)] mixed (by kernel_rfl) (SO.refl _ _) ?_
    have hS : SO w1.heap.size (drew w6) (drew w6) := SO.refl _ _
    have hBw : w6.heap.size ≤ (drew w6).heap.size := by have := ed.size; omega
    (repeat (first | (apply HL.add; rfl; rfl; rfl; rfl; rfl; omega; omega) | (apply HL.sub'; rfl; rfl; rfl; rfl; rfl; omega; omega) | (apply HL.pure; rfl; rfl; rfl; rfl) | (apply HL.pass; rfl; rfl; rfl) | (refine HL.fa rfl rfl rfl rfl ?_) | (apply HL.nck; rfl; rfl; rfl; rfl) | (refine HL.ld (by assumption) rfl rfl rfl rfl (by assumption) rfl ?_) | (refine HL.ldK (by assumption) rfl rfl rfl rfl (by assumption) rfl ?_) | (refine HL.ldA (by assumption) rfl rfl rfl rfl (by assumption) rfl ?_) | (refine HL.lenS rfl rfl rfl rfl ?_) | (refine HL.eqB rfl rfl rfl rfl rfl ?_) | (refine HL.neB rfl rfl rfl rfl rfl ?_) | (refine HL.build rfl rfl rfl rfl rfl ?_) | (apply HL.makeFunc; rfl; rfl; rfl; rfl; rfl) | (apply HL.nil)))
    refine HL.mut rfl (WL.callF (xs := []) (vs := []) rfl rfl rfl rfl (hC.runA.low hBw) ?_)
    rintro v118 y1 ⟨g118, ey1⟩
    have hC := hC.ext ey1
    have hr := hr.ext ey1
    have ht := ht.ext ey1
    have ha := ha.ext ey1
    have hb := hb.ext ey1
    have hE := hE.trans ey1
    have hBw : w6.heap.size ≤ y1.heap.size := Nat.le_trans hBw ey1.size
    have hS := hS.ext ey1
    refine WL.nil (EX.mut hS ?_)
    refine HL.mut rfl (WL.call rfl rfl rfl (dc_notG y1 hBw g118) ?_)
    rintro v119 y2 ⟨g119, ey2⟩
    have hC := hC.ext ey2
    have g118 := g118.ext ey2
    have hr := hr.ext ey2
    have ht := ht.ext ey2
    have ha := ha.ext ey2
    have hb := hb.ext ey2
    have hE := hE.trans ey2
    have hBw : w6.heap.size ≤ y2.heap.size := Nat.le_trans hBw ey2.size
    have hS := hS.ext ey2
    refine WL.nil (EX.mut hS ?_)
    refine HL.mut rfl (WL.callF (xs := []) (vs := []) rfl rfl rfl rfl (hC.runA.low hBw) ?_)
    rintro v121 y3 ⟨g121, ey3⟩
    have hC := hC.ext ey3
    have g118 := g118.ext ey3
    have g119 := g119.ext ey3
    have hr := hr.ext ey3
    have ht := ht.ext ey3
    have ha := ha.ext ey3
    have hb := hb.ext ey3
    have hE := hE.trans ey3
    have hBw : w6.heap.size ≤ y3.heap.size := Nat.le_trans hBw ey3.size
    have hS := hS.ext ey3
    refine WL.nil (EX.mut hS ?_)
    refine HL.mut rfl (WL.call rfl rfl rfl (dc_notG y3 hBw g121) ?_)
    rintro v122 y4 ⟨g122, ey4⟩
    have hC := hC.ext ey4
    have g118 := g118.ext ey4
    have g119 := g119.ext ey4
    have g121 := g121.ext ey4
    have hr := hr.ext ey4
    have ht := ht.ext ey4
    have ha := ha.ext ey4
    have hb := hb.ext ey4
    have hE := hE.trans ey4
    have hBw : w6.heap.size ≤ y4.heap.size := Nat.le_trans hBw ey4.size
    have hS := hS.ext ey4
    refine WL.nil (EX.mut hS ?_)
    refine HL.mut rfl (WL.callF (xs := []) (vs := []) rfl rfl rfl rfl (hC.runB.low hBw) ?_)
    rintro v124 y5 ⟨g124, ey5⟩
    have hC := hC.ext ey5
    have g118 := g118.ext ey5
    have g119 := g119.ext ey5
    have g121 := g121.ext ey5
    have g122 := g122.ext ey5
    have hr := hr.ext ey5
    have ht := ht.ext ey5
    have ha := ha.ext ey5
    have hb := hb.ext ey5
    have hE := hE.trans ey5
    have hBw : w6.heap.size ≤ y5.heap.size := Nat.le_trans hBw ey5.size
    have hS := hS.ext ey5
    refine WL.nil (EX.mut hS ?_)
    refine HL.mut rfl (WL.call rfl rfl rfl (dc_twoG y5 hBw 8 g122 g124) ?_)
    rintro v125 y6 ⟨g125, ey6⟩
    have hC := hC.ext ey6
    have g118 := g118.ext ey6
    have g119 := g119.ext ey6
    have g121 := g121.ext ey6
    have g122 := g122.ext ey6
    have g124 := g124.ext ey6
    have hr := hr.ext ey6
    have ht := ht.ext ey6
    have ha := ha.ext ey6
    have hb := hb.ext ey6
    have hE := hE.trans ey6
    have hBw : w6.heap.size ≤ y6.heap.size := Nat.le_trans hBw ey6.size
    have hS := hS.ext ey6
    refine WL.nil (EX.mut hS ?_)
    refine HL.mut rfl (WL.call rfl rfl rfl (dc_oneG y6 hBw 7 g125) ?_)
    rintro v126 y7 ⟨g126, ey7⟩
    have hC := hC.ext ey7
    have g118 := g118.ext ey7
    have g119 := g119.ext ey7
    have g121 := g121.ext ey7
    have g122 := g122.ext ey7
    have g124 := g124.ext ey7
    have g125 := g125.ext ey7
    have hr := hr.ext ey7
    have ht := ht.ext ey7
    have ha := ha.ext ey7
    have hb := hb.ext ey7
    have hE := hE.trans ey7
    have hBw : w6.heap.size ≤ y7.heap.size := Nat.le_trans hBw ey7.size
    have hS := hS.ext ey7
    refine WL.nil (EX.mut hS ?_)
    refine HL.mut rfl (WL.call rfl rfl rfl (dc_orG y7 hBw g119 g126) ?_)
    rintro v127 y8 ⟨g127, ey8⟩
    have hC := hC.ext ey8
    have g118 := g118.ext ey8
    have g119 := g119.ext ey8
    have g121 := g121.ext ey8
    have g122 := g122.ext ey8
    have g124 := g124.ext ey8
    have g125 := g125.ext ey8
    have g126 := g126.ext ey8
    have hr := hr.ext ey8
    have ht := ht.ext ey8
    have ha := ha.ext ey8
    have hb := hb.ext ey8
    have hE := hE.trans ey8
    have hBw : w6.heap.size ≤ y8.heap.size := Nat.le_trans hBw ey8.size
    have hS := hS.ext ey8
    refine WL.nil (EX.mut hS ?_)
    refine HL.mut rfl (WL.call rfl rfl rfl (dc_alwaysG y8 hBw g127) ?_)
    rintro v128 y9 ⟨g128, ey9⟩
    have hC := hC.ext ey9
    have g118 := g118.ext ey9
    have g119 := g119.ext ey9
    have g121 := g121.ext ey9
    have g122 := g122.ext ey9
    have g124 := g124.ext ey9
    have g125 := g125.ext ey9
    have g126 := g126.ext ey9
    have g127 := g127.ext ey9
    have hr := hr.ext ey9
    have ht := ht.ext ey9
    have ha := ha.ext ey9
    have hb := hb.ext ey9
    have hE := hE.trans ey9
    have hBw : w6.heap.size ≤ y9.heap.size := Nat.le_trans hBw ey9.size
    have hS := hS.ext ey9
    refine WL.nil (EX.mut hS ?_)
    obtain ⟨uo, uc, rfl, hku⟩ := Rd.ltl g128
    refine HL.mut rfl (WL.st rfl rfl rfl hr rfl rfl (ones_of rfl) (fun z hz hgz => ?_))
    refine WL.nil (EX.mut (hS.st hgz) (HL.nil ?_))
    (repeat (first | (apply WL.add; rfl; rfl; rfl; rfl; omega; omega) | (apply QL.add; rfl; rfl; rfl; rfl; omega; omega) | (apply WL.sub'; rfl; rfl; rfl; rfl; omega; omega) | (apply QL.sub'; rfl; rfl; rfl; rfl; omega; omega) | (apply WL.mul; rfl; rfl; rfl; rfl; omega; omega) | (apply QL.mul; rfl; rfl; rfl; rfl; omega; omega) | (apply WL.pure; rfl; rfl; rfl) | (apply QL.pure; rfl; rfl; rfl) | (apply WL.nil) | (apply EX.thenN) | (apply CW.seq) | (apply CW.region) | (apply WL.pass; rfl; rfl) | (apply QL.pass; rfl; rfl) | (apply WL.eqB; rfl; rfl; rfl; rfl) | (apply QL.eqB; rfl; rfl; rfl; rfl) | (apply WL.neB; rfl; rfl; rfl; rfl) | (apply QL.neB; rfl; rfl; rfl; rfl) | (apply WL.lenS; rfl; rfl; rfl) | (apply QL.lenS; rfl; rfl; rfl) | (apply WL.makeFunc; rfl; rfl; rfl; rfl) | (apply QL.makeFunc; rfl; rfl; rfl; rfl) | (apply WL.fa; rfl; rfl; rfl) | (apply QL.fa; rfl; rfl; rfl) | (apply WL.nck; rfl; rfl; rfl) | (apply QL.nck; rfl; rfl; rfl) | (apply WL.ld; rfl; rfl; rfl; assumption; rfl) | (apply QL.ld; rfl; rfl; rfl; assumption; rfl) | (apply WL.ldA; rfl; rfl; rfl; assumption; rfl) | (apply QL.ldA; rfl; rfl; rfl; assumption; rfl) | (apply CW.block) | (apply EX.inN) | (apply CW.condT; rfl) | (apply CW.condF; rfl) | (apply CW.exit) | (apply EX.thenX) | (apply EX.inX) | (apply EX.inXne; rfl) | (apply CW.ret) | (apply EX.thenR) | (apply EX.inR) | (apply CW.skip) | (refine WL.lenO rfl rfl rfl (by assumption) ?_) | (apply WL.isNil; rfl; rfl; rfl) | (apply CW.draw; exact mixed; kernel_rfl)))
    exact EX.retC rfl rfl hz rfl ⟨(g128.st hgz (by omega)).low (by omega), ret_size hE hgz (by omega)⟩
  by_cases h12 : k = 12
  · subst h12
    (repeat (first | (apply WL.add; rfl; rfl; rfl; rfl; omega; omega) | (apply QL.add; rfl; rfl; rfl; rfl; omega; omega) | (apply WL.sub'; rfl; rfl; rfl; rfl; omega; omega) | (apply QL.sub'; rfl; rfl; rfl; rfl; omega; omega) | (apply WL.mul; rfl; rfl; rfl; rfl; omega; omega) | (apply QL.mul; rfl; rfl; rfl; rfl; omega; omega) | (apply WL.pure; rfl; rfl; rfl) | (apply QL.pure; rfl; rfl; rfl) | (apply WL.nil) | (apply EX.thenN) | (apply CW.seq) | (apply CW.region) | (apply WL.pass; rfl; rfl) | (apply QL.pass; rfl; rfl) | (apply WL.eqB; rfl; rfl; rfl; rfl) | (apply QL.eqB; rfl; rfl; rfl; rfl) | (apply WL.neB; rfl; rfl; rfl; rfl) | (apply QL.neB; rfl; rfl; rfl; rfl) | (apply WL.lenS; rfl; rfl; rfl) | (apply QL.lenS; rfl; rfl; rfl) | (apply WL.makeFunc; rfl; rfl; rfl; rfl) | (apply QL.makeFunc; rfl; rfl; rfl; rfl) | (apply WL.fa; rfl; rfl; rfl) | (apply QL.fa; rfl; rfl; rfl) | (apply WL.nck; rfl; rfl; rfl) | (apply QL.nck; rfl; rfl; rfl) | (apply WL.ld; rfl; rfl; rfl; assumption; rfl) | (apply QL.ld; rfl; rfl; rfl; assumption; rfl) | (apply WL.ldA; rfl; rfl; rfl; assumption; rfl) | (apply QL.ldA; rfl; rfl; rfl; assumption; rfl) | (apply CW.block) | (apply EX.inN) | (apply CW.condT; rfl) | (apply CW.condF; rfl) | (apply CW.exit) | (apply EX.thenX) | (apply EX.inX) | (apply EX.inXne; rfl) | (apply CW.ret) | (apply EX.thenR) | (apply EX.inR) | (apply CW.skip) | (refine WL.lenO rfl rfl rfl (by assumption) ?_) | (apply WL.isNil; rfl; rfl; rfl)))
    have ed := Ext.drew w6
    have hC := hC.ext ed
    have hr := hr.ext ed
    have hrlt := hr.lt
    have ht := ht.ext ed
    have htlt := ht.lt
    have ha := ha.ext ed
    have halt := ha.lt
    have hb := hb.ext ed
    have hblt := hb.lt
    have hE := hE6.trans ed
    have htK : ∀ x, (fun x : World => SO w1.heap.size (drew w6) x) x → x.heap[w.heap.size]? = (drew w6).heap[w.heap.size]? := fun x hx => hx.2 _ (by omega) htlt
    have haK : ∀ x, (fun x : World => SO w1.heap.size (drew w6) x) x → x.heap[w2.heap.size]? = (drew w6).heap[w2.heap.size]? := fun x hx => hx.2 _ (by omega) halt
    have hbK : ∀ x, (fun x : World => SO w1.heap.size (drew w6) x) x → x.heap[w4.heap.size]? = (drew w6).heap[w4.heap.size]? := fun x hx => hx.2 _ (by omega) hblt
    (repeat (first | (apply WL.add; rfl; rfl; rfl; rfl; omega; omega) | (apply QL.add; rfl; rfl; rfl; rfl; omega; omega) | (apply WL.sub'; rfl; rfl; rfl; rfl; omega; omega) | (apply QL.sub'; rfl; rfl; rfl; rfl; omega; omega) | (apply WL.mul; rfl; rfl; rfl; rfl; omega; omega) | (apply QL.mul; rfl; rfl; rfl; rfl; omega; omega) | (apply WL.pure; rfl; rfl; rfl) | (apply QL.pure; rfl; rfl; rfl) | (apply WL.nil) | (apply EX.thenN) | (apply CW.seq) | (apply CW.region) | (apply WL.pass; rfl; rfl) | (apply QL.pass; rfl; rfl) | (apply WL.eqB; rfl; rfl; rfl; rfl) | (apply QL.eqB; rfl; rfl; rfl; rfl) | (apply WL.neB; rfl; rfl; rfl; rfl) | (apply QL.neB; rfl; rfl; rfl; rfl) | (apply WL.lenS; rfl; rfl; rfl) | (apply QL.lenS; rfl; rfl; rfl) | (apply WL.makeFunc; rfl; rfl; rfl; rfl) | (apply QL.makeFunc; rfl; rfl; rfl; rfl) | (apply WL.fa; rfl; rfl; rfl) | (apply QL.fa; rfl; rfl; rfl) | (apply WL.nck; rfl; rfl; rfl) | (apply QL.nck; rfl; rfl; rfl) | (apply WL.ld; rfl; rfl; rfl; assumption; rfl) | (apply QL.ld; rfl; rfl; rfl; assumption; rfl) | (apply WL.ldA; rfl; rfl; rfl; assumption; rfl) | (apply QL.ldA; rfl; rfl; rfl; assumption; rfl) | (apply CW.block) | (apply EX.inN) | (apply CW.condT; rfl) | (apply CW.condF; rfl) | (apply CW.exit) | (apply EX.thenX) | (apply EX.inX) | (apply EX.inXne; rfl) | (apply CW.ret) | (apply EX.thenR) | (apply EX.inR) | (apply CW.skip) | (refine WL.lenO rfl rfl rfl (by assumption) ?_) | (apply WL.isNil; rfl; rfl; rfl)))
    refine CW.drawH (fun x : World => SO w1.heap.size (drew w6) x) [(0, true), (4, true), (1, false), (2, false), (3, false), (5, false), (6, false), (7, false), (8, false), (9, false), (10, false)] mixed (by kernel_rfl) (SO.refl _ _) ?_
    have hS : SO w1.heap.size (drew w6) (drew w6) := SO.refl _ _
    have hBw : w6.heap.size ≤ (drew w6).heap.size := by have := ed.size; omega
    (repeat (first | (apply HL.add; rfl; rfl; rfl; rfl; rfl; omega; omega) | (apply HL.sub'; rfl; rfl; rfl; rfl; rfl; omega; omega) | (apply HL.pure; rfl; rfl; rfl; rfl) | (apply HL.pass; rfl; rfl; rfl) | (refine HL.fa rfl rfl rfl rfl ?_) | (apply HL.nck; rfl; rfl; rfl; rfl) | (refine HL.ld (by assumption) rfl rfl rfl rfl (by assumption) rfl ?_) | (refine HL.ldK (by assumption) rfl rfl rfl rfl (by assumption) rfl ?_) | (refine HL.ldA (by assumption) rfl rfl rfl rfl (by assumption) rfl ?_) | (refine HL.lenS rfl rfl rfl rfl ?_) | (refine HL.eqB rfl rfl rfl rfl rfl ?_) | (refine HL.neB rfl rfl rfl rfl rfl ?_) | (refine HL.build rfl rfl rfl rfl rfl ?_) | (apply HL.makeFunc; rfl; rfl; rfl; rfl; rfl) | (apply HL.nil)))
    refine HL.mut rfl (WL.callF (xs := []) (vs := []) rfl rfl rfl rfl (hC.runA.low hBw) ?_)
    rintro v132 y1 ⟨g132, ey1⟩
    have hC := hC.ext ey1
    have hr := hr.ext ey1
    have ht := ht.ext ey1
    have ha := ha.ext ey1
    have hb := hb.ext ey1
    have hE := hE.trans ey1
    have hBw : w6.heap.size ≤ y1.heap.size := Nat.le_trans hBw ey1.size
    have hS := hS.ext ey1
    refine WL.nil (EX.mut hS ?_)
    refine HL.mut rfl (WL.call rfl rfl rfl (dc_notG y1 hBw g132) ?_)
    rintro v133 y2 ⟨g133, ey2⟩
    have hC := hC.ext ey2
    have g132 := g132.ext ey2
    have hr := hr.ext ey2
    have ht := ht.ext ey2
    have ha := ha.ext ey2
    have hb := hb.ext ey2
    have hE := hE.trans ey2
    have hBw : w6.heap.size ≤ y2.heap.size := Nat.le_trans hBw ey2.size
    have hS := hS.ext ey2
    refine WL.nil (EX.mut hS ?_)
    refine HL.mut rfl (WL.call rfl rfl rfl (dc_atomG y2 w6.heap.size 63) ?_)
    rintro v134 y3 ⟨g134, ey3⟩
    have hC := hC.ext ey3
    have g132 := g132.ext ey3
    have g133 := g133.ext ey3
    have hr := hr.ext ey3
    have ht := ht.ext ey3
    have ha := ha.ext ey3
    have hb := hb.ext ey3
    have hE := hE.trans ey3
    have hBw : w6.heap.size ≤ y3.heap.size := Nat.le_trans hBw ey3.size
    have hS := hS.ext ey3
    refine WL.nil (EX.mut hS ?_)
    refine HL.mut rfl (WL.callF (xs := []) (vs := []) rfl rfl rfl rfl (hC.runB.low hBw) ?_)
    rintro v136 y4 ⟨g136, ey4⟩
    have hC := hC.ext ey4
    have g132 := g132.ext ey4
    have g133 := g133.ext ey4
    have g134 := g134.ext ey4
    have hr := hr.ext ey4
    have ht := ht.ext ey4
    have ha := ha.ext ey4
    have hb := hb.ext ey4
    have hE := hE.trans ey4
    have hBw : w6.heap.size ≤ y4.heap.size := Nat.le_trans hBw ey4.size
    have hS := hS.ext ey4
    refine WL.nil (EX.mut hS ?_)
    refine HL.mut rfl (WL.call rfl rfl rfl (dc_twoG y4 hBw 8 g134 g136) ?_)
    rintro v137 y5 ⟨g137, ey5⟩
    have hC := hC.ext ey5
    have g132 := g132.ext ey5
    have g133 := g133.ext ey5
    have g134 := g134.ext ey5
    have g136 := g136.ext ey5
    have hr := hr.ext ey5
    have ht := ht.ext ey5
    have ha := ha.ext ey5
    have hb := hb.ext ey5
    have hE := hE.trans ey5
    have hBw : w6.heap.size ≤ y5.heap.size := Nat.le_trans hBw ey5.size
    have hS := hS.ext ey5
    refine WL.nil (EX.mut hS ?_)
    refine HL.mut rfl (WL.call rfl rfl rfl (dc_oneG y5 hBw 7 g137) ?_)
    rintro v138 y6 ⟨g138, ey6⟩
    have hC := hC.ext ey6
    have g132 := g132.ext ey6
    have g133 := g133.ext ey6
    have g134 := g134.ext ey6
    have g136 := g136.ext ey6
    have g137 := g137.ext ey6
    have hr := hr.ext ey6
    have ht := ht.ext ey6
    have ha := ha.ext ey6
    have hb := hb.ext ey6
    have hE := hE.trans ey6
    have hBw : w6.heap.size ≤ y6.heap.size := Nat.le_trans hBw ey6.size
    have hS := hS.ext ey6
    refine WL.nil (EX.mut hS ?_)
    refine HL.mut rfl (WL.call rfl rfl rfl (dc_orG y6 hBw g133 g138) ?_)
    rintro v139 y7 ⟨g139, ey7⟩
    have hC := hC.ext ey7
    have g132 := g132.ext ey7
    have g133 := g133.ext ey7
    have g134 := g134.ext ey7
    have g136 := g136.ext ey7
    have g137 := g137.ext ey7
    have g138 := g138.ext ey7
    have hr := hr.ext ey7
    have ht := ht.ext ey7
    have ha := ha.ext ey7
    have hb := hb.ext ey7
    have hE := hE.trans ey7
    have hBw : w6.heap.size ≤ y7.heap.size := Nat.le_trans hBw ey7.size
    have hS := hS.ext ey7
    refine WL.nil (EX.mut hS ?_)
    refine HL.mut rfl (WL.call rfl rfl rfl (dc_alwaysG y7 hBw g139) ?_)
    rintro v140 y8 ⟨g140, ey8⟩
    have hC := hC.ext ey8
    have g132 := g132.ext ey8
    have g133 := g133.ext ey8
    have g134 := g134.ext ey8
    have g136 := g136.ext ey8
    have g137 := g137.ext ey8
    have g138 := g138.ext ey8
    have g139 := g139.ext ey8
    have hr := hr.ext ey8
    have ht := ht.ext ey8
    have ha := ha.ext ey8
    have hb := hb.ext ey8
    have hE := hE.trans ey8
    have hBw : w6.heap.size ≤ y8.heap.size := Nat.le_trans hBw ey8.size
    have hS := hS.ext ey8
    refine WL.nil (EX.mut hS ?_)
    obtain ⟨uo, uc, rfl, hku⟩ := Rd.ltl g140
    refine HL.mut rfl (WL.st rfl rfl rfl hr rfl rfl (ones_of rfl) (fun z hz hgz => ?_))
    refine WL.nil (EX.mut (hS.st hgz) (HL.nil ?_))
    (repeat (first | (apply WL.add; rfl; rfl; rfl; rfl; omega; omega) | (apply QL.add; rfl; rfl; rfl; rfl; omega; omega) | (apply WL.sub'; rfl; rfl; rfl; rfl; omega; omega) | (apply QL.sub'; rfl; rfl; rfl; rfl; omega; omega) | (apply WL.mul; rfl; rfl; rfl; rfl; omega; omega) | (apply QL.mul; rfl; rfl; rfl; rfl; omega; omega) | (apply WL.pure; rfl; rfl; rfl) | (apply QL.pure; rfl; rfl; rfl) | (apply WL.nil) | (apply EX.thenN) | (apply CW.seq) | (apply CW.region) | (apply WL.pass; rfl; rfl) | (apply QL.pass; rfl; rfl) | (apply WL.eqB; rfl; rfl; rfl; rfl) | (apply QL.eqB; rfl; rfl; rfl; rfl) | (apply WL.neB; rfl; rfl; rfl; rfl) | (apply QL.neB; rfl; rfl; rfl; rfl) | (apply WL.lenS; rfl; rfl; rfl) | (apply QL.lenS; rfl; rfl; rfl) | (apply WL.makeFunc; rfl; rfl; rfl; rfl) | (apply QL.makeFunc; rfl; rfl; rfl; rfl) | (apply WL.fa; rfl; rfl; rfl) | (apply QL.fa; rfl; rfl; rfl) | (apply WL.nck; rfl; rfl; rfl) | (apply QL.nck; rfl; rfl; rfl) | (apply WL.ld; rfl; rfl; rfl; assumption; rfl) | (apply QL.ld; rfl; rfl; rfl; assumption; rfl) | (apply WL.ldA; rfl; rfl; rfl; assumption; rfl) | (apply QL.ldA; rfl; rfl; rfl; assumption; rfl) | (apply CW.block) | (apply EX.inN) | (apply CW.condT; rfl) | (apply CW.condF; rfl) | (apply CW.exit) | (apply EX.thenX) | (apply EX.inX) | (apply EX.inXne; rfl) | (apply CW.ret) | (apply EX.thenR) | (apply EX.inR) | (apply CW.skip) | (refine WL.lenO rfl rfl rfl (by assumption) ?_) | (apply WL.isNil; rfl; rfl; rfl) | (apply CW.draw; exact mixed; kernel_rfl)))
    exact EX.retC rfl rfl hz rfl ⟨(g140.st hgz (by omega)).low (by omega), ret_size hE hgz (by omega)⟩
  have b1 : (k == 1) = false := by simpa using h1
  rw [if_neg h1]
  have b2 : (k == 2) = false := by simpa using h2
  rw [if_neg h2]
  have b3 : (k == 3) = false := by simpa using h3
  rw [if_neg h3]
  have b4 : (k == 4) = false := by simpa using h4
  rw [if_neg h4]
  have b5 : (k == 5) = false := by simpa using h5
  rw [if_neg h5]
  have b6 : (k == 6) = false := by simpa using h6
  rw [if_neg h6]
  have b7 : (k == 7) = false := by simpa using h7
  rw [if_neg h7]
  have b13 : (k == 13) = false := by simpa using h13
  rw [if_neg h13]
  have b8 : (k == 8) = false := by simpa using h8
  rw [if_neg h8]
  have b9 : (k == 9) = false := by simpa using h9
  rw [if_neg h9]
  have b10 : (k == 10) = false := by simpa using h10
  rw [if_neg h10]
  have b11 : (k == 11) = false := by simpa using h11
  rw [if_neg h11]
  have b12 : (k == 12) = false := by simpa using h12
  rw [if_neg h12]
  (repeat (first | (apply WL.add; rfl; rfl; rfl; rfl; omega; omega) | (apply QL.add; rfl; rfl; rfl; rfl; omega; omega) | (apply WL.sub'; rfl; rfl; rfl; rfl; omega; omega) | (apply QL.sub'; rfl; rfl; rfl; rfl; omega; omega) | (apply WL.mul; rfl; rfl; rfl; rfl; omega; omega) | (apply QL.mul; rfl; rfl; rfl; rfl; omega; omega) | (apply WL.pure; rfl; rfl; rfl) | (apply QL.pure; rfl; rfl; rfl) | (apply WL.nil) | (apply EX.thenN) | (apply CW.seq) | (apply CW.region) | (apply WL.pass; rfl; rfl) | (apply QL.pass; rfl; rfl) | (apply WL.eqB; rfl; rfl; rfl; rfl) | (apply QL.eqB; rfl; rfl; rfl; rfl) | (apply WL.neB; rfl; rfl; rfl; rfl) | (apply QL.neB; rfl; rfl; rfl; rfl) | (apply WL.lenS; rfl; rfl; rfl) | (apply QL.lenS; rfl; rfl; rfl) | (apply WL.makeFunc; rfl; rfl; rfl; rfl) | (apply QL.makeFunc; rfl; rfl; rfl; rfl) | (apply WL.fa; rfl; rfl; rfl) | (apply QL.fa; rfl; rfl; rfl) | (apply WL.nck; rfl; rfl; rfl) | (apply QL.nck; rfl; rfl; rfl) | (apply WL.ld; rfl; rfl; rfl; assumption; rfl) | (apply QL.ld; rfl; rfl; rfl; assumption; rfl) | (apply WL.ldA; rfl; rfl; rfl; assumption; rfl) | (apply QL.ldA; rfl; rfl; rfl; assumption; rfl) | (apply CW.block) | (apply EX.inN) | (apply CW.condT; rfl) | (apply CW.condF; rfl) | (apply CW.exit) | (apply EX.thenX) | (apply EX.inX) | (apply EX.inXne; rfl) | (apply CW.ret) | (apply EX.thenR) | (apply EX.inR) | (apply CW.skip) | (refine WL.lenO rfl rfl rfl (by assumption) ?_) | (apply WL.isNil; rfl; rfl; rfl)))
  rw [b1]
  (repeat (first | (apply WL.add; rfl; rfl; rfl; rfl; omega; omega) | (apply QL.add; rfl; rfl; rfl; rfl; omega; omega) | (apply WL.sub'; rfl; rfl; rfl; rfl; omega; omega) | (apply QL.sub'; rfl; rfl; rfl; rfl; omega; omega) | (apply WL.mul; rfl; rfl; rfl; rfl; omega; omega) | (apply QL.mul; rfl; rfl; rfl; rfl; omega; omega) | (apply WL.pure; rfl; rfl; rfl) | (apply QL.pure; rfl; rfl; rfl) | (apply WL.nil) | (apply EX.thenN) | (apply CW.seq) | (apply CW.region) | (apply WL.pass; rfl; rfl) | (apply QL.pass; rfl; rfl) | (apply WL.eqB; rfl; rfl; rfl; rfl) | (apply QL.eqB; rfl; rfl; rfl; rfl) | (apply WL.neB; rfl; rfl; rfl; rfl) | (apply QL.neB; rfl; rfl; rfl; rfl) | (apply WL.lenS; rfl; rfl; rfl) | (apply QL.lenS; rfl; rfl; rfl) | (apply WL.makeFunc; rfl; rfl; rfl; rfl) | (apply QL.makeFunc; rfl; rfl; rfl; rfl) | (apply WL.fa; rfl; rfl; rfl) | (apply QL.fa; rfl; rfl; rfl) | (apply WL.nck; rfl; rfl; rfl) | (apply QL.nck; rfl; rfl; rfl) | (apply WL.ld; rfl; rfl; rfl; assumption; rfl) | (apply QL.ld; rfl; rfl; rfl; assumption; rfl) | (apply WL.ldA; rfl; rfl; rfl; assumption; rfl) | (apply QL.ldA; rfl; rfl; rfl; assumption; rfl) | (apply CW.block) | (apply EX.inN) | (apply CW.condT; rfl) | (apply CW.condF; rfl) | (apply CW.exit) | (apply EX.thenX) | (apply EX.inX) | (apply EX.inXne; rfl) | (apply CW.ret) | (apply EX.thenR) | (apply EX.inR) | (apply CW.skip) | (refine WL.lenO rfl rfl rfl (by assumption) ?_) | (apply WL.isNil; rfl; rfl; rfl)))
  rw [b2]
  (repeat (first | (apply WL.add; rfl; rfl; rfl; rfl; omega; omega) | (apply QL.add; rfl; rfl; rfl; rfl; omega; omega) | (apply WL.sub'; rfl; rfl; rfl; rfl; omega; omega) | (apply QL.sub'; rfl; rfl; rfl; rfl; omega; omega) | (apply WL.mul; rfl; rfl; rfl; rfl; omega; omega) | (apply QL.mul; rfl; rfl; rfl; rfl; omega; omega) | (apply WL.pure; rfl; rfl; rfl) | (apply QL.pure; rfl; rfl; rfl) | (apply WL.nil) | (apply EX.thenN) | (apply CW.seq) | (apply CW.region) | (apply WL.pass; rfl; rfl) | (apply QL.pass; rfl; rfl) | (apply WL.eqB; rfl; rfl; rfl; rfl) | (apply QL.eqB; rfl; rfl; rfl; rfl) | (apply WL.neB; rfl; rfl; rfl; rfl) | (apply QL.neB; rfl; rfl; rfl; rfl) | (apply WL.lenS; rfl; rfl; rfl) | (apply QL.lenS; rfl; rfl; rfl) | (apply WL.makeFunc; rfl; rfl; rfl; rfl) | (apply QL.makeFunc; rfl; rfl; rfl; rfl) | (apply WL.fa; rfl; rfl; rfl) | (apply QL.fa; rfl; rfl; rfl) | (apply WL.nck; rfl; rfl; rfl) | (apply QL.nck; rfl; rfl; rfl) | (apply WL.ld; rfl; rfl; rfl; assumption; rfl) | (apply QL.ld; rfl; rfl; rfl; assumption; rfl) | (apply WL.ldA; rfl; rfl; rfl; assumption; rfl) | (apply QL.ldA; rfl; rfl; rfl; assumption; rfl) | (apply CW.block) | (apply EX.inN) | (apply CW.condT; rfl) | (apply CW.condF; rfl) | (apply CW.exit) | (apply EX.thenX) | (apply EX.inX) | (apply EX.inXne; rfl) | (apply CW.ret) | (apply EX.thenR) | (apply EX.inR) | (apply CW.skip) | (refine WL.lenO rfl rfl rfl (by assumption) ?_) | (apply WL.isNil; rfl; rfl; rfl)))
  rw [b3]
  (repeat (first | (apply WL.add; rfl; rfl; rfl; rfl; omega; omega) | (apply QL.add; rfl; rfl; rfl; rfl; omega; omega) | (apply WL.sub'; rfl; rfl; rfl; rfl; omega; omega) | (apply QL.sub'; rfl; rfl; rfl; rfl; omega; omega) | (apply WL.mul; rfl; rfl; rfl; rfl; omega; omega) | (apply QL.mul; rfl; rfl; rfl; rfl; omega; omega) | (apply WL.pure; rfl; rfl; rfl) | (apply QL.pure; rfl; rfl; rfl) | (apply WL.nil) | (apply EX.thenN) | (apply CW.seq) | (apply CW.region) | (apply WL.pass; rfl; rfl) | (apply QL.pass; rfl; rfl) | (apply WL.eqB; rfl; rfl; rfl; rfl) | (apply QL.eqB; rfl; rfl; rfl; rfl) | (apply WL.neB; rfl; rfl; rfl; rfl) | (apply QL.neB; rfl; rfl; rfl; rfl) | (apply WL.lenS; rfl; rfl; rfl) | (apply QL.lenS; rfl; rfl; rfl) | (apply WL.makeFunc; rfl; rfl; rfl; rfl) | (apply QL.makeFunc; rfl; rfl; rfl; rfl) | (apply WL.fa; rfl; rfl; rfl) | (apply QL.fa; rfl; rfl; rfl) | (apply WL.nck; rfl; rfl; rfl) | (apply QL.nck; rfl; rfl; rfl) | (apply WL.ld; rfl; rfl; rfl; assumption; rfl) | (apply QL.ld; rfl; rfl; rfl; assumption; rfl) | (apply WL.ldA; rfl; rfl; rfl; assumption; rfl) | (apply QL.ldA; rfl; rfl; rfl; assumption; rfl) | (apply CW.block) | (apply EX.inN) | (apply CW.condT; rfl) | (apply CW.condF; rfl) | (apply CW.exit) | (apply EX.thenX) | (apply EX.inX) | (apply EX.inXne; rfl) | (apply CW.ret) | (apply EX.thenR) | (apply EX.inR) | (apply CW.skip) | (refine WL.lenO rfl rfl rfl (by assumption) ?_) | (apply WL.isNil; rfl; rfl; rfl)))
  rw [b4]
  (repeat (first | (apply WL.add; rfl; rfl; rfl; rfl; omega; omega) | (apply QL.add; rfl; rfl; rfl; rfl; omega; omega) | (apply WL.sub'; rfl; rfl; rfl; rfl; omega; omega) | (apply QL.sub'; rfl; rfl; rfl; rfl; omega; omega) | (apply WL.mul; rfl; rfl; rfl; rfl; omega; omega) | (apply QL.mul; rfl; rfl; rfl; rfl; omega; omega) | (apply WL.pure; rfl; rfl; rfl) | (apply QL.pure; rfl; rfl; rfl) | (apply WL.nil) | (apply EX.thenN) | (apply CW.seq) | (apply CW.region) | (apply WL.pass; rfl; rfl) | (apply QL.pass; rfl; rfl) | (apply WL.eqB; rfl; rfl; rfl; rfl) | (apply QL.eqB; rfl; rfl; rfl; rfl) | (apply WL.neB; rfl; rfl; rfl; rfl) | (apply QL.neB; rfl; rfl; rfl; rfl) | (apply WL.lenS; rfl; rfl; rfl) | (apply QL.lenS; rfl; rfl; rfl) | (apply WL.makeFunc; rfl; rfl; rfl; rfl) | (apply QL.makeFunc; rfl; rfl; rfl; rfl) | (apply WL.fa; rfl; rfl; rfl) | (apply QL.fa; rfl; rfl; rfl) | (apply WL.nck; rfl; rfl; rfl) | (apply QL.nck; rfl; rfl; rfl) | (apply WL.ld; rfl; rfl; rfl; assumption; rfl) | (apply QL.ld; rfl; rfl; rfl; assumption; rfl) | (apply WL.ldA; rfl; rfl; rfl; assumption; rfl) | (apply QL.ldA; rfl; rfl; rfl; assumption; rfl) | (apply CW.block) | (apply EX.inN) | (apply CW.condT; rfl) | (apply CW.condF; rfl) | (apply CW.exit) | (apply EX.thenX) | (apply EX.inX) | (apply EX.inXne; rfl) | (apply CW.ret) | (apply EX.thenR) | (apply EX.inR) | (apply CW.skip) | (refine WL.lenO rfl rfl rfl (by assumption) ?_) | (apply WL.isNil; rfl; rfl; rfl)))
  rw [b5]
  (repeat (first | (apply WL.add; rfl; rfl; rfl; rfl; omega; omega) | (apply QL.add; rfl; rfl; rfl; rfl; omega; omega) | (apply WL.sub'; rfl; rfl; rfl; rfl; omega; omega) | (apply QL.sub'; rfl; rfl; rfl; rfl; omega; omega) | (apply WL.mul; rfl; rfl; rfl; rfl; omega; omega) | (apply QL.mul; rfl; rfl; rfl; rfl; omega; omega) | (apply WL.pure; rfl; rfl; rfl) | (apply QL.pure; rfl; rfl; rfl) | (apply WL.nil) | (apply EX.thenN) | (apply CW.seq) | (apply CW.region) | (apply WL.pass; rfl; rfl) | (apply QL.pass; rfl; rfl) | (apply WL.eqB; rfl; rfl; rfl; rfl) | (apply QL.eqB; rfl; rfl; rfl; rfl) | (apply WL.neB; rfl; rfl; rfl; rfl) | (apply QL.neB; rfl; rfl; rfl; rfl) | (apply WL.lenS; rfl; rfl; rfl) | (apply QL.lenS; rfl; rfl; rfl) | (apply WL.makeFunc; rfl; rfl; rfl; rfl) | (apply QL.makeFunc; rfl; rfl; rfl; rfl) | (apply WL.fa; rfl; rfl; rfl) | (apply QL.fa; rfl; rfl; rfl) | (apply WL.nck; rfl; rfl; rfl) | (apply QL.nck; rfl; rfl; rfl) | (apply WL.ld; rfl; rfl; rfl; assumption; rfl) | (apply QL.ld; rfl; rfl; rfl; assumption; rfl) | (apply WL.ldA; rfl; rfl; rfl; assumption; rfl) | (apply QL.ldA; rfl; rfl; rfl; assumption; rfl) | (apply CW.block) | (apply EX.inN) | (apply CW.condT; rfl) | (apply CW.condF; rfl) | (apply CW.exit) | (apply EX.thenX) | (apply EX.inX) | (apply EX.inXne; rfl) | (apply CW.ret) | (apply EX.thenR) | (apply EX.inR) | (apply CW.skip) | (refine WL.lenO rfl rfl rfl (by assumption) ?_) | (apply WL.isNil; rfl; rfl; rfl)))
  rw [b6]
  (repeat (first | (apply WL.add; rfl; rfl; rfl; rfl; omega; omega) | (apply QL.add; rfl; rfl; rfl; rfl; omega; omega) | (apply WL.sub'; rfl; rfl; rfl; rfl; omega; omega) | (apply QL.sub'; rfl; rfl; rfl; rfl; omega; omega) | (apply WL.mul; rfl; rfl; rfl; rfl; omega; omega) | (apply QL.mul; rfl; rfl; rfl; rfl; omega; omega) | (apply WL.pure; rfl; rfl; rfl) | (apply QL.pure; rfl; rfl; rfl) | (apply WL.nil) | (apply EX.thenN) | (apply CW.seq) | (apply CW.region) | (apply WL.pass; rfl; rfl) | (apply QL.pass; rfl; rfl) | (apply WL.eqB; rfl; rfl; rfl; rfl) | (apply QL.eqB; rfl; rfl; rfl; rfl) | (apply WL.neB; rfl; rfl; rfl; rfl) | (apply QL.neB; rfl; rfl; rfl; rfl) | (apply WL.lenS; rfl; rfl; rfl) | (apply QL.lenS; rfl; rfl; rfl) | (apply WL.makeFunc; rfl; rfl; rfl; rfl) | (apply QL.makeFunc; rfl; rfl; rfl; rfl) | (apply WL.fa; rfl; rfl; rfl) | (apply QL.fa; rfl; rfl; rfl) | (apply WL.nck; rfl; rfl; rfl) | (apply QL.nck; rfl; rfl; rfl) | (apply WL.ld; rfl; rfl; rfl; assumption; rfl) | (apply QL.ld; rfl; rfl; rfl; assumption; rfl) | (apply WL.ldA; rfl; rfl; rfl; assumption; rfl) | (apply QL.ldA; rfl; rfl; rfl; assumption; rfl) | (apply CW.block) | (apply EX.inN) | (apply CW.condT; rfl) | (apply CW.condF; rfl) | (apply CW.exit) | (apply EX.thenX) | (apply EX.inX) | (apply EX.inXne; rfl) | (apply CW.ret) | (apply EX.thenR) | (apply EX.inR) | (apply CW.skip) | (refine WL.lenO rfl rfl rfl (by assumption) ?_) | (apply WL.isNil; rfl; rfl; rfl)))
  rw [b7]
  (repeat (first | (apply WL.add; rfl; rfl; rfl; rfl; omega; omega) | (apply QL.add; rfl; rfl; rfl; rfl; omega; omega) | (apply WL.sub'; rfl; rfl; rfl; rfl; omega; omega) | (apply QL.sub'; rfl; rfl; rfl; rfl; omega; omega) | (apply WL.mul; rfl; rfl; rfl; rfl; omega; omega) | (apply QL.mul; rfl; rfl; rfl; rfl; omega; omega) | (apply WL.pure; rfl; rfl; rfl) | (apply QL.pure; rfl; rfl; rfl) | (apply WL.nil) | (apply EX.thenN) | (apply CW.seq) | (apply CW.region) | (apply WL.pass; rfl; rfl) | (apply QL.pass; rfl; rfl) | (apply WL.eqB; rfl; rfl; rfl; rfl) | (apply QL.eqB; rfl; rfl; rfl; rfl) | (apply WL.neB; rfl; rfl; rfl; rfl) | (apply QL.neB; rfl; rfl; rfl; rfl) | (apply WL.lenS; rfl; rfl; rfl) | (apply QL.lenS; rfl; rfl; rfl) | (apply WL.makeFunc; rfl; rfl; rfl; rfl) | (apply QL.makeFunc; rfl; rfl; rfl; rfl) | (apply WL.fa; rfl; rfl; rfl) | (apply QL.fa; rfl; rfl; rfl) | (apply WL.nck; rfl; rfl; rfl) | (apply QL.nck; rfl; rfl; rfl) | (apply WL.ld; rfl; rfl; rfl; assumption; rfl) | (apply QL.ld; rfl; rfl; rfl; assumption; rfl) | (apply WL.ldA; rfl; rfl; rfl; assumption; rfl) | (apply QL.ldA; rfl; rfl; rfl; assumption; rfl) | (apply CW.block) | (apply EX.inN) | (apply CW.condT; rfl) | (apply CW.condF; rfl) | (apply CW.exit) | (apply EX.thenX) | (apply EX.inX) | (apply EX.inXne; rfl) | (apply CW.ret) | (apply EX.thenR) | (apply EX.inR) | (apply CW.skip) | (refine WL.lenO rfl rfl rfl (by assumption) ?_) | (apply WL.isNil; rfl; rfl; rfl)))
  rw [b13]
  (repeat (first | (apply WL.add; rfl; rfl; rfl; rfl; omega; omega) | (apply QL.add; rfl; rfl; rfl; rfl; omega; omega) | (apply WL.sub'; rfl; rfl; rfl; rfl; omega; omega) | (apply QL.sub'; rfl; rfl; rfl; rfl; omega; omega) | (apply WL.mul; rfl; rfl; rfl; rfl; omega; omega) | (apply QL.mul; rfl; rfl; rfl; rfl; omega; omega) | (apply WL.pure; rfl; rfl; rfl) | (apply QL.pure; rfl; rfl; rfl) | (apply WL.nil) | (apply EX.thenN) | (apply CW.seq) | (apply CW.region) | (apply WL.pass; rfl; rfl) | (apply QL.pass; rfl; rfl) | (apply WL.eqB; rfl; rfl; rfl; rfl) | (apply QL.eqB; rfl; rfl; rfl; rfl) | (apply WL.neB; rfl; rfl; rfl; rfl) | (apply QL.neB; rfl; rfl; rfl; rfl) | (apply WL.lenS; rfl; rfl; rfl) | (apply QL.lenS; rfl; rfl; rfl) | (apply WL.makeFunc; rfl; rfl; rfl; rfl) | (apply QL.makeFunc; rfl; rfl; rfl; rfl) | (apply WL.fa; rfl; rfl; rfl) | (apply QL.fa; rfl; rfl; rfl) | (apply WL.nck; rfl; rfl; rfl) | (apply QL.nck; rfl; rfl; rfl) | (apply WL.ld; rfl; rfl; rfl; assumption; rfl) | (apply QL.ld; rfl; rfl; rfl; assumption; rfl) | (apply WL.ldA; rfl; rfl; rfl; assumption; rfl) | (apply QL.ldA; rfl; rfl; rfl; assumption; rfl) | (apply CW.block) | (apply EX.inN) | (apply CW.condT; rfl) | (apply CW.condF; rfl) | (apply CW.exit) | (apply EX.thenX) | (apply EX.inX) | (apply EX.inXne; rfl) | (apply CW.ret) | (apply EX.thenR) | (apply EX.inR) | (apply CW.skip) | (refine WL.lenO rfl rfl rfl (by assumption) ?_) | (apply WL.isNil; rfl; rfl; rfl)))
  rw [b8]
  (repeat (first | (apply WL.add; rfl; rfl; rfl; rfl; omega; omega) | (apply QL.add; rfl; rfl; rfl; rfl; omega; omega) | (apply WL.sub'; rfl; rfl; rfl; rfl; omega; omega) | (apply QL.sub'; rfl; rfl; rfl; rfl; omega; omega) | (apply WL.mul; rfl; rfl; rfl; rfl; omega; omega) | (apply QL.mul; rfl; rfl; rfl; rfl; omega; omega) | (apply WL.pure; rfl; rfl; rfl) | (apply QL.pure; rfl; rfl; rfl) | (apply WL.nil) | (apply EX.thenN) | (apply CW.seq) | (apply CW.region) | (apply WL.pass; rfl; rfl) | (apply QL.pass; rfl; rfl) | (apply WL.eqB; rfl; rfl; rfl; rfl) | (apply QL.eqB; rfl; rfl; rfl; rfl) | (apply WL.neB; rfl; rfl; rfl; rfl) | (apply QL.neB; rfl; rfl; rfl; rfl) | (apply WL.lenS; rfl; rfl; rfl) | (apply QL.lenS; rfl; rfl; rfl) | (apply WL.makeFunc; rfl; rfl; rfl; rfl) | (apply QL.makeFunc; rfl; rfl; rfl; rfl) | (apply WL.fa; rfl; rfl; rfl) | (apply QL.fa; rfl; rfl; rfl) | (apply WL.nck; rfl; rfl; rfl) | (apply QL.nck; rfl; rfl; rfl) | (apply WL.ld; rfl; rfl; rfl; assumption; rfl) | (apply QL.ld; rfl; rfl; rfl; assumption; rfl) | (apply WL.ldA; rfl; rfl; rfl; assumption; rfl) | (apply QL.ldA; rfl; rfl; rfl; assumption; rfl) | (apply CW.block) | (apply EX.inN) | (apply CW.condT; rfl) | (apply CW.condF; rfl) | (apply CW.exit) | (apply EX.thenX) | (apply EX.inX) | (apply EX.inXne; rfl) | (apply CW.ret) | (apply EX.thenR) | (apply EX.inR) | (apply CW.skip) | (refine WL.lenO rfl rfl rfl (by assumption) ?_) | (apply WL.isNil; rfl; rfl; rfl)))
  rw [b9]
  (repeat (first | (apply WL.add; rfl; rfl; rfl; rfl; omega; omega) | (apply QL.add; rfl; rfl; rfl; rfl; omega; omega) | (apply WL.sub'; rfl; rfl; rfl; rfl; omega; omega) | (apply QL.sub'; rfl; rfl; rfl; rfl; omega; omega) | (apply WL.mul; rfl; rfl; rfl; rfl; omega; omega) | (apply QL.mul; rfl; rfl; rfl; rfl; omega; omega) | (apply WL.pure; rfl; rfl; rfl) | (apply QL.pure; rfl; rfl; rfl) | (apply WL.nil) | (apply EX.thenN) | (apply CW.seq) | (apply CW.region) | (apply WL.pass; rfl; rfl) | (apply QL.pass; rfl; rfl) | (apply WL.eqB; rfl; rfl; rfl; rfl) | (apply QL.eqB; rfl; rfl; rfl; rfl) | (apply WL.neB; rfl; rfl; rfl; rfl) | (apply QL.neB; rfl; rfl; rfl; rfl) | (apply WL.lenS; rfl; rfl; rfl) | (apply QL.lenS; rfl; rfl; rfl) | (apply WL.makeFunc; rfl; rfl; rfl; rfl) | (apply QL.makeFunc; rfl; rfl; rfl; rfl) | (apply WL.fa; rfl; rfl; rfl) | (apply QL.fa; rfl; rfl; rfl) | (apply WL.nck; rfl; rfl; rfl) | (apply QL.nck; rfl; rfl; rfl) | (apply WL.ld; rfl; rfl; rfl; assumption; rfl) | (apply QL.ld; rfl; rfl; rfl; assumption; rfl) | (apply WL.ldA; rfl; rfl; rfl; assumption; rfl) | (apply QL.ldA; rfl; rfl; rfl; assumption; rfl) | (apply CW.block) | (apply EX.inN) | (apply CW.condT; rfl) | (apply CW.condF; rfl) | (apply CW.exit) | (apply EX.thenX) | (apply EX.inX) | (apply EX.inXne; rfl) | (apply CW.ret) | (apply EX.thenR) | (apply EX.inR) | (apply CW.skip) | (refine WL.lenO rfl rfl rfl (by assumption) ?_) | (apply WL.isNil; rfl; rfl; rfl)))
  rw [b10]
  (repeat (first | (apply WL.add; rfl; rfl; rfl; rfl; omega; omega) | (apply QL.add; rfl; rfl; rfl; rfl; omega; omega) | (apply WL.sub'; rfl; rfl; rfl; rfl; omega; omega) | (apply QL.sub'; rfl; rfl; rfl; rfl; omega; omega) | (apply WL.mul; rfl; rfl; rfl; rfl; omega; omega) | (apply QL.mul; rfl; rfl; rfl; rfl; omega; omega) | (apply WL.pure; rfl; rfl; rfl) | (apply QL.pure; rfl; rfl; rfl) | (apply WL.nil) | (apply EX.thenN) | (apply CW.seq) | (apply CW.region) | (apply WL.pass; rfl; rfl) | (apply QL.pass; rfl; rfl) | (apply WL.eqB; rfl; rfl; rfl; rfl) | (apply QL.eqB; rfl; rfl; rfl; rfl) | (apply WL.neB; rfl; rfl; rfl; rfl) | (apply QL.neB; rfl; rfl; rfl; rfl) | (apply WL.lenS; rfl; rfl; rfl) | (apply QL.lenS; rfl; rfl; rfl) | (apply WL.makeFunc; rfl; rfl; rfl; rfl) | (apply QL.makeFunc; rfl; rfl; rfl; rfl) | (apply WL.fa; rfl; rfl; rfl) | (apply QL.fa; rfl; rfl; rfl) | (apply WL.nck; rfl; rfl; rfl) | (apply QL.nck; rfl; rfl; rfl) | (apply WL.ld; rfl; rfl; rfl; assumption; rfl) | (apply QL.ld; rfl; rfl; rfl; assumption; rfl) | (apply WL.ldA; rfl; rfl; rfl; assumption; rfl) | (apply QL.ldA; rfl; rfl; rfl; assumption; rfl) | (apply CW.block) | (apply EX.inN) | (apply CW.condT; rfl) | (apply CW.condF; rfl) | (apply CW.exit) | (apply EX.thenX) | (apply EX.inX) | (apply EX.inXne; rfl) | (apply CW.ret) | (apply EX.thenR) | (apply EX.inR) | (apply CW.skip) | (refine WL.lenO rfl rfl rfl (by assumption) ?_) | (apply WL.isNil; rfl; rfl; rfl)))
  rw [b11]
  (repeat (first | (apply WL.add; rfl; rfl; rfl; rfl; omega; omega) | (apply QL.add; rfl; rfl; rfl; rfl; omega; omega) | (apply WL.sub'; rfl; rfl; rfl; rfl; omega; omega) | (apply QL.sub'; rfl; rfl; rfl; rfl; omega; omega) | (apply WL.mul; rfl; rfl; rfl; rfl; omega; omega) | (apply QL.mul; rfl; rfl; rfl; rfl; omega; omega) | (apply WL.pure; rfl; rfl; rfl) | (apply QL.pure; rfl; rfl; rfl) | (apply WL.nil) | (apply EX.thenN) | (apply CW.seq) | (apply CW.region) | (apply WL.pass; rfl; rfl) | (apply QL.pass; rfl; rfl) | (apply WL.eqB; rfl; rfl; rfl; rfl) | (apply QL.eqB; rfl; rfl; rfl; rfl) | (apply WL.neB; rfl; rfl; rfl; rfl) | (apply QL.neB; rfl; rfl; rfl; rfl) | (apply WL.lenS; rfl; rfl; rfl) | (apply QL.lenS; rfl; rfl; rfl) | (apply WL.makeFunc; rfl; rfl; rfl; rfl) | (apply QL.makeFunc; rfl; rfl; rfl; rfl) | (apply WL.fa; rfl; rfl; rfl) | (apply QL.fa; rfl; rfl; rfl) | (apply WL.nck; rfl; rfl; rfl) | (apply QL.nck; rfl; rfl; rfl) | (apply WL.ld; rfl; rfl; rfl; assumption; rfl) | (apply QL.ld; rfl; rfl; rfl; assumption; rfl) | (apply WL.ldA; rfl; rfl; rfl; assumption; rfl) | (apply QL.ldA; rfl; rfl; rfl; assumption; rfl) | (apply CW.block) | (apply EX.inN) | (apply CW.condT; rfl) | (apply CW.condF; rfl) | (apply CW.exit) | (apply EX.thenX) | (apply EX.inX) | (apply EX.inXne; rfl) | (apply CW.ret) | (apply EX.thenR) | (apply EX.inR) | (apply CW.skip) | (refine WL.lenO rfl rfl rfl (by assumption) ?_) | (apply WL.isNil; rfl; rfl; rfl)))
  rw [b12]
  (repeat (first | (apply WL.add; rfl; rfl; rfl; rfl; omega; omega) | (apply QL.add; rfl; rfl; rfl; rfl; omega; omega) | (apply WL.sub'; rfl; rfl; rfl; rfl; omega; omega) | (apply QL.sub'; rfl; rfl; rfl; rfl; omega; omega) | (apply WL.mul; rfl; rfl; rfl; rfl; omega; omega) | (apply QL.mul; rfl; rfl; rfl; rfl; omega; omega) | (apply WL.pure; rfl; rfl; rfl) | (apply QL.pure; rfl; rfl; rfl) | (apply WL.nil) | (apply EX.thenN) | (apply CW.seq) | (apply CW.region) | (apply WL.pass; rfl; rfl) | (apply QL.pass; rfl; rfl) | (apply WL.eqB; rfl; rfl; rfl; rfl) | (apply QL.eqB; rfl; rfl; rfl; rfl) | (apply WL.neB; rfl; rfl; rfl; rfl) | (apply QL.neB; rfl; rfl; rfl; rfl) | (apply WL.lenS; rfl; rfl; rfl) | (apply QL.lenS; rfl; rfl; rfl) | (apply WL.makeFunc; rfl; rfl; rfl; rfl) | (apply QL.makeFunc; rfl; rfl; rfl; rfl) | (apply WL.fa; rfl; rfl; rfl) | (apply QL.fa; rfl; rfl; rfl) | (apply WL.nck; rfl; rfl; rfl) | (apply QL.nck; rfl; rfl; rfl) | (apply WL.ld; rfl; rfl; rfl; assumption; rfl) | (apply QL.ld; rfl; rfl; rfl; assumption; rfl) | (apply WL.ldA; rfl; rfl; rfl; assumption; rfl) | (apply QL.ldA; rfl; rfl; rfl; assumption; rfl) | (apply CW.block) | (apply EX.inN) | (apply CW.condT; rfl) | (apply CW.condF; rfl) | (apply CW.exit) | (apply EX.thenX) | (apply EX.inX) | (apply EX.inXne; rfl) | (apply CW.ret) | (apply EX.thenR) | (apply EX.inR) | (apply CW.skip) | (refine WL.lenO rfl rfl rfl (by assumption) ?_) | (apply WL.isNil; rfl; rfl; rfl)))
  have ed := Ext.drew w6
  have hC := hC.ext ed
  have hr := hr.ext ed
  have hrlt := hr.lt
  have ht := ht.ext ed
  have htlt := ht.lt
  have ha := ha.ext ed
  have halt := ha.lt
  have hb := hb.ext ed
  have hblt := hb.lt
  have hE := hE6.trans ed
  have htK : ∀ x, (fun x : World => SO w1.heap.size (drew w6) x) x → x.heap[w.heap.size]? = (drew w6).heap[w.heap.size]? := fun x hx => hx.2 _ (by omega) htlt
  have haK : ∀ x, (fun x : World => SO w1.heap.size (drew w6) x) x → x.heap[w2.heap.size]? = (drew w6).heap[w2.heap.size]? := fun x hx => hx.2 _ (by omega) halt
  have hbK : ∀ x, (fun x : World => SO w1.heap.size (drew w6) x) x → x.heap[w4.heap.size]? = (drew w6).heap[w4.heap.size]? := fun x hx => hx.2 _ (by omega) hblt
  (repeat (first | (apply WL.add; rfl; rfl; rfl; rfl; omega; omega) | (apply QL.add; rfl; rfl; rfl; rfl; omega; omega) | (apply WL.sub'; rfl; rfl; rfl; rfl; omega; omega) | (apply QL.sub'; rfl; rfl; rfl; rfl; omega; omega) | (apply WL.mul; rfl; rfl; rfl; rfl; omega; omega) | (apply QL.mul; rfl; rfl; rfl; rfl; omega; omega) | (apply WL.pure; rfl; rfl; rfl) | (apply QL.pure; rfl; rfl; rfl) | (apply WL.nil) | (apply EX.thenN) | (apply CW.seq) | (apply CW.region) | (apply WL.pass; rfl; rfl) | (apply QL.pass; rfl; rfl) | (apply WL.eqB; rfl; rfl; rfl; rfl) | (apply QL.eqB; rfl; rfl; rfl; rfl) | (apply WL.neB; rfl; rfl; rfl; rfl) | (apply QL.neB; rfl; rfl; rfl; rfl) | (apply WL.lenS; rfl; rfl; rfl) | (apply QL.lenS; rfl; rfl; rfl) | (apply WL.makeFunc; rfl; rfl; rfl; rfl) | (apply QL.makeFunc; rfl; rfl; rfl; rfl) | (apply WL.fa; rfl; rfl; rfl) | (apply QL.fa; rfl; rfl; rfl) | (apply WL.nck; rfl; rfl; rfl) | (apply QL.nck; rfl; rfl; rfl) | (apply WL.ld; rfl; rfl; rfl; assumption; rfl) | (apply QL.ld; rfl; rfl; rfl; assumption; rfl) | (apply WL.ldA; rfl; rfl; rfl; assumption; rfl) | (apply QL.ldA; rfl; rfl; rfl; assumption; rfl) | (apply CW.block) | (apply EX.inN) | (apply CW.condT; rfl) | (apply CW.condF; rfl) | (apply CW.exit) | (apply EX.thenX) | (apply EX.inX) | (apply EX.inXne; rfl) | (apply CW.ret) | (apply EX.thenR) | (apply EX.inR) | (apply CW.skip) | (refine WL.lenO rfl rfl rfl (by assumption) ?_) | (apply WL.isNil; rfl; rfl; rfl)))
  refine CW.drawH (fun x : World => SO w1.heap.size (drew w6) x) [(0, true), (3, true), (1, false), (2, false), (4, false), (5, false), (6, false), (7, false), (8, false), (9, false), (10, false)] mixed (by kernel_rfl) (SO.refl _ _) ?_
  have hS : SO w1.heap.size (drew w6) (drew w6) := SO.refl _ _
  have hBw : w6.heap.size ≤ (drew w6).heap.size := by have := ed.size; omega
  (repeat (first | (apply HL.add; rfl; rfl; rfl; rfl; rfl; omega; omega) | (apply HL.sub'; rfl; rfl; rfl; rfl; rfl; omega; omega) | (apply HL.pure; rfl; rfl; rfl; rfl) | (apply HL.pass; rfl; rfl; rfl) | (refine HL.fa rfl rfl rfl rfl ?_) | (apply HL.nck; rfl; rfl; rfl; rfl) | (refine HL.ld (by assumption) rfl rfl rfl rfl (by assumption) rfl ?_) | (refine HL.ldK (by assumption) rfl rfl rfl rfl (by assumption) rfl ?_) | (refine HL.ldA (by assumption) rfl rfl rfl rfl (by assumption) rfl ?_) | (refine HL.lenS rfl rfl rfl rfl ?_) | (refine HL.eqB rfl rfl rfl rfl rfl ?_) | (refine HL.neB rfl rfl rfl rfl rfl ?_) | (refine HL.build rfl rfl rfl rfl rfl ?_) | (apply HL.makeFunc; rfl; rfl; rfl; rfl; rfl) | (apply HL.nil)))
  refine HL.mut rfl (WL.callF (xs := []) (vs := []) rfl rfl rfl rfl (hC.runA.low hBw) ?_)
  rintro v142 y1 ⟨g142, ey1⟩
  have hC := hC.ext ey1
  have hr := hr.ext ey1
  have ht := ht.ext ey1
  have ha := ha.ext ey1
  have hb := hb.ext ey1
  have hE := hE.trans ey1
  have hBw : w6.heap.size ≤ y1.heap.size := Nat.le_trans hBw ey1.size
  have hS := hS.ext ey1
  refine WL.nil (EX.mut hS ?_)
  refine HL.mut rfl (WL.call rfl rfl rfl (dc_notG y1 hBw g142) ?_)
  rintro v143 y2 ⟨g143, ey2⟩
  have hC := hC.ext ey2
  have g142 := g142.ext ey2
  have hr := hr.ext ey2
  have ht := ht.ext ey2
  have ha := ha.ext ey2
  have hb := hb.ext ey2
  have hE := hE.trans ey2
  have hBw : w6.heap.size ≤ y2.heap.size := Nat.le_trans hBw ey2.size
  have hS := hS.ext ey2
  refine WL.nil (EX.mut hS ?_)
  refine HL.mut rfl (WL.callF (xs := []) (vs := []) rfl rfl rfl rfl (hC.runB.low hBw) ?_)
  rintro v145 y3 ⟨g145, ey3⟩
  have hC := hC.ext ey3
  have g142 := g142.ext ey3
  have g143 := g143.ext ey3
  have hr := hr.ext ey3
  have ht := ht.ext ey3
  have ha := ha.ext ey3
  have hb := hb.ext ey3
  have hE := hE.trans ey3
  have hBw : w6.heap.size ≤ y3.heap.size := Nat.le_trans hBw ey3.size
  have hS := hS.ext ey3
  refine WL.nil (EX.mut hS ?_)
  refine HL.mut rfl (WL.call rfl rfl rfl (dc_someG y3 hBw g145) ?_)
  rintro v146 y4 ⟨g146, ey4⟩
  have hC := hC.ext ey4
  have g142 := g142.ext ey4
  have g143 := g143.ext ey4
  have g145 := g145.ext ey4
  have hr := hr.ext ey4
  have ht := ht.ext ey4
  have ha := ha.ext ey4
  have hb := hb.ext ey4
  have hE := hE.trans ey4
  have hBw : w6.heap.size ≤ y4.heap.size := Nat.le_trans hBw ey4.size
  have hS := hS.ext ey4
  refine WL.nil (EX.mut hS ?_)
  refine HL.mut rfl (WL.call rfl rfl rfl (dc_oneG y4 hBw 7 g146) ?_)
  rintro v147 y5 ⟨g147, ey5⟩
  have hC := hC.ext ey5
  have g142 := g142.ext ey5
  have g143 := g143.ext ey5
  have g145 := g145.ext ey5
  have g146 := g146.ext ey5
  have hr := hr.ext ey5
  have ht := ht.ext ey5
  have ha := ha.ext ey5
  have hb := hb.ext ey5
  have hE := hE.trans ey5
  have hBw : w6.heap.size ≤ y5.heap.size := Nat.le_trans hBw ey5.size
  have hS := hS.ext ey5
  refine WL.nil (EX.mut hS ?_)
  refine HL.mut rfl (WL.call rfl rfl rfl (dc_notG y5 hBw g147) ?_)
  rintro v148 y6 ⟨g148, ey6⟩
  have hC := hC.ext ey6
  have g142 := g142.ext ey6
  have g143 := g143.ext ey6
  have g145 := g145.ext ey6
  have g146 := g146.ext ey6
  have g147 := g147.ext ey6
  have hr := hr.ext ey6
  have ht := ht.ext ey6
  have ha := ha.ext ey6
  have hb := hb.ext ey6
  have hE := hE.trans ey6
  have hBw : w6.heap.size ≤ y6.heap.size := Nat.le_trans hBw ey6.size
  have hS := hS.ext ey6
  refine WL.nil (EX.mut hS ?_)
  refine HL.mut rfl (WL.call rfl rfl rfl (dc_orG y6 hBw g143 g148) ?_)
  rintro v149 y7 ⟨g149, ey7⟩
  have hC := hC.ext ey7
  have g142 := g142.ext ey7
  have g143 := g143.ext ey7
  have g145 := g145.ext ey7
  have g146 := g146.ext ey7
  have g147 := g147.ext ey7
  have g148 := g148.ext ey7
  have hr := hr.ext ey7
  have ht := ht.ext ey7
  have ha := ha.ext ey7
  have hb := hb.ext ey7
  have hE := hE.trans ey7
  have hBw : w6.heap.size ≤ y7.heap.size := Nat.le_trans hBw ey7.size
  have hS := hS.ext ey7
  refine WL.nil (EX.mut hS ?_)
  refine HL.mut rfl (WL.call rfl rfl rfl (dc_alwaysG y7 hBw g149) ?_)
  rintro v150 y8 ⟨g150, ey8⟩
  have hC := hC.ext ey8
  have g142 := g142.ext ey8
  have g143 := g143.ext ey8
  have g145 := g145.ext ey8
  have g146 := g146.ext ey8
  have g147 := g147.ext ey8
  have g148 := g148.ext ey8
  have g149 := g149.ext ey8
  have hr := hr.ext ey8
  have ht := ht.ext ey8
  have ha := ha.ext ey8
  have hb := hb.ext ey8
  have hE := hE.trans ey8
  have hBw : w6.heap.size ≤ y8.heap.size := Nat.le_trans hBw ey8.size
  have hS := hS.ext ey8
  refine WL.nil (EX.mut hS ?_)
  obtain ⟨uo, uc, rfl, hku⟩ := Rd.ltl g150
  refine HL.mut rfl (WL.st rfl rfl rfl hr rfl rfl (ones_of rfl) (fun z hz hgz => ?_))
  refine WL.nil (EX.mut (hS.st hgz) (HL.nil ?_))
  (repeat (first | (apply WL.add; rfl; rfl; rfl; rfl; omega; omega) | (apply QL.add; rfl; rfl; rfl; rfl; omega; omega) | (apply WL.sub'; rfl; rfl; rfl; rfl; omega; omega) | (apply QL.sub'; rfl; rfl; rfl; rfl; omega; omega) | (apply WL.mul; rfl; rfl; rfl; rfl; omega; omega) | (apply QL.mul; rfl; rfl; rfl; rfl; omega; omega) | (apply WL.pure; rfl; rfl; rfl) | (apply QL.pure; rfl; rfl; rfl) | (apply WL.nil) | (apply EX.thenN) | (apply CW.seq) | (apply CW.region) | (apply WL.pass; rfl; rfl) | (apply QL.pass; rfl; rfl) | (apply WL.eqB; rfl; rfl; rfl; rfl) | (apply QL.eqB; rfl; rfl; rfl; rfl) | (apply WL.neB; rfl; rfl; rfl; rfl) | (apply QL.neB; rfl; rfl; rfl; rfl) | (apply WL.lenS; rfl; rfl; rfl) | (apply QL.lenS; rfl; rfl; rfl) | (apply WL.makeFunc; rfl; rfl; rfl; rfl) | (apply QL.makeFunc; rfl; rfl; rfl; rfl) | (apply WL.fa; rfl; rfl; rfl) | (apply QL.fa; rfl; rfl; rfl) | (apply WL.nck; rfl; rfl; rfl) | (apply QL.nck; rfl; rfl; rfl) | (apply WL.ld; rfl; rfl; rfl; assumption; rfl) | (apply QL.ld; rfl; rfl; rfl; assumption; rfl) | (apply WL.ldA; rfl; rfl; rfl; assumption; rfl) | (apply QL.ldA; rfl; rfl; rfl; assumption; rfl) | (apply CW.block) | (apply EX.inN) | (apply CW.condT; rfl) | (apply CW.condF; rfl) | (apply CW.exit) | (apply EX.thenX) | (apply EX.inX) | (apply EX.inXne; rfl) | (apply CW.ret) | (apply EX.thenR) | (apply EX.inR) | (apply CW.skip) | (refine WL.lenO rfl rfl rfl (by assumption) ?_) | (apply WL.isNil; rfl; rfl; rfl) | (apply CW.draw; exact mixed; kernel_rfl)))
  exact EX.retC rfl rfl hz rfl ⟨(g150.st hgz (by omega)).low (by omega), ret_size hE hgz (by omega)⟩
end Go.Proofs.Ytdepjllboiolpaa
