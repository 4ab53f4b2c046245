/-
  Package dwyer: functions that build formulas.
-/
import Derived.Test.YthojdcbpglipeaaGL
set_option linter.unusedVariables false
set_option linter.unusedSimpArgs false
namespace Go.Proofs.Ythojdcbpglipeaa
open Go.RowKit

theorem dw_one (w : World) {F : Nat → Prop} (hF : ∀ b, F b → b < w.heap.size) (k : Int) {v : Value} {t : Ltl} (h : Rd w F v t) : Rt Try.prog 129 [.int .i64 k, v].toArray w fun v w' => Rd w' (Plus F w w') v (.mk k 0 [t] : Ltl) ∧ Ext w w' := by
  obtain ⟨ao, cap, rfl, hk⟩ := Rd.ltl h
  refine Rt.enter2 Try.func129 Try.ntmps129 rfl rfl ?_
  (repeat (first | (apply CW.seq) | (apply CW.region)))
  refine WL.boxB rfl rfl rfl fun w1 hb hE1 => ?_
  refine WL.alloc rfl rfl (fun w2 hr hE2 => ?_)
  have hb2 := hb.ext hE2
  have hE12 := hE1.trans hE2
  (repeat (first | (apply WL.pure; rfl; rfl; rfl) | (apply WL.nil) | (apply EX.thenN) | (apply CW.seq) | (apply CW.region) | (apply WL.ldA; rfl; rfl; rfl; assumption; rfl)))
  have hl : Rd w2 F (ltlV t.k t.n ao t.kids.length cap) t := Rd.mono h (fun b hb => hE12.block b (hF b hb)) (fun _ h => h)
  have hw2 : w.heap.size ≤ w2.heap.size := hE12.size
  have hlt := hr.lt
  have hw1 : w.heap.size ≤ w1.heap.size := hE1.size
  refine WL.lit (F := F) (ys := [t]) rfl rfl rfl rfl rfl (.cons hl .nil) (by show 1 * 3 ≤ 16777216; decide) (fun b hb => Nat.lt_of_lt_of_le (hF b hb) hw2) (fun w3 ho hg3 => ?_)
  have hE23 : Ext w2 w3 := (Ext.refl w2).grown hg3 (Nat.le_refl _) (fun k h => by cases h)
  have hr3 := hr.ext hE23
  have hE13 := hE12.trans hE23
  refine WL.build rfl rfl rfl rfl ?_
  refine WL.st rfl rfl rfl hr3 rfl rfl (ones_of rfl) (fun w4 hr4 hgr => ?_)
  have hE4 : Ext w w4 := hE13.grown hgr hE13.size (fun g hg => by cases hg; exact hE1.size)
  have ho4 := ho.kept hgr (fun g hg => by have := (ho.lt g hg).1; simp; omega) (fun b hb => ⟨Nat.lt_of_lt_of_le (hF b hb) hE13.size, by have : b < w.heap.size := hF b hb; simp; omega⟩)
  obtain ⟨uo, uc, he, hu⟩ := (ho4.rd.mono (F' := Plus F w w4) (fun _ _ => rfl) (fun b hb => hb.elim .inl fun hv => .inr ⟨Nat.le_trans hE12.size (ho4.lt b hv).1, (ho4.lt b hv).2.1⟩)).sl
  obtain ⟨rfl, _, rfl⟩ := Value.slice.inj he
  (repeat (first | (apply WL.nil) | (apply EX.thenN) | (apply CW.ret)))
  exact EX.retC rfl rfl hr4 rfl ⟨Rd.mkLtl (kids := [t]) hu, hE4⟩
theorem dw_two (w : World) {F : Nat → Prop} (hF : ∀ b, F b → b < w.heap.size) (k : Int) {v v' : Value} {t t' : Ltl} (h : Rd w F v t) (h' : Rd w F v' t') : Rt Try.prog 161 [.int .i64 k, v, v'].toArray w fun v w' => Rd w' (Plus F w w') v (.mk k 0 [t, t'] : Ltl) ∧ Ext w w' := by
  obtain ⟨ao, cap, rfl, hk⟩ := Rd.ltl h
  obtain ⟨ao', cap', rfl, hk'⟩ := Rd.ltl h'
  refine Rt.enter3 Try.func161 Try.ntmps161 rfl rfl ?_
  (repeat (first | (apply CW.seq) | (apply CW.region)))
  refine WL.boxB rfl rfl rfl fun w0 hb0 hE0 => ?_
  refine WL.boxB rfl rfl rfl fun w1 hb hE1 => ?_
  have hb0 := hb0.ext hE1
  have hE1 := hE0.trans hE1
  refine WL.alloc rfl rfl (fun w2 hr hE2 => ?_)
  have hb0 := hb0.ext hE2
  have hb2 := hb.ext hE2
  have hE12 := hE1.trans hE2
  (repeat (first | (apply WL.pure; rfl; rfl; rfl) | (apply WL.nil) | (apply EX.thenN) | (apply CW.seq) | (apply CW.region) | (apply WL.ldA; rfl; rfl; rfl; assumption; rfl)))
  have hl : Rd w2 F (ltlV t.k t.n ao t.kids.length cap) t := Rd.mono h (fun b hb => hE12.block b (hF b hb)) (fun _ h => h)
  have hl' : Rd w2 F (ltlV t'.k t'.n ao' t'.kids.length cap') t' := Rd.mono h' (fun b hb => hE12.block b (hF b hb)) (fun _ h => h)
  have hw2 : w.heap.size ≤ w2.heap.size := hE12.size
  have hlt := hr.lt
  have hw1 : w.heap.size ≤ w1.heap.size := hE1.size
  refine WL.lit (F := F) (ys := [t, t']) rfl rfl rfl rfl rfl (.cons hl (.cons hl' .nil)) (by show 2 * 3 ≤ 16777216; decide) (fun b hb => Nat.lt_of_lt_of_le (hF b hb) hw2) (fun w3 ho hg3 => ?_)
  have hE23 : Ext w2 w3 := (Ext.refl w2).grown hg3 (Nat.le_refl _) (fun k h => by cases h)
  have hr3 := hr.ext hE23
  have hE13 := hE12.trans hE23
  refine WL.build rfl rfl rfl rfl ?_
  refine WL.st rfl rfl rfl hr3 rfl rfl (ones_of rfl) (fun w4 hr4 hgr => ?_)
  have hE4 : Ext w w4 := hE13.grown hgr hE13.size (fun g hg => by cases hg; exact hE1.size)
  have ho4 := ho.kept hgr (fun g hg => by have := (ho.lt g hg).1; simp; omega) (fun b hb => ⟨Nat.lt_of_lt_of_le (hF b hb) hE13.size, by have : b < w.heap.size := hF b hb; simp; omega⟩)
  obtain ⟨uo, uc, he, hu⟩ := (ho4.rd.mono (F' := Plus F w w4) (fun _ _ => rfl) (fun b hb => hb.elim .inl fun hv => .inr ⟨Nat.le_trans hE12.size (ho4.lt b hv).1, (ho4.lt b hv).2.1⟩)).sl
  obtain ⟨rfl, _, rfl⟩ := Value.slice.inj he
  (repeat (first | (apply WL.nil) | (apply EX.thenN) | (apply CW.ret)))
  exact EX.retC rfl rfl hr4 rfl ⟨Rd.mkLtl (kids := [t, t']) hu, hE4⟩
theorem dw_oneG (w : World) {B : Nat} (hB : B ≤ w.heap.size) (k : Int) {v : Value} {t : Ltl} (h : GL B w v t) : Rt Try.prog 129 [.int .i64 k, v].toArray w fun u w' => GL B w' u (.mk k 0 [t]) ∧ Ext w w' :=
  (dw_one w (fun b hb => hb.2) k h).mono fun u w' h => ⟨h.1.wk (GL.plus hB h.2), h.2⟩
theorem dw_twoG (w : World) {B : Nat} (hB : B ≤ w.heap.size) (k : Int) {v v' : Value} {t t' : Ltl} (h : GL B w v t) (h' : GL B w v' t') : Rt Try.prog 161 [.int .i64 k, v, v'].toArray w fun u w' => GL B w' u (.mk k 0 [t, t']) ∧ Ext w w' :=
  (dw_two w (F := fun b => B ≤ b ∧ b < w.heap.size) (fun b hb => hb.2) k h h').mono fun u w' h => ⟨h.1.wk (GL.plus hB h.2), h.2⟩
theorem dw_not (w : World) {F : Nat → Prop} (hF : ∀ b, F b → b < w.heap.size) {v : Value} {t : Ltl} (h : Rd w F v t) : Rt Try.prog 127 [v].toArray w fun u w' => Rd w' (Plus F w w') u (.mk 4 0 [t] : Ltl) ∧ Ext w w' := by
  obtain ⟨ao, cap, rfl, hk⟩ := Rd.ltl h
  refine Rt.enter1 Try.func127 Try.ntmps127 rfl rfl ?_
  (repeat (first | (apply CW.seq) | (apply CW.region)))
  refine WL.boxB rfl rfl rfl fun w1 hb hE1 => ?_
  refine WL.alloc rfl rfl (fun w2 hr hE2 => ?_)
  have hb := hb.ext hE2
  have hE := hE1.trans hE2
  have hz1 : w.heap.size ≤ w1.heap.size := hE1.size
  have hlr := hr.lt
  (repeat (first | (apply WL.nil) | (apply EX.thenN) | (apply CW.seq) | (apply CW.region) | (apply WL.ldA; rfl; rfl; rfl; assumption; rfl)))
  refine WL.call rfl rfl rfl (dw_one w2 (fun b hb => Nat.lt_of_lt_of_le (hF b hb) hE.size) 4 (Rd.up0 h hE hF)) ?_
  rintro u w3 ⟨hu, e3⟩
  obtain ⟨uo, uc, rfl, hku⟩ := Rd.ltl hu
  refine WL.st rfl rfl rfl (hr.ext e3) rfl rfl (ones_of rfl) (fun w4 hr4 hg4 => ?_)
  (repeat (first | (apply WL.nil) | (apply EX.thenN) | (apply CW.ret)))
  exact EX.retC rfl rfl hr4 rfl ⟨fin_wrap hu hg4 hF hz1 hlr hE.size e3.size, ret_size (hE.trans e3) hg4 hz1⟩
theorem dw_notG (w : World) {B : Nat} (hB : B ≤ w.heap.size) {v : Value} {t : Ltl} (h : GL B w v t) : Rt Try.prog 127 [v].toArray w fun u w' => GL B w' u (.mk 4 0 [t]) ∧ Ext w w' :=
  (dw_not w (fun b hb => hb.2) h).mono fun u w' h => ⟨h.1.wk (GL.plus hB h.2), h.2⟩
theorem dw_always (w : World) {F : Nat → Prop} (hF : ∀ b, F b → b < w.heap.size) {v : Value} {t : Ltl} (h : Rd w F v t) : Rt Try.prog 131 [v].toArray w fun u w' => Rd w' (Plus F w w') u (.mk 11 0 [t] : Ltl) ∧ Ext w w' := by
  obtain ⟨ao, cap, rfl, hk⟩ := Rd.ltl h
  refine Rt.enter1 Try.func131 Try.ntmps131 rfl rfl ?_
  (repeat (first | (apply CW.seq) | (apply CW.region)))
  refine WL.boxB rfl rfl rfl fun w1 hb hE1 => ?_
  refine WL.alloc rfl rfl (fun w2 hr hE2 => ?_)
  have hb := hb.ext hE2
  have hE := hE1.trans hE2
  have hz1 : w.heap.size ≤ w1.heap.size := hE1.size
  have hlr := hr.lt
  (repeat (first | (apply WL.nil) | (apply EX.thenN) | (apply CW.seq) | (apply CW.region) | (apply WL.ldA; rfl; rfl; rfl; assumption; rfl)))
  refine WL.call rfl rfl rfl (dw_one w2 (fun b hb => Nat.lt_of_lt_of_le (hF b hb) hE.size) 11 (Rd.up0 h hE hF)) ?_
  rintro u w3 ⟨hu, e3⟩
  obtain ⟨uo, uc, rfl, hku⟩ := Rd.ltl hu
  refine WL.st rfl rfl rfl (hr.ext e3) rfl rfl (ones_of rfl) (fun w4 hr4 hg4 => ?_)
  (repeat (first | (apply WL.nil) | (apply EX.thenN) | (apply CW.ret)))
  exact EX.retC rfl rfl hr4 rfl ⟨fin_wrap hu hg4 hF hz1 hlr hE.size e3.size, ret_size (hE.trans e3) hg4 hz1⟩
theorem dw_alwaysG (w : World) {B : Nat} (hB : B ≤ w.heap.size) {v : Value} {t : Ltl} (h : GL B w v t) : Rt Try.prog 131 [v].toArray w fun u w' => GL B w' u (.mk 11 0 [t]) ∧ Ext w w' :=
  (dw_always w (fun b hb => hb.2) h).mono fun u w' h => ⟨h.1.wk (GL.plus hB h.2), h.2⟩
theorem dw_and (w : World) {F : Nat → Prop} (hF : ∀ b, F b → b < w.heap.size) {v v' : Value} {t t' : Ltl} (h : Rd w F v t) (h' : Rd w F v' t') : Rt Try.prog 133 [v, v'].toArray w fun u w' => Rd w' (Plus F w w') u (.mk 5 0 [t, t'] : Ltl) ∧ Ext w w' := by
  obtain ⟨ao, cap, rfl, hk⟩ := Rd.ltl h
  obtain ⟨ao', cap', rfl, hk'⟩ := Rd.ltl h'
  refine Rt.enter2 Try.func133 Try.ntmps133 rfl rfl ?_
  (repeat (first | (apply CW.seq) | (apply CW.region)))
  refine WL.boxB rfl rfl rfl fun w0 hb0 hE0 => ?_
  refine WL.boxB rfl rfl rfl fun w1 hb hE1 => ?_
  have hb0 := hb0.ext hE1
  have hE1 := hE0.trans hE1
  refine WL.alloc rfl rfl (fun w2 hr hE2 => ?_)
  have hb0 := hb0.ext hE2
  have hb := hb.ext hE2
  have hE := hE1.trans hE2
  have hz1 : w.heap.size ≤ w1.heap.size := hE1.size
  have hlr := hr.lt
  (repeat (first | (apply WL.nil) | (apply EX.thenN) | (apply CW.seq) | (apply CW.region) | (apply WL.ldA; rfl; rfl; rfl; assumption; rfl)))
  refine WL.call rfl rfl rfl (dw_two w2 (F := F) (fun b hb => Nat.lt_of_lt_of_le (hF b hb) hE.size) 5 (Rd.up0 h hE hF) (Rd.up0 h' hE hF)) ?_
  rintro u w3 ⟨hu, e3⟩
  obtain ⟨uo, uc, rfl, hku⟩ := Rd.ltl hu
  refine WL.st rfl rfl rfl (hr.ext e3) rfl rfl (ones_of rfl) (fun w4 hr4 hg4 => ?_)
  (repeat (first | (apply WL.nil) | (apply EX.thenN) | (apply CW.ret)))
  exact EX.retC rfl rfl hr4 rfl ⟨fin_wrap hu hg4 hF hz1 hlr hE.size e3.size, ret_size (hE.trans e3) hg4 hz1⟩
theorem dw_andG (w : World) {B : Nat} (hB : B ≤ w.heap.size) {v v' : Value} {t t' : Ltl} (h : GL B w v t) (h' : GL B w v' t') : Rt Try.prog 133 [v, v'].toArray w fun u w' => GL B w' u (.mk 5 0 [t, t']) ∧ Ext w w' :=
  (dw_and w (F := fun b => B ≤ b ∧ b < w.heap.size) (fun b hb => hb.2) h h').mono fun u w' h => ⟨h.1.wk (GL.plus hB h.2), h.2⟩
theorem dw_or (w : World) {F : Nat → Prop} (hF : ∀ b, F b → b < w.heap.size) {v v' : Value} {t t' : Ltl} (h : Rd w F v t) (h' : Rd w F v' t') : Rt Try.prog 128 [v, v'].toArray w fun u w' => Rd w' (Plus F w w') u (.mk 6 0 [t, t'] : Ltl) ∧ Ext w w' := by
  obtain ⟨ao, cap, rfl, hk⟩ := Rd.ltl h
  obtain ⟨ao', cap', rfl, hk'⟩ := Rd.ltl h'
  refine Rt.enter2 Try.func128 Try.ntmps128 rfl rfl ?_
  (repeat (first | (apply CW.seq) | (apply CW.region)))
  refine WL.boxB rfl rfl rfl fun w0 hb0 hE0 => ?_
  refine WL.boxB rfl rfl rfl fun w1 hb hE1 => ?_
  have hb0 := hb0.ext hE1
  have hE1 := hE0.trans hE1
  refine WL.alloc rfl rfl (fun w2 hr hE2 => ?_)
  have hb0 := hb0.ext hE2
  have hb := hb.ext hE2
  have hE := hE1.trans hE2
  have hz1 : w.heap.size ≤ w1.heap.size := hE1.size
  have hlr := hr.lt
  (repeat (first | (apply WL.nil) | (apply EX.thenN) | (apply CW.seq) | (apply CW.region) | (apply WL.ldA; rfl; rfl; rfl; assumption; rfl)))
  refine WL.call rfl rfl rfl (dw_two w2 (F := F) (fun b hb => Nat.lt_of_lt_of_le (hF b hb) hE.size) 6 (Rd.up0 h hE hF) (Rd.up0 h' hE hF)) ?_
  rintro u w3 ⟨hu, e3⟩
  obtain ⟨uo, uc, rfl, hku⟩ := Rd.ltl hu
  refine WL.st rfl rfl rfl (hr.ext e3) rfl rfl (ones_of rfl) (fun w4 hr4 hg4 => ?_)
  (repeat (first | (apply WL.nil) | (apply EX.thenN) | (apply CW.ret)))
  exact EX.retC rfl rfl hr4 rfl ⟨fin_wrap hu hg4 hF hz1 hlr hE.size e3.size, ret_size (hE.trans e3) hg4 hz1⟩
theorem dw_orG (w : World) {B : Nat} (hB : B ≤ w.heap.size) {v v' : Value} {t t' : Ltl} (h : GL B w v t) (h' : GL B w v' t') : Rt Try.prog 128 [v, v'].toArray w fun u w' => GL B w' u (.mk 6 0 [t, t']) ∧ Ext w w' :=
  (dw_or w (F := fun b => B ≤ b ∧ b < w.heap.size) (fun b hb => hb.2) h h').mono fun u w' h => ⟨h.1.wk (GL.plus hB h.2), h.2⟩
theorem dw_until (w : World) {F : Nat → Prop} (hF : ∀ b, F b → b < w.heap.size) {v v' : Value} {t t' : Ltl} (h : Rd w F v t) (h' : Rd w F v' t') : Rt Try.prog 132 [v, v'].toArray w fun u w' => Rd w' (Plus F w w') u (.mk 8 0 [t, t'] : Ltl) ∧ Ext w w' := by
  obtain ⟨ao, cap, rfl, hk⟩ := Rd.ltl h
  obtain ⟨ao', cap', rfl, hk'⟩ := Rd.ltl h'
  refine Rt.enter2 Try.func132 Try.ntmps132 rfl rfl ?_
  (repeat (first | (apply CW.seq) | (apply CW.region)))
  refine WL.boxB rfl rfl rfl fun w0 hb0 hE0 => ?_
  refine WL.boxB rfl rfl rfl fun w1 hb hE1 => ?_
  have hb0 := hb0.ext hE1
  have hE1 := hE0.trans hE1
  refine WL.alloc rfl rfl (fun w2 hr hE2 => ?_)
  have hb0 := hb0.ext hE2
  have hb := hb.ext hE2
  have hE := hE1.trans hE2
  have hz1 : w.heap.size ≤ w1.heap.size := hE1.size
  have hlr := hr.lt
  (repeat (first | (apply WL.nil) | (apply EX.thenN) | (apply CW.seq) | (apply CW.region) | (apply WL.ldA; rfl; rfl; rfl; assumption; rfl)))
  refine WL.call rfl rfl rfl (dw_two w2 (F := F) (fun b hb => Nat.lt_of_lt_of_le (hF b hb) hE.size) 8 (Rd.up0 h hE hF) (Rd.up0 h' hE hF)) ?_
  rintro u w3 ⟨hu, e3⟩
  obtain ⟨uo, uc, rfl, hku⟩ := Rd.ltl hu
  refine WL.st rfl rfl rfl (hr.ext e3) rfl rfl (ones_of rfl) (fun w4 hr4 hg4 => ?_)
  (repeat (first | (apply WL.nil) | (apply EX.thenN) | (apply CW.ret)))
  exact EX.retC rfl rfl hr4 rfl ⟨fin_wrap hu hg4 hF hz1 hlr hE.size e3.size, ret_size (hE.trans e3) hg4 hz1⟩
theorem dw_untilG (w : World) {B : Nat} (hB : B ≤ w.heap.size) {v v' : Value} {t t' : Ltl} (h : GL B w v t) (h' : GL B w v' t') : Rt Try.prog 132 [v, v'].toArray w fun u w' => GL B w' u (.mk 8 0 [t, t']) ∧ Ext w w' :=
  (dw_until w (F := fun b => B ≤ b ∧ b < w.heap.size) (fun b hb => hb.2) h h').mono fun u w' h => ⟨h.1.wk (GL.plus hB h.2), h.2⟩
theorem dw_leafG (w : World) (B : Nat) (k : Int) : Rt Try.prog 126 [.int .i64 k].toArray w fun v w' => GL B w' v (.mk 3 k [] : Ltl) ∧ Ext w w' := by
  refine Rt.enter1 Try.func126 Try.ntmps126 rfl rfl ?_
  (repeat (first | (apply CW.seq) | (apply CW.region)))
  refine WL.alloc rfl rfl (fun w1 hb hE => ?_)
  (repeat (first | (apply WL.pure; rfl; rfl; rfl) | (apply WL.nil) | (apply EX.thenN) | (apply CW.seq) | (apply CW.region)))
  refine WL.build rfl rfl rfl rfl ?_
  refine WL.st rfl rfl rfl hb rfl rfl (ones_of rfl) (fun w2 hb2 hgr => ?_)
  have hE2 : Ext w w2 := hE.grown hgr hE.size (fun g hg => by cases hg; exact Nat.le_refl _)
  (repeat (first | (apply WL.nil) | (apply EX.thenN) | (apply CW.ret)))
  exact EX.retC rfl rfl hb2 rfl ⟨Rd.mkLtl (kids := []) (Sl.zero _ _), hE2⟩
end Go.Proofs.Ythojdcbpglipeaa
