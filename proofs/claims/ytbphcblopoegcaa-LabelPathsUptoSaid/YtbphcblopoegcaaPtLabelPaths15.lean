import Derived.Test.YtbphcblopoegcaaRows
import Derived.OpenShut
import Derived.JoinedCond
import Derived.Test.YtbphcblopoegcaaPtLabelPaths14
/-
  LabelPaths: walked.
-/
set_option linter.unusedVariables false
set_option linter.unusedSimpArgs false
namespace Go.Proofs.Ytbphcblopoegcaa
open Go.RowKit

set_option maxHeartbeats 4000000 in
set_option maxRecDepth 100000 in
theorem LabelPaths_ok (w0 : World) {f : Ltl} {vf : Value} {a1 a2 a3 a4 so lo : Option Addr} {c1 c2 c3 c4 sc lc : Nat} {st s l : List Int} {nx fr : Graph} {lb : List Nat} (hf : CL w0 vf f) (h1 : Sl w0 (Old w0) a1 c1 st) (h2 : Sl w0 (Old w0) a2 c2 nx) (h3 : Sl w0 (Old w0) a3 c3 lb) (h4 : Sl w0 (Old w0) a4 c4 fr)
    (hs : Sl w0 (Old w0) so sc s) (hl : Sl w0 (Old w0) lo lc l) (hT : edges nx ≤ 8589934592) (hB : s.length + l.length ≤ 8589934592) :
    Rt Try.prog 8 [worldV a1 c1 a2 c2 a3 c3 a4 c4 st.length nx.length lb.length fr.length, vf, pathV so sc lo lc s l].toArray w0 fun v w' => v = .bool true ∧ Ext w0 w' := by
  obtain ⟨fo, fc, rfl, hk⟩ := Rd.ltl hf
  refine Rt.enter3 Try.func8 Try.ntmps8 rfl rfl ?_
  (repeat (first | (apply CW.seq) | (apply CW.region)))
  refine WL.boxB rfl rfl rfl fun w1 hb3 e1 => ?_
  refine WL.boxB rfl rfl rfl fun w2 hb4 e2 => ?_
  refine WL.boxB rfl rfl rfl fun w3 hb5 e3 => ?_
  have hb3 := hb3.ext (e2.trans e3)
  have hb4 := hb4.ext e3
  have hE3 := (e1.trans e2).trans e3
  have hl3 := hb3.lt
  have hl4 := hb4.lt
  have hl5 := hb5.lt
  clear e1 e2 e3
  (repeat (first | (apply WL.pure; rfl; rfl; rfl) | (apply WL.nil) | (apply EX.thenN) | (apply CW.seq) | (apply CW.region)))
  refine WL.call rfl rfl rfl (known_ok w3) ?_
  rintro v w4 ⟨rfl, e4⟩
  have hb3 := hb3.ext e4
  have hb4 := hb4.ext e4
  have hb5 := hb5.ext e4
  have hE4 := hE3.trans e4
  have z4 := e4.size
  clear e4 hE3
  (repeat (first | (apply WL.pure; rfl; rfl; rfl) | (apply WL.nil) | (apply EX.thenN) | (apply CW.seq) | (apply CW.region) | (apply WL.ldA; rfl; rfl; rfl; assumption; rfl) | (apply CW.condF; rfl) | (apply CW.skip)))
  refine WL.call rfl rfl rfl (labels_ok w4 (h1.up hE4) (h2.up hE4) (h3.up hE4) (h4.up hE4) (hk.up hE4) hT) ?_
  rintro _ w5 ⟨x, rfl, hx, e5⟩
  have hb3 := hb3.ext e5
  have hb4 := hb4.ext e5
  have hb5 := hb5.ext e5
  have hE5 := hE4.trans e5
  have z5 := e5.size
  clear e5 hE4
  by_cases n1 : labE st nx lb.length fr f = 0
  case neg =>
    rw [decide_eq_false n1]
    (repeat (first | (apply WL.pure; rfl; rfl; rfl) | (apply WL.nil) | (apply EX.thenN) | (apply CW.seq) | (apply CW.region) | (apply WL.pass; rfl; rfl) | (apply CW.condT; rfl) | (apply CW.ret) | (apply EX.thenR)))
    exact EX.ret1 rfl rfl ⟨rfl, hE5⟩
  rw [decide_eq_true n1]
  rw [if_pos n1] at hx
  obtain ⟨xo, xc, rfl, hxs⟩ := hx.asSl
  by_cases hl0 : l.length = 0
  · have hz : (((l.length : Nat) : Int) == 0) = true := by rw [hl0]; rfl
    (repeat (first | (apply WL.pure; rfl; rfl; rfl) | (apply WL.nil) | (apply EX.thenN) | (apply CW.seq) | (apply CW.region) | (apply WL.lenS; rfl; rfl; rfl) | (apply WL.fa; rfl; rfl; rfl) | (apply WL.ld; rfl; rfl; rfl; assumption; rfl)))
    rw [hz]
    (repeat (first | (apply WL.pure; rfl; rfl; rfl) | (apply WL.nil) | (apply EX.thenN) | (apply CW.seq) | (apply CW.region) | (apply CW.condT; rfl) | (apply CW.ret) | (apply EX.thenR)))
    exact EX.ret1 rfl rfl ⟨rfl, hE5⟩
  have hz : (((l.length : Nat) : Int) == 0) = false := by
    have : (l.length : Int) ≠ 0 := by omega
    simpa using this
  (repeat (first | (apply WL.pure; rfl; rfl; rfl) | (apply WL.nil) | (apply EX.thenN) | (apply CW.seq) | (apply CW.region) | (apply WL.lenS; rfl; rfl; rfl) | (apply WL.fa; rfl; rfl; rfl) | (apply WL.ld; rfl; rfl; rfl; assumption; rfl)))
  rw [hz]
  (repeat (first | (apply EX.thenN) | (apply CW.seq) | (apply CW.region) | (apply WL.ldA; rfl; rfl; rfl; assumption; rfl) | (apply CW.condF; rfl) | (apply CW.skip)))
  refine WL.alloc rfl rfl (fun wa hb9 ea => ?_)
  refine WL.st rfl rfl rfl hb9 rfl rfl (ones_of rfl) (fun w6 hb9 hg6 => ?_)
  have e6 : Ext w5 w6 := ea.grown hg6 ea.size (fun g hg => by cases hg; exact Nat.le_refl _)
  have hb3 := hb3.ext e6
  have hb4 := hb4.ext e6
  have hb5 := hb5.ext e6
  have hE6 := hE5.trans e6
  have hl9 := hb9.lt
  have z6 := e6.size
  clear ea hg6
  (repeat (first | (apply WL.nil) | (apply EX.thenN) | (apply CW.seq)))
  have hSE : ∀ z, (fun z : World => Ext w6 z) z → Ext w6 z := fun _ h => h
  refine CW.drawH (fun x => Ext w6 x) [(0, true), (1, true), (3, true), (4, true), (2, false), (5, false), (6, true)] mixed (by kernel_rfl) (Ext.drew w6) ?_
  (repeat (first | (refine HL.fa rfl rfl rfl rfl ?_) | (refine HL.ld (by assumption) rfl rfl rfl rfl (by assumption) rfl ?_)))
  have hd : Ext w0 (drew w6) := hE6.trans (Ext.drew w6)
  refine HL.mut rfl (WL.call rfl rfl rfl (clone_int (drew w6) (hs.up hd) (by omega)) ?_)
  rintro cV w7 ⟨hoc, e7⟩
  have x7 : Ext w6 w7 := (Ext.drew w6).trans e7
  refine WL.nil (EX.mut x7 ?_)
  refine HL.mut rfl (WL.app (F := Non) rfl rfl rfl rfl hoc (hl.up (hE6.trans x7)).srcN e7.size (fun _ h => h.elim) (by unfold maxLen; omega) (by show _ * 8 ≤ _; omega) (fun v' w8 ho8 hg8 _ => ?_))
  have x8 : Ext w6 w8 := x7.grown hg8 x7.size (fun g hg => Nat.le_trans (Ext.drew w6).size (hoc.lt g hg).1)
  refine WL.nil (EX.mut x8 ?_)
  (repeat (first | (apply HL.pure; rfl; rfl; rfl; rfl) | (apply HL.nil)))
  have hE8 := hE6.trans x8
  have hb3 := hb3.ext x8
  have hb4 := hb4.ext x8
  have hb5 := hb5.ext x8
  have hb9 := hb9.ext x8
  have x58 := e6.trans x8
  have z8 := x8.size
  obtain ⟨ao, ac, rfl, hall⟩ := ho8.oldN.sl
  have hone : ∀ g, Value.ownBlock (.slice ao (s ++ l).length ac) = some g → g ≠ w5.heap.size := fun g hg => by
    have := (ho8.lt g hg).1
    have h6 : w6.heap.size ≤ (drew w6).heap.size := (Ext.drew w6).size
    omega
  have hlen : 0 < (s ++ l).length ∧ (s ++ l).length ≤ 8589934592 := by rw [List.length_append]; omega
  have ho8 := ho8.low (B' := w0.heap.size) (Nat.le_trans hE6.size (Ext.drew w6).size)
  have hle := ho8.le rfl
  clear e7 x7 hg8 hoc hd hSE hE6 e6 x8 hE5
  (repeat (first | (apply WL.pure; rfl; rfl; rfl) | (apply EX.thenN) | (apply CW.seq) | (apply CW.region)))
  refine WL.cutHi (α := Int) 1 rfl rfl rfl rfl rfl (by omega) ?_
  (repeat (apply WL.fa; rfl; rfl; rfl))
  refine WL.st rfl rfl rfl hb9 rfl rfl (ones_of rfl) (fun w9 hb9 hg9 => ?_)
  have hb3 := hb3.kept hg9 (fun e => by have := Option.some.inj e; omega)
  have hb4 := hb4.kept hg9 (fun e => by have := Option.some.inj e; omega)
  have hb5 := hb5.kept hg9 (fun e => by have := Option.some.inj e; omega)
  have hE9 : Ext w0 w9 := hE8.grown hg9 hE8.size (fun g hg => by cases hg; omega)
  have ho9 := ho8.keptN hg9 (fun g hg e => hone g hg (Option.some.inj e))
  have x59 : Ext w5 w9 := x58.grown hg9 x58.size (fun g hg => by cases hg; exact Nat.le_refl _)
  have hxs := hxs.up x59
  have z9 := hg9.size
  clear hg9 x58 hx ho8 hone hE8
  obtain ⟨x0, ar, hal⟩ : ∃ x0 ar, s ++ l = x0 :: ar := by
    match hh : s ++ l, hlen.1 with
    | x0 :: ar, _ => exact ⟨x0, ar, rfl⟩
  obtain ⟨ao', ac', ea, hall⟩ := ho9.oldN.sl
  obtain ⟨rfl, _, rfl⟩ := Value.slice.inj ea
  clear ea
  have h1' : Sl w9 (Old w9) ao ac [x0] := by
    have := hall.take (k := 1) hlen.1
    rwa [hal, List.take_succ_cons, List.take_zero] at this
  (repeat (first | (apply WL.nil) | (apply EX.thenN) | (apply CW.seq) | (apply CW.region) | (apply WL.ldA; rfl; rfl; rfl; assumption; rfl)))
  refine WL.call rfl rfl rfl (Good_ok w9 (st := [x0]) h1' (h2.up hE9) h3.len63 (h4.up hE9) (hs.up hE9) (hl.up hE9)) ?_
  rintro _ w10 ⟨rfl, e10⟩
  have hb3 := hb3.ext e10
  have hb4 := hb4.ext e10
  have hb5 := hb5.ext e10
  have hE10 := hE9.trans e10
  have hxs := hxs.up e10
  have hall := hall.up e10
  clear e10 h1' ho9 hE9 x59 hb9
  by_cases g2 : (goodF [x0] nx lb.length fr s l).2 = 0
  case neg =>
    have : ((goodF [x0] nx lb.length fr s l).2 != 0) = true := by simpa using g2
    (repeat (first | (apply WL.pure; rfl; rfl; rfl) | (apply WL.nil) | (apply EX.thenN) | (apply CW.seq) | (apply CW.region)))
    rw [this]
    (repeat (first | (apply WL.pure; rfl; rfl; rfl) | (apply WL.nil) | (apply EX.thenN) | (apply CW.seq) | (apply CW.region) | (apply WL.pass; rfl; rfl) | (apply CW.condT; rfl) | (apply CW.ret) | (apply EX.thenR)))
    exact EX.ret1 rfl rfl ⟨rfl, hE10⟩
  have hb : ((goodF [x0] nx lb.length fr s l).2 != 0) = false := by simpa using g2
  cases g1 : (goodF [x0] nx lb.length fr s l).1 with
  | false =>
    (repeat (first | (apply WL.pure; rfl; rfl; rfl) | (apply WL.nil) | (apply EX.thenN) | (apply CW.seq) | (apply CW.region)))
    rw [hb]
    (repeat (first | (apply WL.pure; rfl; rfl; rfl) | (apply WL.nil) | (apply EX.thenN) | (apply CW.seq) | (apply CW.region) | (apply CW.condT; rfl) | (apply CW.ret) | (apply EX.thenR)))
    exact EX.ret1 rfl rfl ⟨rfl, hE10⟩
  | true =>
  obtain ⟨r, hp⟩ := good_way g1
  clear g1
  (repeat (first | (apply WL.pure; rfl; rfl; rfl) | (apply WL.nil) | (apply EX.thenN) | (apply CW.seq) | (apply CW.region)))
  rw [hb]
  clear hb g2
  (repeat (first | (apply WL.pure; rfl; rfl; rfl) | (apply WL.nil) | (apply EX.thenN) | (apply CW.seq) | (apply CW.region) | (apply WL.lenS; rfl; rfl; rfl) | (apply CW.block) | (apply CW.condF; rfl) | (apply CW.skip)))
  have pany := path_any (lb := lb) (f := f) hp
  have pall := path_all (lb := lb) (f := f) hp
  have hbl : (boolsN nx.length (ctlF nx lb fr f)).length = nx.length := boolsN_len
  have hr0 : r 0 = x0.toNat := by
    have := hp.at' 0 hlen.1
    rw [hal] at this; exact this
  have hx0 : 0 ≤ x0 ∧ x0 < nx.length := hp.al x0 (by rw [hal]; simp)
  have halok := hp.al
  generalize s ++ l = al at *
  generalize boolsN nx.length (ctlF nx lb fr f) = bl at *
  refine CW.loop (S := Nat) (fun i => [(3, .pointer (some ⟨w0.heap.size, 0, none⟩)), (4, .pointer (some ⟨w1.heap.size, 0, none⟩)), (7, .slice xo bl.length xc), (10, .slice ao al.length ac), (13, .bool ((al.take i).any fun x => bl.getD x.toNat false)), (14, .bool ((al.take i).all fun x => bl.getD x.toNat false)), (63, .slice ao al.length ac), (64, .int .i64 al.length), (65, .int .i64 i)])
    (fun i w => i ≤ al.length ∧ Ext w10 w) (fun i => al.length - i) 0 (by repeat (first | exact trivial | refine ⟨rfl, ?_⟩)) ⟨Nat.zero_le _, Ext.refl _⟩ ?_
  rintro i w11 ⟨hi, e11⟩
  have hall' := hall.up e11
  have hxs' := hxs.up e11
  (repeat (first | (apply WL.pure; rfl; rfl; rfl) | (apply WL.nil) | (apply EX.thenN) | (apply CW.seq) | (apply CW.region)))
  refine CW.cond rfl (fun h => ?_) (fun h => ?_)
  · have hi' : i < al.length := by simp at h; omega
    have ho := halok _ (List.getElem_mem hi')
    obtain ⟨k, hk⟩ : ∃ k : Nat, al[i] = (k : Int) := ⟨(al[i]).toNat, by omega⟩
    have hkn : k < bl.length := by rw [hbl]; omega
    have t1 : ((al.take (i + 1)).any fun x => bl.getD x.toNat false) = (((al.take i).any fun x => bl.getD x.toNat false) || bl.getD k false) := by
      rw [List.take_add_one, List.getElem?_eq_getElem hi', hk, List.any_append]; simp
    have t2 : ((al.take (i + 1)).all fun x => bl.getD x.toNat false) = (((al.take i).all fun x => bl.getD x.toNat false) && bl.getD k false) := by
      rw [List.take_add_one, List.getElem?_eq_getElem hi', hk, List.all_append]; simp
    (repeat (first | (apply EX.thenN) | (apply CW.seq) | (apply CW.region) | (apply CW.block) | (apply CW.skip)))
    refine WL.elemI rfl rfl rfl rfl rfl hall' hi' hk (fun _ => rfl) (fun q => ?_)
    (repeat (first | (apply WL.pure; rfl; rfl; rfl) | (apply QL.pure; rfl; rfl; rfl) | (apply WL.nil) | (apply EX.thenN) | (apply CW.draw; exact mixed; kernel_rfl)))
    generalize hsm : ((al.take i).any fun x => bl.getD x.toNat false) = sm at *
    generalize hev : ((al.take i).all fun x => bl.getD x.toNat false) = ev at *
    generalize hav : bl.getD k false = av at *
    have hav' : bl[k] = av := by rw [← hav, wgetB hkn]
    cases sm <;> cases ev
    · (repeat (apply QL.pure; rfl; rfl; rfl))
      refine QL.elemB rfl rfl rfl rfl rfl (fun _ h => h) hxs' hkn hav' (fun _ => rfl) (fun q => ?_)
      (repeat (first | (apply QL.pure; rfl; rfl; rfl) | (apply QL.pass; rfl; rfl)))
      refine QL.nil fun w12 e12 => ?_
      (repeat (first | (apply WL.add; rfl; rfl; rfl; rfl; omega; omega) | (apply WL.pure; rfl; rfl; rfl) | (apply WL.nil) | (apply EX.thenN) | (apply CW.region) | (apply EX.inN)))
      refine EX.back (i + 1) ⟨rfl, rfl, rfl, rfl, ?_, ?_, rfl, rfl, rfl, trivial⟩ ⟨hi', e11.trans e12⟩ (by omega)
      · rw [t1]; rfl
      · rw [t2]; rfl
    · (repeat (apply QL.pure; rfl; rfl; rfl))
      refine QL.elemB rfl rfl rfl rfl rfl (fun _ h => h) hxs' hkn hav' (fun _ => rfl) (fun q => ?_)
      (repeat (apply QL.pure; rfl; rfl; rfl))
      refine QL.elemB rfl rfl rfl rfl rfl (fun _ h => h) hxs' hkn hav' (fun _ => rfl) (fun q => ?_)
      (repeat (apply QL.pure; rfl; rfl; rfl))
      refine QL.nil fun w12 e12 => ?_
      (repeat (first | (apply WL.add; rfl; rfl; rfl; rfl; omega; omega) | (apply WL.pure; rfl; rfl; rfl) | (apply WL.nil) | (apply EX.thenN) | (apply CW.region) | (apply EX.inN)))
      refine EX.back (i + 1) ⟨rfl, rfl, rfl, rfl, ?_, ?_, rfl, rfl, rfl, trivial⟩ ⟨hi', e11.trans e12⟩ (by omega)
      · rw [t1]; rfl
      · rw [t2]; rfl
    · (repeat (first | (apply QL.pure; rfl; rfl; rfl) | (apply QL.pass; rfl; rfl)))
      refine QL.nil fun w12 e12 => ?_
      (repeat (first | (apply WL.add; rfl; rfl; rfl; rfl; omega; omega) | (apply WL.pure; rfl; rfl; rfl) | (apply WL.nil) | (apply EX.thenN) | (apply CW.region) | (apply EX.inN)))
      refine EX.back (i + 1) ⟨rfl, rfl, rfl, rfl, ?_, ?_, rfl, rfl, rfl, trivial⟩ ⟨hi', e11.trans e12⟩ (by omega)
      · rw [t1]; rfl
      · rw [t2]; rfl
    · (repeat (first | (apply QL.pure; rfl; rfl; rfl) | (apply QL.pass; rfl; rfl)))
      refine QL.elemB rfl rfl rfl rfl rfl (fun _ h => h) hxs' hkn hav' (fun _ => rfl) (fun q => ?_)
      (repeat (apply QL.pure; rfl; rfl; rfl))
      refine QL.nil fun w12 e12 => ?_
      (repeat (first | (apply WL.add; rfl; rfl; rfl; rfl; omega; omega) | (apply WL.pure; rfl; rfl; rfl) | (apply WL.nil) | (apply EX.thenN) | (apply CW.region) | (apply EX.inN)))
      refine EX.back (i + 1) ⟨rfl, rfl, rfl, rfl, ?_, ?_, rfl, rfl, rfl, trivial⟩ ⟨hi', e11.trans e12⟩ (by omega)
      · rw [t1]; rfl
      · rw [t2]; rfl
  have hie : i = al.length := by simp at h; omega
  subst hie
  rw [List.take_length]
  generalize (al.any fun x => bl.getD x.toNat false) = sm at *
  generalize (al.all fun x => bl.getD x.toNat false) = ev at *
  have hb3 := hb3.ext e11
  have hb4 := hb4.ext e11
  have hE11 := hE10.trans e11
  have hall := hall.up e11
  clear hxs hxs' hall' h hb5 e11 hE10 hbl
  (repeat (first | (apply EX.thenN) | (apply CW.seq) | (apply CW.exit) | (apply EX.thenX) | (apply EX.inX)))
  have hSE : ∀ z, (fun z : World => Ext w11 z) z → Ext w11 z := fun _ h => h
  refine CW.drawH (fun x => Ext w11 x) [(0, true), (1, true), (2, false), (3, false), (4, true), (5, true), (6, true), (7, true), (8, true)] mixed (by kernel_rfl) (Ext.drew w11) ?_
  (repeat (refine HL.ldA (by assumption) rfl rfl rfl rfl (by assumption) rfl ?_))
  have hd : Ext w0 (drew w11) := hE11.trans (Ext.drew w11)
  refine HL.mut rfl (WL.call rfl rfl rfl (mk_cone (drew w11) 8 (CL.ext hf hd)) ?_)
  rintro cv w12 ⟨hc, e12⟩
  have x12 : Ext w11 w12 := (Ext.drew w11).trans e12
  refine WL.nil (EX.mut x12 ?_)
  have hd := hE11.trans x12
  obtain ⟨to, tc, rfl, hck⟩ := Rd.ltl hc
  skip
  refine HL.mut rfl (WL.call rfl rfl rfl (labels_ok w12 (h1.up hd) (h2.up hd) (h3.up hd) (h4.up hd) hck hT) ?_)
  rintro _ w13 ⟨yp, rfl, hyp, e13⟩
  have x13 : Ext w11 w13 := x12.trans e13
  refine WL.nil (EX.mut x13 ?_)
  (repeat (first | (apply HL.pure; rfl; rfl; rfl; rfl) | (apply HL.nil)))
  have hE13 := hE11.trans x13
  have hb3 := hb3.ext x13
  have hb4 := hb4.ext x13
  have hall := hall.up x13
  clear x12 x13 e12 e13 hd hSE hc hck
  (repeat (first | (apply EX.thenN) | (apply CW.seq)))
  have hSE : ∀ z, (fun z : World => Ext w13 z) z → Ext w13 z := fun _ h => h
  refine CW.drawH (fun x => Ext w13 x) [(0, true), (1, true), (2, false), (3, false), (4, true), (5, true), (6, true), (7, true), (8, true)] mixed (by kernel_rfl) (Ext.drew w13) ?_
  (repeat (refine HL.ldA (by assumption) rfl rfl rfl rfl (by assumption) rfl ?_))
  have hd : Ext w0 (drew w13) := hE13.trans (Ext.drew w13)
  refine HL.mut rfl (WL.call rfl rfl rfl (mk_cone (drew w13) 9 (CL.ext hf hd)) ?_)
  rintro cv w14 ⟨hc, e14⟩
  have x14 : Ext w13 w14 := (Ext.drew w13).trans e14
  refine WL.nil (EX.mut x14 ?_)
  have hd := hE13.trans x14
  obtain ⟨to, tc, rfl, hck⟩ := Rd.ltl hc
  skip
  refine HL.mut rfl (WL.call rfl rfl rfl (labels_ok w14 (h1.up hd) (h2.up hd) (h3.up hd) (h4.up hd) hck hT) ?_)
  rintro _ w15 ⟨yq, rfl, hyq, e15⟩
  have x15 : Ext w13 w15 := x14.trans e15
  refine WL.nil (EX.mut x15 ?_)
  (repeat (first | (apply HL.pure; rfl; rfl; rfl; rfl) | (apply HL.nil)))
  have hE15 := hE13.trans x15
  have hb3 := hb3.ext x15
  have hb4 := hb4.ext x15
  have hall := hall.up x15
  have hyp := hyp.extN x15
  clear x14 x15 e14 e15 hd hSE hc hck
  (repeat (first | (apply EX.thenN) | (apply CW.seq)))
  have hSE : ∀ z, (fun z : World => Ext w15 z) z → Ext w15 z := fun _ h => h
  refine CW.drawH (fun x => Ext w15 x) [(0, true), (1, true), (2, false), (3, false), (4, true), (5, true), (6, true), (7, true), (8, true)] mixed (by kernel_rfl) (Ext.drew w15) ?_
  (repeat (refine HL.ldA (by assumption) rfl rfl rfl rfl (by assumption) rfl ?_))
  have hd : Ext w0 (drew w15) := hE15.trans (Ext.drew w15)
  refine HL.mut rfl (WL.call rfl rfl rfl (mk_cone (drew w15) 12 (CL.ext hf hd)) ?_)
  rintro cv w16 ⟨hc, e16⟩
  have x16 : Ext w15 w16 := (Ext.drew w15).trans e16
  refine WL.nil (EX.mut x16 ?_)
  have hd := hE15.trans x16
  obtain ⟨to, tc, rfl, hck⟩ := Rd.ltl hc
  skip
  refine HL.mut rfl (WL.call rfl rfl rfl (labels_ok w16 (h1.up hd) (h2.up hd) (h3.up hd) (h4.up hd) hck hT) ?_)
  rintro _ w17 ⟨yu, rfl, hyu, e17⟩
  have x17 : Ext w15 w17 := x16.trans e17
  refine WL.nil (EX.mut x17 ?_)
  (repeat (first | (apply HL.pure; rfl; rfl; rfl; rfl) | (apply HL.nil)))
  have hE17 := hE15.trans x17
  have hb3 := hb3.ext x17
  have hb4 := hb4.ext x17
  have hall := hall.up x17
  have hyp := hyp.extN x17
  have hyq := hyq.extN x17
  clear x16 x17 e16 e17 hd hSE hc hck
  (repeat (first | (apply EX.thenN) | (apply CW.seq)))
  have hSE : ∀ z, (fun z : World => Ext w17 z) z → Ext w17 z := fun _ h => h
  refine CW.drawH (fun x => Ext w17 x) [(0, true), (1, true), (2, false), (3, false), (4, true), (5, true), (6, true), (7, true), (8, true)] mixed (by kernel_rfl) (Ext.drew w17) ?_
  (repeat (refine HL.ldA (by assumption) rfl rfl rfl rfl (by assumption) rfl ?_))
  have hd : Ext w0 (drew w17) := hE17.trans (Ext.drew w17)
  refine HL.mut rfl (WL.call rfl rfl rfl (mk_cone (drew w17) 13 (CL.ext hf hd)) ?_)
  rintro cv w18 ⟨hc, e18⟩
  have x18 : Ext w17 w18 := (Ext.drew w17).trans e18
  refine WL.nil (EX.mut x18 ?_)
  have hd := hE17.trans x18
  obtain ⟨to, tc, rfl, hck⟩ := Rd.ltl hc
  skip
  refine HL.mut rfl (WL.call rfl rfl rfl (labels_ok w18 (h1.up hd) (h2.up hd) (h3.up hd) (h4.up hd) hck hT) ?_)
  rintro _ w19 ⟨yv, rfl, hyv, e19⟩
  have x19 : Ext w17 w19 := x18.trans e19
  refine WL.nil (EX.mut x19 ?_)
  (repeat (first | (apply HL.pure; rfl; rfl; rfl; rfl) | (apply HL.nil)))
  have hE19 := hE17.trans x19
  have hb3 := hb3.ext x19
  have hb4 := hb4.ext x19
  have hall := hall.up x19
  have hyp := hyp.extN x19
  have hyq := hyq.extN x19
  have hyu := hyu.extN x19
  clear x18 x19 e18 e19 hd hSE hc hck
  by_cases mp : labE st nx lb.length fr (.mk 8 0 [f]) = 0
  case neg =>
    rw [decide_eq_false mp]
    (repeat (first | (apply WL.pure; rfl; rfl; rfl) | (apply WL.nil) | (apply EX.thenN) | (apply CW.seq) | (apply CW.region) | (apply WL.pass; rfl; rfl) | (apply CW.condT; rfl) | (apply CW.ret) | (apply EX.thenR)))
    exact EX.ret1 rfl rfl ⟨rfl, hE19⟩
  rw [decide_eq_true mp]
  rw [if_pos mp] at hyp
  by_cases mq : labE st nx lb.length fr (.mk 9 0 [f]) = 0
  case neg =>
    rw [decide_eq_false mq]
    (repeat (first | (apply WL.pure; rfl; rfl; rfl) | (apply WL.nil) | (apply EX.thenN) | (apply CW.seq) | (apply CW.region) | (apply WL.pass; rfl; rfl) | (apply CW.condT; rfl) | (apply CW.ret) | (apply EX.thenR)))
    exact EX.ret1 rfl rfl ⟨rfl, hE19⟩
  rw [decide_eq_true mq]
  rw [if_pos mq] at hyq
  by_cases mu : labE st nx lb.length fr (.mk 12 0 [f]) = 0
  case neg =>
    rw [decide_eq_false mu]
    (repeat (first | (apply WL.pure; rfl; rfl; rfl) | (apply WL.nil) | (apply EX.thenN) | (apply CW.seq) | (apply CW.region) | (apply WL.pass; rfl; rfl) | (apply CW.condT; rfl) | (apply CW.ret) | (apply EX.thenR)))
    exact EX.ret1 rfl rfl ⟨rfl, hE19⟩
  rw [decide_eq_true mu]
  rw [if_pos mu] at hyu
  by_cases mv : labE st nx lb.length fr (.mk 13 0 [f]) = 0
  case neg =>
    rw [decide_eq_false mv]
    (repeat (first | (apply WL.pure; rfl; rfl; rfl) | (apply WL.nil) | (apply EX.thenN) | (apply CW.seq) | (apply CW.region) | (apply CW.condT; rfl) | (apply CW.ret) | (apply EX.thenR)))
    exact EX.ret1 rfl rfl ⟨rfl, hE19⟩
  rw [decide_eq_true mv]
  rw [if_pos mv] at hyv
  clear mp mq mu mv
  obtain ⟨n0, rfl⟩ : ∃ n0 : Nat, x0 = (n0 : Int) := ⟨x0.toNat, by omega⟩
  have hn0 : n0 < nx.length := by omega
  rw [Int.toNat_natCast] at hr0
  have al0 : al[0]'hlen.1 = (n0 : Int) := by
    have : al = (n0 : Int) :: ar := hal
    subst this; rfl
  (repeat (first | (apply WL.pure; rfl; rfl; rfl) | (apply WL.nil) | (apply EX.thenN) | (apply CW.seq) | (apply CW.region) | (apply CW.condF; rfl) | (apply CW.skip)))
  refine WL.elemI (i := 0) rfl rfl rfl rfl rfl hall hlen.1 al0 (fun _ => rfl) (fun q => ?_)
  (repeat (first | (apply WL.pure; rfl; rfl; rfl) | (apply WL.nil) | (apply EX.thenN) | (apply CW.seq) | (apply CW.region)))
  have lp : (boolsN nx.length (ctlF nx lb fr (.mk 8 0 [f]))).length = nx.length := boolsN_len
  have bp := boolsN_iff (P := ctlF nx lb fr (.mk 8 0 [f])) hn0
  generalize boolsN nx.length (ctlF nx lb fr (.mk 8 0 [f])) = Lp at *
  have ip : n0 < Lp.length := by omega
  have gp : Lp[n0] = Lp.getD n0 false := (wgetB ip).symm
  have lq : (boolsN nx.length (ctlF nx lb fr (.mk 9 0 [f]))).length = nx.length := boolsN_len
  have bq := boolsN_iff (P := ctlF nx lb fr (.mk 9 0 [f])) hn0
  generalize boolsN nx.length (ctlF nx lb fr (.mk 9 0 [f])) = Lq at *
  have iq : n0 < Lq.length := by omega
  have gq : Lq[n0] = Lq.getD n0 false := (wgetB iq).symm
  have lu : (boolsN nx.length (ctlF nx lb fr (.mk 12 0 [f]))).length = nx.length := boolsN_len
  have bu := boolsN_iff (P := ctlF nx lb fr (.mk 12 0 [f])) hn0
  generalize boolsN nx.length (ctlF nx lb fr (.mk 12 0 [f])) = Lu at *
  have iu : n0 < Lu.length := by omega
  have gu : Lu[n0] = Lu.getD n0 false := (wgetB iu).symm
  have lv : (boolsN nx.length (ctlF nx lb fr (.mk 13 0 [f]))).length = nx.length := boolsN_len
  have bv := boolsN_iff (P := ctlF nx lb fr (.mk 13 0 [f])) hn0
  generalize boolsN nx.length (ctlF nx lb fr (.mk 13 0 [f])) = Lv at *
  have iv : n0 < Lv.length := by omega
  have gv : Lv[n0] = Lv.getD n0 false := (wgetB iv).symm
  have fp : sm = true → Lp.getD n0 false = true := fun h => by
    obtain ⟨i, hi⟩ := pany.1 h
    rw [bp, ← hr0]
    exact path_ef hp.way hi
  have fq : ev = true → Lq.getD n0 false = true := fun h => by
    rw [bq, ← hr0]
    exact path_eg hp.way (pall.1 h)
  have fu : sm = false → Lu.getD n0 false = false := fun h => by
    cases hx : Lu.getD n0 false with
    | false => rfl
    | true =>
      rw [bu, ← hr0] at hx
      exact absurd hx (path_af hp.way (fun i hi => by rw [pany.2 ⟨i, hi⟩] at h; cases h))
  have fv : ev = false → Lv.getD n0 false = false := fun h => by
    cases hx : Lv.getD n0 false with
    | false => rfl
    | true =>
      rw [bv, ← hr0] at hx
      have : ¬ ∀ i, ctlF nx lb fr f (r i) := fun ha => by rw [pall.2 ha] at h; cases h
      obtain ⟨i, hi⟩ := Classical.not_forall.1 this
      exact absurd hx (path_ag hp.way hi)
  clear bp bq bu bv
  cases sm <;> cases ev
  · rw [fu rfl] at gu
    rw [fv rfl] at gv
    (repeat (first | (apply WL.pure; rfl; rfl; rfl) | (apply WL.pass; rfl; rfl)))
    refine WL.elemON (i := n0) rfl rfl rfl rfl rfl hyu iu (fun _ => rfl) (fun z q hz => ?_)
    rw [hz.bool, gu]
    (repeat (apply WL.pure; rfl; rfl; rfl))
    refine WL.elemON (i := n0) rfl rfl rfl rfl rfl hyv iv (fun _ => rfl) (fun z q hz => ?_)
    rw [hz.bool, gv]
    (repeat (first | (apply WL.pure; rfl; rfl; rfl) | (apply WL.nil) | (apply EX.thenN) | (apply CW.ret)))
    exact EX.ret1 rfl rfl ⟨rfl, hE19⟩
  · rw [fq rfl] at gq
    rw [fu rfl] at gu
    (repeat (first | (apply WL.pure; rfl; rfl; rfl) | (apply WL.pass; rfl; rfl)))
    refine WL.elemON (i := n0) rfl rfl rfl rfl rfl hyq iq (fun _ => rfl) (fun z q hz => ?_)
    rw [hz.bool, gq]
    (repeat (apply WL.pure; rfl; rfl; rfl))
    refine WL.elemON (i := n0) rfl rfl rfl rfl rfl hyu iu (fun _ => rfl) (fun z q hz => ?_)
    rw [hz.bool, gu]
    (repeat (first | (apply WL.pure; rfl; rfl; rfl) | (apply WL.nil) | (apply EX.thenN) | (apply WL.pass; rfl; rfl) | (apply CW.ret)))
    exact EX.ret1 rfl rfl ⟨rfl, hE19⟩
  · rw [fp rfl] at gp
    rw [fv rfl] at gv
    (repeat (apply WL.pure; rfl; rfl; rfl))
    refine WL.elemON (i := n0) rfl rfl rfl rfl rfl hyp ip (fun _ => rfl) (fun z q hz => ?_)
    rw [hz.bool, gp]
    (repeat (first | (apply WL.pure; rfl; rfl; rfl) | (apply WL.pass; rfl; rfl)))
    refine WL.elemON (i := n0) rfl rfl rfl rfl rfl hyv iv (fun _ => rfl) (fun z q hz => ?_)
    rw [hz.bool, gv]
    (repeat (first | (apply WL.pure; rfl; rfl; rfl) | (apply WL.nil) | (apply EX.thenN) | (apply CW.ret)))
    exact EX.ret1 rfl rfl ⟨rfl, hE19⟩
  · rw [fp rfl] at gp
    rw [fq rfl] at gq
    (repeat (apply WL.pure; rfl; rfl; rfl))
    refine WL.elemON (i := n0) rfl rfl rfl rfl rfl hyp ip (fun _ => rfl) (fun z q hz => ?_)
    rw [hz.bool, gp]
    (repeat (apply WL.pure; rfl; rfl; rfl))
    refine WL.elemON (i := n0) rfl rfl rfl rfl rfl hyq iq (fun _ => rfl) (fun z q hz => ?_)
    rw [hz.bool, gq]
    (repeat (first | (apply WL.pure; rfl; rfl; rfl) | (apply WL.nil) | (apply EX.thenN) | (apply WL.pass; rfl; rfl) | (apply CW.ret)))
    exact EX.ret1 rfl rfl ⟨rfl, hE19⟩
end Go.Proofs.Ytbphcblopoegcaa
/-
  From the form's readings of the arguments to our own, and back: what a law's proof needs at its two ends.
-/
set_option linter.unusedVariables false
set_option linter.unusedSimpArgs false
namespace Go.Proofs.Ytbphcblopoegcaa
open Go.RowKit Go.ChangeShapes Go.WideShapes Go.ChangeAt

theorem bulk_one {H : Type} (d : DataW H) : 1 ≤ Rows.uptoBulk d := by
  cases d with
  | lit l => cases l <;> simp [Rows.uptoBulk]
  | nil => simp [Rows.uptoBulk]
  | ptr d => simp [Rows.uptoBulk]
  | slice elems spare => simp [Rows.uptoBulk]
  | agg parts => simp [Rows.uptoBulk]
  | iface t d => simp [Rows.uptoBulk]
  | map entries => simp [Rows.uptoBulk]
  | held h => simp [Rows.uptoBulk]
theorem bulk_app {H : Type} (l r : List (DataW H)) : Rows.uptoBulkAll (l ++ r) = Rows.uptoBulkAll l + Rows.uptoBulkAll r := by
  induction l with
  | nil => simp [Rows.uptoBulkAll]
  | cons x l ih => simp only [List.cons_append, Rows.uptoBulkAll, ih]; omega

/-- the bound, as the form hands it over -/
theorem bound {H : Type} {l : List (DataW H)} (hk : Rows.uptoSmall H l = true) : Rows.uptoBulkAll l ≤ 1048576 := by
  simpa [Rows.uptoSmall] using hk
/-- how many values a value of ours holds -/
class Bk (α : Type) where
  bk : α → Nat
abbrev bk {α : Type} [Bk α] : α → Nat := Bk.bk
instance iOpen1 : Bk Int := ⟨fun _ => 1⟩
instance iOpen2 : Bk Bool := ⟨fun _ => 1⟩
instance iOpen3 : Bk Nat := ⟨fun _ => 1⟩
instance iOpen4 : Bk ByteArray := ⟨fun s => s.size + 1⟩
def bkL {α : Type} [Bk α] : List α → Nat
  | [] => 0
  | x :: r => bk x + bkL r
instance iOpen8 {α : Type} [Bk α] : Bk (List α) := ⟨fun l => bkL l + 1⟩

/-- what the form reads at a type, we read, too -/
class Opn (P : Program) (t : TypeId) (α : Type) [Rep α] [Bk α] : Prop where
  op : ∀ {H : Type} {enc : TypeId × Value → H} {w : World} {fuel : Nat} {cs : List Value} {d : DataW H} {ps : List MemPlace}, DataW.trod enc P w 0 (fun _ => true) true fuel t cs = some (d, ps) → ∃ x : α, rd w (Old w) cs x ∧ bk x ≤ Rows.uptoBulk d

theorem Opn.int {P : Program} {t : TypeId} (h : P.underlying t = some (.int .i64)) : Opn P t Int where
  op := by
    intro H enc w fuel cs d ps hd
    cases fuel with
    | zero => simp [DataW.trod] at hd
    | succ fuel =>
      unfold DataW.trod at hd
      rw [h] at hd
      split at hd <;> try (simp at *; done)
      rename_i k k' n e1
      simp at e1
      split at hd
      · rename_i hk
        simp at hd
        obtain ⟨rfl, rfl⟩ := hd
        exact ⟨n, by rw [hk.1, ← e1]; rfl, bulk_one _⟩
      · cases hd
theorem Opn.bool {P : Program} {t : TypeId} (h : P.underlying t = some .bool) : Opn P t Bool where
  op := by
    intro H enc w fuel cs d ps hd
    cases fuel with
    | zero => simp [DataW.trod] at hd
    | succ fuel =>
      unfold DataW.trod at hd
      rw [h] at hd
      split at hd <;> try (simp at *; done)
      rename_i b e1
      simp at hd
      obtain ⟨rfl, rfl⟩ := hd
      exact ⟨b, rfl, bulk_one _⟩
theorem Opn.u64 {P : Program} {t : TypeId} (h : P.underlying t = some (.int .u64)) : Opn P t Nat where
  op := by
    intro H enc w fuel cs d ps hd
    cases fuel with
    | zero => simp [DataW.trod] at hd
    | succ fuel =>
      unfold DataW.trod at hd
      rw [h] at hd
      split at hd <;> try (simp at *; done)
      rename_i k k' n e1
      simp at e1
      split at hd
      · rename_i hk
        simp at hd
        obtain ⟨rfl, rfl⟩ := hd
        have hwf := hk.2
        rw [← e1] at hwf
        have hb : 0 ≤ n ∧ n ≤ 18446744073709551615 := by simpa [Lit.wf, IntKind.min, IntKind.max, IntKind.signed, IntKind.bits] using hwf
        refine ⟨n.toNat, ⟨?_, by omega⟩, bulk_one _⟩
        rw [hk.1, ← e1, Int.toNat_of_nonneg hb.1]
      · cases hd
theorem Opn.string {P : Program} {t : TypeId} (h : P.underlying t = some .string) : Opn P t ByteArray where
  op := by
    intro H enc w fuel cs d ps hd
    cases fuel with
    | zero => simp [DataW.trod] at hd
    | succ fuel =>
      unfold DataW.trod at hd
      rw [h] at hd
      split at hd <;> try (simp at *; done)
      rename_i s e1
      split at hd
      · rename_i hk
        simp at hd
        obtain ⟨rfl, rfl⟩ := hd
        refine ⟨s, ⟨rfl, hk⟩, ?_⟩
        show s.size + 1 ≤ _
        simp only [Rows.uptoBulk]
        have e : s.data.toList.length = s.size := by rw [Array.length_toList]; rfl
        omega
      · cases hd

theorem mapM_range {β : Type} (f : Nat → Option β) : ∀ (n : Nat) (es : List β), (List.range n).mapM f = some es → es.length = n ∧ ∀ i (h : i < es.length), f i = some es[i]
  | 0, es, h => by
    simp at h; subst h
    exact ⟨rfl, fun i hi => absurd hi (by simp)⟩
  | n + 1, es, h => by
    rw [List.range_succ, List.mapM_append] at h
    simp only [List.mapM_cons, List.mapM_nil, Option.bind_eq_bind, Option.pure_def] at h
    cases h1 : (List.range n).mapM f with
    | none => rw [h1] at h; cases h
    | some l =>
      rw [h1] at h
      cases h2 : f n with
      | none => rw [h2] at h; cases h
      | some y =>
        rw [h2] at h
        simp at h
        subst h
        obtain ⟨hl, hi⟩ := mapM_range f n l h1
        refine ⟨by simp [hl], fun i hlt => ?_⟩
        by_cases hi' : i < l.length
        · rw [List.getElem_append_left hi']; exact hi i hi'
        · have : i = n := by simp at hlt; omega
          subst this
          rw [List.getElem_append_right (by omega)]
          simpa [hl] using h2
theorem mapM_cells {w : World} {a : Addr} {n : Nat} {cs : List Value} (h : w.cells? 0 a n = some cs) : cs.length = n ∧ ∀ j (hj : j < cs.length), w.cell? (a.add j) = some cs[j] := by
  unfold World.cells? at h
  rw [if_pos (Nat.zero_le _)] at h
  exact mapM_range _ n cs h

theorem slice_op {P : Program} {t e : TypeId} {α : Type} [Rep α] [Bk α] [hs : IsS P t e] [ht : IsT P e α] {H : Type} {enc : TypeId × Value → H} {w : World} {fuel : Nat}
    (ho : ∀ {cs : List Value} {d : DataW H} {ps : List MemPlace}, DataW.trod enc P w 0 (fun _ => true) true fuel e cs = some (d, ps) → ∃ x : α, rd w (Old w) cs x ∧ bk x ≤ Rows.uptoBulk d)
    {cs : List Value} {d : DataW H} {ps : List MemPlace} (hd : DataW.trod enc P w 0 (fun _ => true) true (fuel + 1) t cs = some (d, ps)) : ∃ x : List α, rd w (Old w) cs x ∧ bk x ≤ Rows.uptoBulk d := by
  unfold DataW.trod at hd
  rw [hs.ok] at hd
  obtain ⟨i0, hi1, hi2⟩ := IsT.info (P := P) (t := e) (α := α)
  have hsz : P.cellsOf e = sz α := by simp [Program.cellsOf, hi1, hi2]
  have hp : 0 < sz α := Rep.pos
  split at hd <;> try (simp at *; done)
  · simp at hd
    obtain ⟨rfl, rfl⟩ := hd
    exact ⟨[], ⟨none, 0, rfl, by simp, by simp [maxLen], fun _ => rfl, fun i hi => absurd hi (by simp)⟩, bulk_one _⟩
  · rename_i e' a len cap e1
    cases e1
    simp only at hd
    split at hd
    · rename_i hc
      obtain ⟨_, hle, hmx⟩ := hc
      rw [hsz] at hd
      cases hm : (List.range len).mapM (fun i => (w.cells? 0 (a.add (i * sz α)) (sz α)).bind (DataW.trod enc P w 0 (fun _ => true) true fuel e)) with
      | none => rw [hm] at hd; cases hd
      | some elems =>
        rw [hm] at hd
        simp only [Option.bind_some, if_true] at hd
        obtain ⟨rest, _, hd2⟩ := Option.map_eq_some_iff.1 hd
        simp only [Prod.mk.injEq] at hd2
        obtain ⟨rfl, _⟩ := hd2
        obtain ⟨hlen, hget⟩ := mapM_range _ len elems hm
        -- one element at a time
        have one : ∀ i (h : i < elems.length), ∃ x : α, (∃ b off, some a = some ⟨b, off, none⟩ ∧ Old w b ∧ ∃ es, Cells w b (off + i * sz α) es ∧ rd w (Old w) es x) ∧ bk x ≤ Rows.uptoBulk (elems[i]).1 := by
          intro i hi
          have h1 := hget i hi
          cases hcs : w.cells? 0 (a.add (i * sz α)) (sz α) with
          | none => rw [hcs] at h1; cases h1
          | some es =>
            rw [hcs] at h1
            simp only [Option.bind_some] at h1
            obtain ⟨x, hr, hb⟩ := ho (d := (elems[i]).1) (ps := (elems[i]).2) h1
            obtain ⟨hl, hc⟩ := mapM_cells hcs
            have h0 := hc 0 (by omega)
            have hspot : a.spot = none := by
              cases hsp : a.spot with
              | none => rfl
              | some k =>
                -- the first element's first cell lies at the address itself
                have h2 := hget 0 (by omega)
                cases hcs0 : w.cells? 0 (a.add (0 * sz α)) (sz α) with
                | none => rw [hcs0] at h2; cases h2
                | some es0 =>
                  obtain ⟨hl0, hc0⟩ := mapM_cells hcs0
                  have h3 := hc0 0 (by omega)
                  have e3 : (a.add (0 * sz α)).add 0 = a := by simp [Addr.add]
                  rw [e3] at h3
                  unfold World.cell? at h3
                  split at h3
                  · simp [hsp] at h3
                  · cases h3
            obtain ⟨b, off, sp⟩ := a
            simp only at hspot
            subst hspot
            rw [WideShapes.add_plain] at hc h0
            have hblt : b < w.heap.size := World.block_lt_of_cell? w _ h0
            refine ⟨x, ⟨b, off, rfl, hblt, es, ?_, hr⟩, hb⟩
            intro j u hu
            obtain ⟨hj, rfl⟩ := List.getElem?_eq_some_iff.1 hu
            have := hc j hj
            rwa [WideShapes.add_plain] at this
        have all : ∀ k, k ≤ elems.length → ∃ xs : List α, xs.length = k ∧ (∀ i (h : i < xs.length), ∃ b off, some a = some ⟨b, off, none⟩ ∧ Old w b ∧ ∃ es, Cells w b (off + i * sz α) es ∧ rd w (Old w) es xs[i]) ∧ bkL xs ≤ Rows.uptoBulkAll ((elems.map (·.1)).take k) := by
          intro k
          induction k with
          | zero => intro _; exact ⟨[], rfl, fun i hi => absurd hi (by simp), by simp [bkL, Rows.uptoBulkAll]⟩
          | succ k ih =>
            intro hk
            obtain ⟨xs, h1, h2, h3⟩ := ih (by omega)
            obtain ⟨x, h4, h5⟩ := one k (by omega)
            refine ⟨xs ++ [x], by simp [h1], ?_, ?_⟩
            · intro i hi
              by_cases hlt : i < xs.length
              · rw [List.getElem_append_left hlt]; exact h2 i hlt
              · have : i = k := by simp at hi; omega
                subst this
                rw [List.getElem_append_right (by omega)]
                simpa [h1] using h4
            · have hb : ∀ (l : List α), bkL (l ++ [x]) = bkL l + bk x := by
                intro l; induction l with
                | nil => simp [bkL]
                | cons y l ih => simp only [List.cons_append, bkL, ih]; omega
              rw [hb, List.take_succ_eq_append_getElem (by simp; omega), bulk_app]
              simp only [List.getElem_map, Rows.uptoBulkAll]
              omega
        obtain ⟨xs, h1, h2, h3⟩ := all elems.length (Nat.le_refl _)
        have hx : xs.length = len := by omega
        refine ⟨xs, ⟨some a, cap, by rw [hx], ⟨by omega, hmx, (fun h => by cases h), h2⟩⟩, ?_⟩
        show bkL xs + 1 ≤ _
        rw [List.take_of_length_le (by simp)] at h3
        simp only [Rows.uptoBulk]
        omega
    · cases hd

theorem Opn.slice {P : Program} {t e : TypeId} {α : Type} [Rep α] [Bk α] [hs : IsS P t e] [ht : IsT P e α] [ho : Opn P e α] : Opn P t (List α) where
  op := by
    intro H enc w fuel cs d ps hd
    cases fuel with
    | zero => simp [DataW.trod] at hd
    | succ fuel => exact slice_op (e := e) (fun h => ho.op h) hd

theorem okWide_form {P : Program} {w : World} {r : Reach} {base : Nat} {t : TypeId} {v : Value} {d : TypeDesc} (hu : P.underlying t = some d) (h : Value.okWide P w r base t v) :
    (aggD d = false → v.oneCell' = true) ∧ (aggD d = true → ∃ cs, v = .agg cs) := by
  unfold Value.okWide at h
  rw [hu] at h
  constructor
  · intro hd
    cases v <;> first
      | rfl
      | (exfalso; cases d <;> simp [aggD] at hd <;> simp [Cell.okWide, Cell.ok, hu] at h)
  · intro hd
    cases d <;> simp [aggD] at hd <;> (obtain ⟨cs, rfl, _⟩ := h; exact ⟨cs, rfl⟩)
/-- an argument, opened -/
theorem Opn.arg {P : Program} {t : TypeId} {α : Type} [Rep α] [Bk α] [ht : IsT P t α] [ho : Opn P t α] {H : Type} {enc : TypeId × Value → H} {w : World} {v : Value} {d : DataW H} {ps : List MemPlace} {r : Reach} {base : Nat}
    (hv : Value.okWide P w r base t v) (h : DataW.Trod enc P w 0 (fun _ => true) true t v d ps) : ∃ x : α, Rd w (Old w) v x ∧ bk x ≤ Rows.uptoBulk d := by
  obtain ⟨i, dd, _, _, h3, h4⟩ := ht.ok
  obtain ⟨f1, f2⟩ := okWide_form h3 hv
  obtain ⟨fuel, hf⟩ := h
  obtain ⟨x, hr, hb⟩ := ho.op hf
  refine ⟨x, ⟨v.cells.toList, ?_, hr⟩, hb⟩
  unfold vOf
  split
  · rename_i he
    obtain ⟨cs, rfl⟩ := f2 (h4.trans he)
    simp [Value.cells]
  · rename_i he
    have := f1 (h4.trans he)
    cases v <;> first | rfl | (simp [Value.oneCell'] at this)

theorem trodAll_below {H : Type} {enc : TypeId × Value → H} {P : Program} (hl : laidOutB P = true) {W W' : World} (hb : Ext W W') : ∀ {ts : List TypeId} {vs : List Value} {ds : List (DataW H)} {ps : List MemPlace},
    (∀ t ∈ ts, P.readableRec t = true ∧ t < P.types.size) → DataW.TrodAll enc P W 0 (fun _ => true) true ts vs ds ps → (∀ x ∈ ps, x.block < W.heap.size) →
    DataW.TrodAll enc P W' 0 (fun b => decide (b < W.heap.size)) true ts vs ds ps
  | [], [], [], _, _, h, _ => h
  | t :: ts, v :: vs, d :: ds, ps, hr, h, hlt => by
    obtain ⟨p, q, h1, h2, rfl⟩ := h
    exact ⟨p, q, Below.trod hl (hr t (by simp)).1 (hr t (by simp)).2 h1 hb (fun x hx => hlt x (by simp [hx])),
      trodAll_below hl hb (fun t ht => hr t (by simp [ht])) h2 (fun x hx => hlt x (by simp [hx])), rfl⟩
  | [], [], _ :: _, _, _, h, _ => h.elim
  | [], _ :: _, [], _, _, h, _ => h.elim
  | [], _ :: _, _ :: _, _, _, h, _ => h.elim
  | _ :: _, [], [], _, _, h, _ => h.elim
  | _ :: _, [], _ :: _, _, _, h, _ => h.elim
  | _ :: _, _ :: _, [], _, _, h, _ => h.elim

/-- the law's end: it returned true, and only new memory was made -/
theorem law_post {H : Type} {enc : TypeId × Value → H} {P : Program} {fn : Func} {s : ChangeSpec} {W W' : World} {args : Array Value} {ds gs : List (DataW H)} {before : List MemPlace} {tb : TypeId}
    (hl : laidOutB P = true) (hW : DataW.Whole enc P fn.params.toList s.vars false W args.toList ds gs before) (hv : s.vars = []) (hr : ∀ t ∈ fn.params.toList, P.readableRec t = true ∧ t < P.types.size)
    (hsp : (s.fn H (ds ++ gs)).results = [.lit (.bool true)] ∧ (s.fn H (ds ++ gs)).args = ds ∧ (s.fn H (ds ++ gs)).vars = []) (hres : fn.resultTypes = #[tb]) (hb : P.underlying tb = some .bool) (hE : Ext W W') :
    s.post enc P fn false true false false W args (.bool true) W' := by
  have hlt := hW.lt
  have hW' := hW
  obtain ⟨p, q, hA, hV, rfl, _, _⟩ := hW
  rw [hv] at hV
  obtain ⟨e1, e2, e3⟩ := hsp
  refine ⟨ds, gs, p ++ q, [], p, [], hW', ?_, ?_, ?_, hE.frame _, fun h => by cases h⟩
  · rw [e1, hres]
    exact trodAll_mk1 (shut_bool hb true)
  · rw [e2]
    exact trodAll_below hl hE hr hA (fun x hx => hlt x (by simp [hx]))
  · rw [e3, hv]
    exact rfl
/- structs -/
instance iOpen9 {α β : Type} [Bk α] [Bk β] : Bk (α × β) := ⟨fun x => bk x.1 + bk x.2⟩
/-- a list of fields, from an offset on -/
class OpnFs (P : Program) (fs : List (TypeId × Nat)) (off : Nat) (α : Type) [Rep α] [Bk α] : Prop where
  op : ∀ {H : Type} {enc : TypeId × Value → H} {w : World} {fuel : Nat} {cs : List Value} {xs : List (DataW H × List MemPlace)}, off + sz α = cs.length →
    (fs.mapM fun f => DataW.trod enc P w 0 (fun _ => true) true fuel f.1 ((cs.drop f.2).take (P.cellsOf f.1))) = some xs → ∃ x : α, rd w (Old w) (cs.drop off) x ∧ bk x ≤ Rows.uptoBulkAll (xs.map (·.1))
theorem cellsOf_T {P : Program} {t : TypeId} {α : Type} [Rep α] [ht : IsT P t α] : P.cellsOf t = sz α := by
  obtain ⟨i, h1, h2⟩ := IsT.info (P := P) (t := t) (α := α)
  simp [Program.cellsOf, h1, h2]
instance OpnFs.one {P : Program} {t : TypeId} {off : Nat} {α : Type} [Rep α] [Bk α] [ht : IsT P t α] [ho : Opn P t α] : OpnFs P [(t, off)] off α where
  op := by
    intro H enc w fuel cs xs hl h
    simp only [List.mapM_cons, List.mapM_nil, Option.bind_eq_bind, Option.pure_def] at h
    cases h1 : DataW.trod enc P w 0 (fun _ => true) true fuel t ((cs.drop off).take (P.cellsOf t)) with
    | none => rw [h1] at h; cases h
    | some d =>
      rw [h1] at h; simp at h; subst h
      obtain ⟨d, ps⟩ := d
      obtain ⟨x, hr, hb⟩ := ho.op h1
      rw [cellsOf_T (α := α), List.take_of_length_le (by rw [List.length_drop]; omega)] at hr
      exact ⟨x, hr, by simpa [Rows.uptoBulkAll] using hb⟩
instance OpnFs.cons {P : Program} {t : TypeId} {off : Nat} {f : TypeId × Nat} {fs : List (TypeId × Nat)} {α β : Type} [Rep α] [Bk α] [Rep β] [Bk β] [ht : IsT P t α] [ho : Opn P t α] [hr : OpnFs P (f :: fs) (off + sz α) β] : OpnFs P ((t, off) :: f :: fs) off (α × β) where
  op := by
    intro H enc w fuel cs xs hl h
    rw [List.mapM_cons] at h
    simp only [Option.bind_eq_bind, Option.pure_def] at h
    have hl' : off + sz α + sz β = cs.length := by
      have : sz (α × β) = sz α + sz β := rfl
      omega
    cases h1 : DataW.trod enc P w 0 (fun _ => true) true fuel t ((cs.drop off).take (P.cellsOf t)) with
    | none => rw [h1] at h; cases h
    | some d =>
      rw [h1] at h
      simp only [Option.bind_some] at h
      obtain ⟨ys, h2, h3⟩ := Option.bind_eq_some_iff.1 h
      cases h3
      obtain ⟨d, ps⟩ := d
      obtain ⟨x, hx, hb⟩ := ho.op h1
      obtain ⟨y, hy, hc⟩ := hr.op hl' h2
      rw [cellsOf_T (α := α)] at hx
      refine ⟨(x, y), ⟨(cs.drop off).take (sz α), cs.drop (off + sz α), ?_, hx, hy⟩, ?_⟩
      · rw [← List.drop_drop, List.take_append_drop]
      · show bk x + bk y ≤ _
        simp only [List.map_cons, Rows.uptoBulkAll]
        omega
def stFact (P : Program) (t : TypeId) : Option (List (TypeId × Nat)) := match P.underlying t with
  | some (.struct fs) => some (fs.toList.map fun f => (f.type, f.offset))
  | _ => none
theorem Opn.struct {P : Program} {t : TypeId} {fs : List (TypeId × Nat)} {α : Type} [Rep α] [Bk α] [ht : IsT P t α] [hf : OpnFs P fs 0 α] (h : stFact P t = some fs) : Opn P t α where
  op := by
    intro H enc w fuel cs d ps hd
    unfold stFact at h
    split at h
    · rename_i gs hu
      cases h
      cases fuel with
      | zero => simp [DataW.trod] at hd
      | succ fuel =>
        unfold DataW.trod at hd
        rw [hu] at hd
        simp only at hd
        split at hd
        · rename_i hl
          obtain ⟨xs, h1, h2⟩ := Option.map_eq_some_iff.1 hd
          cases h2
          have := hf.op (enc := enc) (w := w) (fuel := fuel) (cs := cs) (xs := xs) (by rw [hl, cellsOf_T (α := α)]; omega) (by rw [List.mapM_map]; exact h1)
          obtain ⟨x, hr, hb⟩ := this
          exact ⟨x, by simpa using hr, by simp only [Rows.uptoBulk]; omega⟩
        · cases hd
    · cases h
instance iOpen5 : Opn Try.prog 3 Int := Opn.int Try.underlying3
instance iOpen6 : Opn Try.prog 22 (List Int) := Opn.slice
instance iOpen7 : Opn Try.prog 23 (List (List Int)) := Opn.slice
end Go.Proofs.Ytbphcblopoegcaa
/-
  The types of the arguments, as the form reads them.
-/
set_option linter.unusedVariables false
namespace Go.Proofs.Ytbphcblopoegcaa
open Go.RowKit

instance iOpn1 : Opn Try.prog 4 Bool := Opn.bool Try.underlying4
instance iOpn2 : Opn Try.prog 33 Nat := Opn.u64 Try.underlying33
instance iOpn3 : Opn Try.prog 9 ByteArray := Opn.string Try.underlying9
instance iOpn4 : Opn Try.prog 27 Int := Opn.int Try.underlying27
instance iOpn5 : Opn Try.prog 55 (List Bool) := Opn.slice
instance iOpn6 : Opn Try.prog 24 (List Nat) := Opn.slice
instance iOpn10 : Opn Try.prog 101 (ByteArray × Int) := Opn.struct (fs := [(9, 0), (3, 1)]) (by kernel_rfl)
instance iOpn11 : Opn Try.prog 104 (Int × Int) := Opn.struct (fs := [(3, 0), (3, 1)]) (by kernel_rfl)
instance iOpn12 : Opn Try.prog 95 (Int × Int × Int) := Opn.struct (fs := [(3, 0), (3, 1), (3, 2)]) (by kernel_rfl)
instance iOpn13 : Opn Try.prog 92 (Int × Int) := Opn.struct (fs := [(3, 0), (3, 1)]) (by kernel_rfl)
instance iOpn14 : Opn Try.prog 77 (List (ByteArray × Int)) := Opn.slice
instance iOpn15 : Opn Try.prog 78 (List (Int × Int)) := Opn.slice
instance iOpn16 : Opn Try.prog 87 (List (Int × Int × Int)) := Opn.slice
instance iOpn17 : Opn Try.prog 81 (List (Int × Int)) := Opn.slice
instance iOpn18 : Opn Try.prog 42 (List Nat × List Nat) := Opn.struct (fs := [(24, 0), (24, 1)]) (by kernel_rfl)
instance iOpn19 : Opn Try.prog 67 (List Int × List Int) := Opn.struct (fs := [(22, 0), (22, 1)]) (by kernel_rfl)
instance iOpn22 : Opn Try.prog 51 (List Int × List (List Int) × List Nat × List (List Int)) := Opn.struct (fs := [(22, 0), (23, 1), (24, 2), (23, 3)]) (by kernel_rfl)
instance iOpn23 : Opn Try.prog 26 (List Int × List (List Int) × List Nat × List Nat × List (List Int)) := Opn.struct (fs := [(22, 0), (23, 1), (24, 2), (24, 3), (23, 4)]) (by kernel_rfl)
instance iOpn24 : Opn Try.prog 80 (List (ByteArray × Int) × List (Int × Int)) := Opn.struct (fs := [(77, 0), (78, 1)]) (by kernel_rfl)
instance iOpn25 : Opn Try.prog 126 (Bool × List Int × List Int) := Opn.struct (fs := [(4, 0), (22, 1), (22, 2)]) (by kernel_rfl)
end Go.Proofs.Ytbphcblopoegcaa
/-
  Formulas as arguments.
-/
set_option linter.unusedVariables false
set_option linter.unusedSimpArgs false
namespace Go.Proofs.Ytbphcblopoegcaa
open Go.RowKit

instance iOpnLtl1 : Bk Ltl := ⟨Ltl.nodes⟩
theorem len3 {cs : List Value} (h : cs.length = 3) : ∃ c0 c1 c2, cs = [c0, c1, c2] := by
  match cs, h with
  | [a, b, c], _ => exact ⟨a, b, c, rfl⟩
theorem ltl_op {H : Type} {enc : TypeId × Value → H} {w : World} : ∀ (fuel : Nat) {cs : List Value} {d : DataW H} {ps : List MemPlace}, DataW.trod enc Try.prog w 0 (fun _ => true) true fuel 129 cs = some (d, ps) → ∃ x : Ltl, rd w (Old w) cs x ∧ bk x ≤ Rows.uptoBulk d := by
  intro fuel
  induction fuel using Nat.strongRecOn with
  | _ fuel ih =>
    intro cs d ps hd
    have hst : stFact Try.prog 129 = some [(3, 0), (3, 1), (127, 2)] := by kernel_rfl
    unfold stFact at hst
    split at hst
    · rename_i gs hu
      have hst := Option.some.inj hst
      cases fuel with
      | zero => simp [DataW.trod] at hd
      | succ fuel =>
        unfold DataW.trod at hd
        rw [hu] at hd
        simp only at hd
        split at hd
        · rename_i hl
          obtain ⟨xs, h1, h2⟩ := Option.map_eq_some_iff.1 hd
          cases h2
          have h3 : (List.map (fun f : Field => (f.type, f.offset)) gs.toList).mapM (fun f : TypeId × Nat => DataW.trod enc Try.prog w 0 (fun _ => true) true fuel f.1 ((cs.drop f.2).take (Try.prog.cellsOf f.1))) = some xs := by rw [List.mapM_map]; exact h1
          rw [hst] at h3
          rw [cellsOf_T (α := Ltl)] at hl
          have hl3 : cs.length = 3 := hl
          simp only [List.mapM_cons, List.mapM_nil, Option.bind_eq_bind, Option.pure_def] at h3
          obtain ⟨x1, e1, h3⟩ := Option.bind_eq_some_iff.1 h3
          obtain ⟨y1, h3, hy1⟩ := Option.bind_eq_some_iff.1 h3
          obtain ⟨x2, e2, h3⟩ := Option.bind_eq_some_iff.1 h3
          obtain ⟨y2, h3, hy2⟩ := Option.bind_eq_some_iff.1 h3
          obtain ⟨x3, e3, h3⟩ := Option.bind_eq_some_iff.1 h3
          simp at h3 hy2 hy1
          subst h3 hy2 hy1
          obtain ⟨d1, p1⟩ := x1
          obtain ⟨d2, p2⟩ := x2
          obtain ⟨d3, p3⟩ := x3
          rw [cellsOf_T (α := Int)] at e1 e2
          rw [cellsOf_T (α := List Ltl)] at e3
          obtain ⟨k, hk, bk1⟩ := Opn.op (P := Try.prog) (t := 3) (α := Int) e1
          obtain ⟨n, hn, bk2⟩ := Opn.op (P := Try.prog) (t := 3) (α := Int) e2
          cases fuel with
          | zero => simp [DataW.trod] at e3
          | succ fuel =>
            obtain ⟨kids, hkids, bk3⟩ := slice_op (α := Ltl) (e := 129) (fun h => ih fuel (by omega) h) e3
            obtain ⟨ao, cap, hc, hs⟩ := rd_sl hkids
            have hk' := rd_int hk
            have hn' := rd_int hn
            refine ⟨.mk k n kids, ?_, ?_⟩
            · clear hu hst h1 e1 e2 e3 ih bk1 bk2 bk3
              obtain ⟨c0, c1, c2, rfl⟩ := len3 hl3
              have a0 : [c0] = [.int .i64 k] := hk'
              have a1 : [c1] = [.int .i64 n] := hn'
              have a2 : [c2] = [.slice ao kids.length cap] := hc
              rw [List.cons.inj a0 |>.1, List.cons.inj a1 |>.1, List.cons.inj a2 |>.1]
              exact RdT.of hs
            · have hnl : ∀ l : List Ltl, bkL l = Ltl.nodesL l := by
                intro l
                induction l with
                | nil => rfl
                | cons x r ihl => simp only [bkL, Ltl.nodesL, ihl]; rfl
              have e3' : bk kids = bkL kids + 1 := rfl
              have e4 : bk (Ltl.mk k n kids) = 1 + Ltl.nodesL kids := by show Ltl.nodes _ = _; simp [Ltl.nodes]
              rw [e4, ← hnl]
              simp only [List.map_cons, List.map_nil, Rows.uptoBulk, Rows.uptoBulkAll]
              omega
        · cases hd
    · cases hst
instance iOpnLtl2 : Opn Try.prog 129 Ltl where
  op := fun h => ltl_op _ h
end Go.Proofs.Ytbphcblopoegcaa
/-
  Formulas of all ways as arguments.
-/
set_option linter.unusedVariables false
set_option linter.unusedSimpArgs false
namespace Go.Proofs.Ytbphcblopoegcaa
open Go.RowKit

theorem ctl_op {H : Type} {enc : TypeId × Value → H} {w : World} : ∀ (fuel : Nat) {cs : List Value} {d : DataW H} {ps : List MemPlace}, DataW.trod enc Try.prog w 0 (fun _ => true) true fuel 54 cs = some (d, ps) → ∃ x : Ltl, rd w (Old w) cs x ∧ bk x ≤ Rows.uptoBulk d := by
  intro fuel
  induction fuel using Nat.strongRecOn with
  | _ fuel ih =>
    intro cs d ps hd
    have hst : stFact Try.prog 54 = some [(3, 0), (3, 1), (52, 2)] := by kernel_rfl
    unfold stFact at hst
    split at hst
    · rename_i gs hu
      have hst := Option.some.inj hst
      cases fuel with
      | zero => simp [DataW.trod] at hd
      | succ fuel =>
        unfold DataW.trod at hd
        rw [hu] at hd
        simp only at hd
        split at hd
        · rename_i hl
          obtain ⟨xs, h1, h2⟩ := Option.map_eq_some_iff.1 hd
          cases h2
          have h3 : (List.map (fun f : Field => (f.type, f.offset)) gs.toList).mapM (fun f : TypeId × Nat => DataW.trod enc Try.prog w 0 (fun _ => true) true fuel f.1 ((cs.drop f.2).take (Try.prog.cellsOf f.1))) = some xs := by rw [List.mapM_map]; exact h1
          rw [hst] at h3
          rw [cellsOf_T (α := Ltl)] at hl
          have hl3 : cs.length = 3 := hl
          simp only [List.mapM_cons, List.mapM_nil, Option.bind_eq_bind, Option.pure_def] at h3
          obtain ⟨x1, e1, h3⟩ := Option.bind_eq_some_iff.1 h3
          obtain ⟨y1, h3, hy1⟩ := Option.bind_eq_some_iff.1 h3
          obtain ⟨x2, e2, h3⟩ := Option.bind_eq_some_iff.1 h3
          obtain ⟨y2, h3, hy2⟩ := Option.bind_eq_some_iff.1 h3
          obtain ⟨x3, e3, h3⟩ := Option.bind_eq_some_iff.1 h3
          simp at h3 hy2 hy1
          subst h3 hy2 hy1
          obtain ⟨d1, p1⟩ := x1
          obtain ⟨d2, p2⟩ := x2
          obtain ⟨d3, p3⟩ := x3
          rw [cellsOf_T (α := Int)] at e1 e2
          rw [cellsOf_T (α := List Ltl)] at e3
          obtain ⟨k, hk, bk1⟩ := Opn.op (P := Try.prog) (t := 3) (α := Int) e1
          obtain ⟨n, hn, bk2⟩ := Opn.op (P := Try.prog) (t := 3) (α := Int) e2
          cases fuel with
          | zero => simp [DataW.trod] at e3
          | succ fuel =>
            obtain ⟨kids, hkids, bk3⟩ := slice_op (α := Ltl) (e := 54) (fun h => ih fuel (by omega) h) e3
            obtain ⟨ao, cap, hc, hs⟩ := rd_sl hkids
            have hk' := rd_int hk
            have hn' := rd_int hn
            refine ⟨.mk k n kids, ?_, ?_⟩
            · clear hu hst h1 e1 e2 e3 ih bk1 bk2 bk3
              obtain ⟨c0, c1, c2, rfl⟩ := len3 hl3
              have a0 : [c0] = [.int .i64 k] := hk'
              have a1 : [c1] = [.int .i64 n] := hn'
              have a2 : [c2] = [.slice ao kids.length cap] := hc
              rw [List.cons.inj a0 |>.1, List.cons.inj a1 |>.1, List.cons.inj a2 |>.1]
              exact RdT.of hs
            · have hnl : ∀ l : List Ltl, bkL l = Ltl.nodesL l := by
                intro l
                induction l with
                | nil => rfl
                | cons x r ihl => simp only [bkL, Ltl.nodesL, ihl]; rfl
              have e3' : bk kids = bkL kids + 1 := rfl
              have e4 : bk (Ltl.mk k n kids) = 1 + Ltl.nodesL kids := by show Ltl.nodes _ = _; simp [Ltl.nodes]
              rw [e4, ← hnl]
              simp only [List.map_cons, List.map_nil, Rows.uptoBulk, Rows.uptoBulkAll]
              omega
        · cases hd
    · cases hst
instance iOpnCtl2 : Opn Try.prog 54 Ltl where
  op := fun h => ctl_op _ h
end Go.Proofs.Ytbphcblopoegcaa
/-
  Bulk of lists of numbers.
-/
namespace Go.Proofs.Ytbphcblopoegcaa
open Go.RowKit

theorem bulk_flat {α : Type} [Bk α] (h : ∀ x : α, bk x = 1) : ∀ l : List α, bkL l = l.length
  | [] => rfl
  | x :: r => by simp only [bkL, h, bulk_flat h r, List.length_cons]; omega
theorem bulk_l (l : List Int) : l.length + 1 = bk l := by show _ = bkL l + 1; rw [bulk_flat (fun _ => rfl)]
theorem bulk_b (l : List Bool) : l.length + 1 = bk l := by show _ = bkL l + 1; rw [bulk_flat (fun _ => rfl)]
theorem bulk_n (l : List Nat) : l.length + 1 = bk l := by show _ = bkL l + 1; rw [bulk_flat (fun _ => rfl)]
theorem bulk_g : ∀ g : List (List Int), edges g + g.length ≤ bkL g
  | [] => by simp [edges, bkL]
  | l :: g => by
    have h1 := bulk_g g
    have h3 : bk l = l.length + 1 := (bulk_l l).symm
    simp only [bkL, h3, edges, List.map_cons, List.sum_cons, List.length_cons] at h1 ⊢
    omega
theorem bulk_gg (g : List (List Int)) : edges g + g.length + 1 ≤ bk g := by
  have := bulk_g g
  show _ ≤ bkL g + 1
  omega
end Go.Proofs.Ytbphcblopoegcaa
