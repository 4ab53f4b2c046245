import Derived.Test.YtadbkppgaekmpaaRows
import Derived.OpenShut
import Derived.JoinedCond
import Derived.Test.YtadbkppgaekmpaaPtProcOwn12
/-
  ProcOwn: walked.
-/
set_option linter.unusedVariables false
set_option linter.unusedSimpArgs false
namespace Go.Proofs.Ytadbkppgaekmpaa
open Go.RowKit

theorem SameProcess_eq (w0 : World) {so fo so' fo' : Option Addr} {sc fc sc' fc' : Nat} {ns : List LNode} {fl : List LFlow} (hs : Sl w0 (Old w0) so sc ns) (hf : Sl w0 (Old w0) fo fc fl) (hs' : Sl w0 (Old w0) so' sc' ns) (hf' : Sl w0 (Old w0) fo' fc' fl) :
    Rt Try.prog 35 [procV so sc fo fc ns.length fl.length, procV so' sc' fo' fc' ns.length fl.length].toArray w0 fun v w' => v = .bool true ∧ Ext w0 w' := by
  refine Rt.enter2 Try.func35 Try.ntmps35 rfl rfl ?_
  (repeat (first | (apply CW.seq) | (apply CW.region)))
  refine WL.boxB rfl rfl rfl fun w1 hb2 e1 => ?_
  skip
  refine WL.boxB rfl rfl rfl fun w2 hb3 e2 => ?_
  have hb2 := hb2.ext e2
  have hE := e1.trans e2
  (repeat (first | (apply WL.pure; rfl; rfl; rfl) | (apply WL.nil) | (apply EX.thenN) | (apply CW.seq) | (apply CW.region) | (apply WL.fa; rfl; rfl; rfl) | (apply WL.ld; rfl; rfl; rfl; assumption; rfl)))
  refine WL.call rfl rfl rfl (equal_node w2 (hs.up hE) (hs'.up hE)) ?_
  rintro _ w3 ⟨rfl, e3⟩
  have hb2 := hb2.ext e3
  have hb3 := hb3.ext e3
  have hE := hE.trans e3
  (repeat (first | (apply WL.pure; rfl; rfl; rfl) | (apply WL.fa; rfl; rfl; rfl) | (apply WL.ld; rfl; rfl; rfl; assumption; rfl)))
  refine WL.call rfl rfl rfl (equal_flow w3 (hf.up hE) (hf'.up hE)) ?_
  rintro _ w4 ⟨rfl, e4⟩
  (repeat (first | (apply WL.pure; rfl; rfl; rfl) | (apply WL.nil) | (apply EX.thenN) | (apply CW.ret)))
  exact EX.ret1 rfl rfl ⟨rfl, hE.trans e4⟩
theorem straight_outs : listE straightP 0 = 0 ∧ (outsL straightP.2 0).length = 1 := by
  refine ⟨?_, by decide⟩
  unfold listE
  rw [if_neg (by simp [straight_chk]), if_neg (by decide)]
abbrev poLit (m p2 v38 v39 v42 v43 : Value) : Sg := [(1, m), (2, p2), (38, v38), (39, v39), (42, v42), (43, v43)]
def poOB (B : Nat) (w : World) (ob : Option Nat) : Prop := ∀ b, ob = some b → Blk w b 53 [.slice none 0 0, .slice none 0 0] ∧ B ≤ b
theorem poOB.ext {B : Nat} {w w' : World} {ob : Option Nat} (h : poOB B w ob) (hE : Ext w w') : poOB B w' ob := fun b hb => ⟨(h b hb).1.ext hE, (h b hb).2⟩
def poAp (v : Value) (ob : Option Nat) : Prop := ∀ b, ob = some b → v.ownBlock ≠ some b
abbrev nd9 : LNode := (⟨#[]⟩, 9)
abbrev fl99 : LFlow := (0, 99)
def poI (lit : Sg) (B : Nat) (ns : List LNode) (fl : List LFlow) (i : Nat) (σ : Sg) (w : World) (ob : Option Nat) : Prop :=
  match i with
  | 0 => σ = lit ∧ poOB B w ob
  | 1 => ∃ v, σ = (40, v) :: lit ∧ RoomG w B 59 v ns nd9 ∧ poAp v ob ∧ poOB B w ob
  | 2 => ∃ v u, σ = (44, u) :: (40, v) :: lit ∧ RoomG w B 59 v ns nd9 ∧ RoomG w B 62 u fl fl99 ∧ poAp v ob ∧ poAp u ob ∧ poOB B w ob
  | _ => ∃ v u, σ = (45, .agg [v, u].toArray) :: (44, u) :: (40, v) :: lit ∧ RoomG w B 59 v ns nd9 ∧ RoomG w B 62 u fl fl99 ∧ poAp v ob ∧ poAp u ob ∧ poOB B w ob
set_option maxRecDepth 100000 in
set_option maxHeartbeats 8000000 in
theorem ProcOwn_ok (w0 : World) {so fo mo : Option Addr} {sc fc mc : Nat} {ns : List LNode} {fl : List LFlow} {m : List Int} (hs : Sl w0 (Old w0) so sc ns) (hf : Sl w0 (Old w0) fo fc fl) (hm : Sl w0 (Old w0) mo mc m) (hsz : ns.length + fl.length + m.length ≤ 1048576) :
    Rt Try.prog 6 [procV so sc fo fc ns.length fl.length, .slice mo m.length mc].toArray w0 fun v w' => v = .bool true ∧ Ext w0 w' := by
  refine Rt.enter2 Try.func6 Try.ntmps6 rfl rfl ?_
  have hE := Ext.refl w0
  (repeat (first | (apply CW.seq) | (apply CW.region)))
  refine WL.boxB rfl rfl rfl fun w1 hb2 e1 => ?_
  have hE := hE.trans e1
  (repeat (first | (apply WL.pure; rfl; rfl; rfl) | (apply WL.nil) | (apply EX.thenN) | (apply CW.seq) | (apply CW.region)))
  refine WL.call rfl rfl rfl (straight_ok w1) ?_
  rintro _ w2 ⟨⟨p1, q1, p2, q2, rfl, g1, g2⟩, e2⟩
  skip
  refine WL.call rfl rfl rfl (Outs_ok w2 (ns := straightP.1) (fl := straightP.2) g1 g2 0) ?_
  rintro _ w3 ⟨x, rfl, hx, e3⟩
  rw [show ((straightP.1, straightP.2) : LProc) = straightP from rfl, straight_outs.1] at hx ⊢
  rw [if_pos rfl] at hx
  obtain ⟨xo, xc, rfl⟩ := hx.val
  rw [straight_outs.2]
  have hb2 := hb2.ext (e2.trans e3)
  have hE := hE.trans (e2.trans e3)
  clear hx e1 e2 e3 g1 g2
  have l2 := hb2.lt
  (repeat (first | (apply WL.pure; rfl; rfl; rfl) | (apply WL.nil) | (apply EX.thenN) | (apply CW.seq) | (apply CW.region) | (apply WL.lenS; rfl; rfl; rfl) | (apply CW.condF; rfl) | (apply CW.skip)))
  have hSE : ∀ z, (fun z : World => Ext w3 z) z → Ext w3 z := fun _ h => h
  refine CW.drawC (fun z => Ext w3 z) [(0, true), (1, true), (2, true), (4, true), (5, true), (6, true)] 9 [3, 7, 8] [(10, false)] mixed (by kernel_rfl) (Ext.drew w3) ?_
  (repeat (first | (refine HL.fa rfl rfl rfl rfl ?_) | (refine HL.ld (by assumption) rfl rfl rfl rfl (by assumption) rfl ?_) | (refine HL.build rfl rfl rfl rfl rfl ?_) | (apply HL.nil)))
  refine EX.sub (τ := poLit (.slice mo m.length mc) (.pointer (some ⟨w0.heap.size, 0, none⟩)) (.slice so ns.length sc) (ndV nd9) (.slice fo fl.length fc) (flV fl99)) (by repeat (first | exact trivial | refine ⟨rfl, ?_⟩)) ?_
  refine EX.chainA (e := 9) rfl rfl (poI (poLit (.slice mo m.length mc) (.pointer (some ⟨w0.heap.size, 0, none⟩)) (.slice so ns.length sc) (ndV nd9) (.slice fo fl.length fc) (flV fl99)) w3.heap.size ns fl) ?_ ?_ ?_ ?_ ⟨rfl, fun b h => by cases h⟩ (Ext.drew w3)
  · intro i σ w ob hI
    match i with
    | 0 => obtain ⟨rfl, _⟩ := hI; rfl
    | 1 => obtain ⟨_, rfl, _⟩ := hI; rfl
    | 2 => obtain ⟨_, _, rfl, _⟩ := hI; rfl
    | _ + 3 => obtain ⟨_, _, rfl, _⟩ := hI; rfl
  · intro i σ w hI hS w' hb hE'
    have hS : Ext w3 w := hS
    refine ⟨Ext.trans hS hE', ?_⟩
    have ob : poOB w3.heap.size w' (some w.heap.size) := fun b h => by cases h; exact ⟨hb, hS.size⟩
    have ap : ∀ {α : Type} [Rep α] {e : TypeId} {v : Value} {xs : List α}, Own w w3.heap.size e Non v xs → poAp v (some w.heap.size) := fun ho b h hg => by cases h; have := (ho.lt _ hg).2.1; omega
    match i with
    | 0 => obtain ⟨h, _⟩ := hI; exact ⟨h, ob⟩
    | 1 => obtain ⟨v, h, hv, _⟩ := hI; exact ⟨v, h, hv.ext hE', ap hv.own, ob⟩
    | 2 => obtain ⟨v, u, h, hv, hu, _⟩ := hI; exact ⟨v, u, h, hv.ext hE', hu.ext hE', ap hv.own, ap hu.own, ob⟩
    | _ + 3 => obtain ⟨v, u, h, hv, hu, _⟩ := hI; exact ⟨v, u, h, hv.ext hE', hu.ext hE', ap hv.own, ap hu.own, ob⟩
  · intro i hi σ w ob τ hI hS
    have hS : Ext w3 w := hS
    match i, hi with
    | 0, _ =>
      obtain ⟨rfl, hob⟩ := hI
      refine ⟨_, rfl, ?_⟩
      refine WL.call rfl rfl rfl (roomy_node w (hs.up (hE.trans hS)) (fun _ h => h) nd9 (by decide) (by omega)) ?_
      rintro v w' ⟨hv, e⟩
      exact WL.nil (EX.stepA (σ := (40, v) :: _) (Ext.trans hS e) ⟨v, rfl, hv.low hS.size, fun b h hg => by have := (hv.own.lt _ hg).1; have := (hob b h).1.lt; omega, hob.ext e⟩)
    | 1, _ =>
      obtain ⟨v, rfl, hv, hap, hob⟩ := hI
      refine ⟨_, rfl, ?_⟩
      refine WL.call rfl rfl rfl (roomy_flow w (hf.up (hE.trans hS)) (fun _ h => h) fl99 trivial (by omega)) ?_
      rintro u w' ⟨hu, e⟩
      exact WL.nil (EX.stepA (σ := (44, u) :: _) (Ext.trans hS e) ⟨v, u, rfl, hv.ext e, hu.low hS.size, hap, fun b h hg => by have := (hu.own.lt _ hg).1; have := (hob b h).1.lt; omega, hob.ext e⟩)
    | 2, _ =>
      obtain ⟨v, u, rfl, hv, hu, hap, hap2, hob⟩ := hI
      obtain ⟨v1, v2, rfl⟩ := hv.own.val
      obtain ⟨u1, u2, rfl⟩ := hu.own.val
      refine ⟨_, rfl, ?_⟩
      refine WL.build rfl rfl rfl rfl ?_
      exact WL.nil (EX.stepA (σ := (45, _) :: _) hS ⟨_, _, rfl, hv, hu, hap, hap2, hob⟩)
    | i + 3, hi => exact absurd hi (by simp)
  intro σ w4 b7 hI hS
  have hS : Ext w3 w4 := hS
  obtain ⟨v, u, rfl, hv, hu, hap, hap2, hob⟩ := hI
  have hgt := (hob b7 rfl).2
  obtain ⟨v1, v2, rfl⟩ := hv.own.val
  obtain ⟨u1, u2, rfl⟩ := hu.own.val
  refine HL.mut rfl (WL.st rfl rfl rfl (hob b7 rfl).1 rfl rfl (ones_of rfl) (fun w5 hb7 hg5 => ?_))
  have hS5 : Ext w3 w5 := Below.grown hS hg5 hS.size (fun g hg => by cases hg; exact hgt)
  refine WL.nil (EX.mut hS5 ?_)
  have hv := hv.keep (fun g hg => hg5.block g (hv.own.lt g hg).2.1 (fun e => hap b7 rfl (by rw [← e]; exact hg)))
  have hu := hu.keep (fun g hg => hg5.block g (hu.own.lt g hg).2.1 (fun e => hap2 b7 rfl (by rw [← e]; exact hg)))
  have hE5 := hE.trans hS5
  have hb2 := hb2.ext hS5
  clear hob hap hap2 hg5 hS hS5 hSE hE
  have hvs : ∀ w, Ext w5 w → Sl w (Old w) v1 v2 ns := fun w h => by
    obtain ⟨a, b, e, k⟩ := (hv.ext h).own.oldN.sl
    obtain ⟨rfl, _, rfl⟩ := Value.slice.inj e
    exact k
  have hus : ∀ w, Ext w5 w → Sl w (Old w) u1 u2 fl := fun w h => by
    obtain ⟨a, b, e, k⟩ := (hu.ext h).own.oldN.sl
    obtain ⟨rfl, _, rfl⟩ := Value.slice.inj e
    exact k
  apply HL.nil
  (repeat (first | (apply WL.pure; rfl; rfl; rfl) | (apply EX.thenN) | (apply CW.seq) | (apply CW.region)))
  refine WL.call rfl rfl rfl (roomy_ok w5 (hm.up hE5) (fun _ h => h) 77 (by omega)) ?_
  rintro mv w6 ⟨hmv, e6⟩
  have hE6 := hE5.trans e6
  have hb2 := hb2.ext e6
  have hb7 := hb7.ext e6
  have l6 := hb2.lt
  obtain ⟨m1, m2, rfl⟩ := hmv.own.val
  have hms : ∀ w, Ext w6 w → Sl w (Old w) m1 m2 m := fun w h => by
    obtain ⟨a, b, e, k⟩ := (hmv.ext h).own.oldN.sl
    obtain ⟨rfl, _, rfl⟩ := Value.slice.inj e
    exact k
  (repeat (first | (apply WL.pure; rfl; rfl; rfl) | (apply WL.nil) | (apply EX.thenN) | (apply CW.seq) | (apply CW.region) | (apply WL.ldA; rfl; rfl; rfl; assumption; rfl)))
  refine WL.call rfl rfl rfl (Enabled_ok w6 (hvs w6 e6) (hus w6 e6) (hms w6 (Ext.refl _))) ?_
  rintro _ w7 ⟨en, rfl, hen, e7⟩
  have e57 := e6.trans e7
  have hE7 := hE6.trans e7
  have hb2 := hb2.ext e7
  have hb7 := hb7.ext e7
  generalize hEN : (if chkM (ns, fl) m = 0 then canL (ns, fl) m else []) = enl at *
  obtain ⟨en1, en2, rfl⟩ := hen.val
  have hel := hen.lt
  have hens : ∀ w, Ext w7 w → Sl w (Old w) en1 en2 enl := fun w h => by
    obtain ⟨a, b, e, k⟩ := (hen.extN h).oldN.sl
    obtain ⟨rfl, _, rfl⟩ := Value.slice.inj e
    exact k
  have henl : enl.length ≤ 60 := by rw [← hEN]; exact canE_len (p := (ns, fl)) (m := m)
  (repeat (apply WL.pure; rfl; rfl; rfl))
  apply WL.nil
  apply EX.thenN
  refine CW.cutE [(1, .slice mo m.length mc), (2, .pointer (some ⟨w0.heap.size, 0, none⟩)), (7, .pointer (some ⟨b7, 0, none⟩)), (8, .slice m1 m.length m2), (9, .slice en1 enl.length en2), (10, .int .i64 (chkM (ns, fl) m))] ?_ ?_
  · (repeat (first | (apply WL.pure; rfl; rfl; rfl) | (apply WL.nil) | (apply EX.thenN) | (apply CW.seq) | (apply CW.region) | (apply WL.lenS; rfl; rfl; rfl)))
    refine CW.cond rfl (fun h => ?_) (fun h => ?_)
    · have h0 : 0 < enl.length := by simpa using h
      skip
      have hSE : ∀ z, (fun z : World => Ext w7 z) z → Ext w7 z := fun _ h => h
      refine CW.drawH (fun z => Ext w7 z) [(0, true), (1, true), (2, true), (3, true), (4, true), (5, false)] mixed (by kernel_rfl) (Ext.drew w7) ?_
      (repeat (first | (apply HL.pure; rfl; rfl; rfl; rfl) | (refine HL.ldA (by assumption) rfl rfl rfl rfl (by assumption) rfl ?_)))
      refine HL.elemN (α := Int) (k := 0) hSE rfl rfl rfl rfl rfl rfl rfl (fun _ h => h) (hens w7 (Ext.refl _)) h0 (fun _ => rfl) (fun u q hu => ?_)
      obtain rfl := hu.int
      skip
      have hd := Ext.drew w7
      refine HL.mut rfl (WL.call rfl rfl rfl (Fire_ok (drew w7) (hvs _ (e57.trans hd)) (hus _ (e57.trans hd)) (hms _ (e7.trans hd)) enl[0]) ?_)
      rintro _ w8 ⟨x, rfl, hox, e8⟩
      have e8 := hd.trans e8
      refine WL.nil (EX.mut e8 ?_)
      (repeat (apply HL.nil))
      skip
      exact EX.cutE (by repeat (first | exact trivial | refine ⟨rfl, ?_⟩)) e8
    · exact CW.skip (EX.cutE (by repeat (first | exact trivial | refine ⟨rfl, ?_⟩)) (Ext.refl _))
  intro w8 e8
  have e58 := e57.trans e8
  have e68 := e7.trans e8
  have hE8 := hE7.trans e8
  have hb2 := hb2.ext e8
  have hb7 := hb7.ext e8
  have l8 := hb2.lt
  (repeat (first | (apply CW.seq) | (apply CW.region) | (apply WL.ldA; rfl; rfl; rfl; assumption; rfl)))
  refine WL.call rfl rfl rfl (Explore_own w8 (hvs _ e58) (hus _ e58) 2 50) ?_
  rintro _ w9 ⟨x, y, xvs, yvs, rfl, hLx, hLy, e9⟩
  obtain ⟨xo, xc, rfl⟩ := hLx.own.val
  obtain ⟨yo, yc, rfl⟩ := hLy.own.val
  have hb2 := hb2.ext e9
  have hb7 := hb7.ext e9
  have e59 := e58.trans e9
  have e69 := e68.trans e9
  have e79 := e8.trans e9
  have hE9 := hE8.trans e9
  (repeat (apply WL.pure; rfl; rfl; rfl))
  refine WL.alloc rfl rfl (fun w10 hb11 e10 => ?_)
  skip
  refine WL.st rfl rfl rfl hb11 rfl rfl (ones_of rfl) (fun w11 hb11 hg11 => ?_)
  have e11 : Ext w9 w11 := Below.grown e10 hg11 e10.size (fun g hg => by cases hg; exact Nat.le_refl _)
  have hb2 := hb2.ext e11
  have hb7 := hb7.ext e11
  have e5_11 := e59.trans e11
  have e6_11 := e69.trans e11
  have e7_11 := e79.trans e11
  have hE11 := hE9.trans e11
  clear e10 hg11
  (repeat (first | (apply WL.pure; rfl; rfl; rfl) | (apply WL.nil) | (apply EX.thenN) | (apply CW.seq) | (apply CW.region) | (apply WL.ldA; rfl; rfl; rfl; assumption; rfl)))
  refine WL.call rfl rfl rfl (SameProcess_eq w11 (hs.up hE11) (hf.up hE11) (hvs _ e5_11) (hus _ e5_11)) ?_
  rintro _ w12 ⟨rfl, e12⟩
  have hb2 := hb2.ext e12
  have hb7 := hb7.ext e12
  have hb11 := hb11.ext e12
  (repeat (apply WL.pure; rfl; rfl; rfl))
  refine WL.call rfl rfl rfl (equal_int w12 (hms _ (e6_11.trans e12)) (hm.up (hE11.trans e12))) ?_
  rintro _ w13 ⟨rfl, e13⟩
  rw [show (m == m) = true from beq_self_eq_true _]
  have hb2 := hb2.ext e13
  have hb7 := hb7.ext e13
  have hb11 := hb11.ext e13
  have e11_13 := e12.trans e13
  (repeat (first | (apply WL.pure; rfl; rfl; rfl) | (apply WL.fa; rfl; rfl; rfl) | (apply WL.ld; rfl; rfl; rfl; assumption; rfl)))
  refine WL.build rfl rfl rfl rfl ?_
  have hk1 := kept_node w13 (hv.ext (e5_11.trans e11_13)) (by omega)
  rw [show ndV nd9 = .agg [.string ⟨#[]⟩, .int .i64 9].toArray from rfl] at hk1
  refine WL.call rfl rfl rfl hk1 ?_
  rintro _ w14 ⟨rfl, e14⟩
  have hb2 := hb2.ext e14
  have hb7 := hb7.ext e14
  have hb11 := hb11.ext e14
  have e11_14 := e11_13.trans e14
  (repeat (first | (apply WL.pure; rfl; rfl; rfl) | (apply WL.fa; rfl; rfl; rfl) | (apply WL.ld; rfl; rfl; rfl; assumption; rfl)))
  refine WL.build rfl rfl rfl rfl ?_
  have hk2 := kept_flow w14 (hu.ext (e5_11.trans e11_14)) (by omega)
  rw [show flV fl99 = .agg [.int .i64 0, .int .i64 99].toArray from rfl] at hk2
  refine WL.call rfl rfl rfl hk2 ?_
  rintro _ w15 ⟨rfl, e15⟩
  have hb2 := hb2.ext e15
  have hb11 := hb11.ext e15
  have e11_15 := e11_14.trans e15
  (repeat (apply WL.pure; rfl; rfl; rfl))
  refine WL.call rfl rfl rfl (kept_ok w15 (hmv.ext (e6_11.trans e11_15)) (by omega)) ?_
  rintro _ _ ⟨rfl, rfl⟩
  have hE15 := hE11.trans e11_15
  have e9_15 := e11.trans e11_15
  have e7_15 := e7_11.trans e11_15
  clear e12 e13 e14 e15 e11_13 e11_14 e11_15 hb7
  (repeat (first | (apply WL.pure; rfl; rfl; rfl) | (apply WL.nil) | (apply EX.thenN) | (apply CW.seq) | (apply CW.region) | (apply WL.ldA; rfl; rfl; rfl; assumption; rfl) | (apply CW.condF; rfl) | (apply CW.skip)))
  refine WL.call rfl rfl rfl (Explore_own w15 (hs.up hE15) (hf.up hE15) 2 50) ?_
  rintro _ w16 ⟨x2, y2, xvs2, yvs2, rfl, hLx2, hLy2, e16⟩
  obtain ⟨xo2, xc2, rfl⟩ := hLx2.own.val
  obtain ⟨yo2, yc2, rfl⟩ := hLy2.own.val
  have hb2 := hb2.ext e16
  have hb11 := hb11.ext e16
  have hE16 := hE15.trans e16
  (repeat (apply WL.pure; rfl; rfl; rfl))
  refine WL.alloc rfl rfl (fun w17 hb13 e17 => ?_)
  skip
  refine WL.st rfl rfl rfl hb13 rfl rfl (ones_of rfl) (fun w18 hb13 hg18 => ?_)
  have e18 : Ext w16 w18 := Below.grown e17 hg18 e17.size (fun g hg => by cases hg; exact Nat.le_refl _)
  have hb2 := hb2.ext e18
  have hb11 := hb11.ext e18
  have e9_18 := (e9_15.trans e16).trans e18
  have e7_18 := (e7_15.trans e16).trans e18
  have hE18 := hE16.trans e18
  have z15 := e9_15.size
  have z16 := e16.size
  have z18 := e18.size
  have z89 := e9.size
  have z78 := e8.size
  have z11 := e11.size
  have zE7 := hE7.size
  clear e17 hg18
  have hLx := hLx.to (w' := w18) fun b _ h => e9_18.block b h
  have hLy := hLy.to (w' := w18) fun b _ h => e9_18.block b h
  have hLx2 := hLx2.to (w' := w18) fun b _ h => e18.block b h
  have hLy2 := hLy2.to (w' := w18) fun b _ h => e18.block b h
  generalize hG : GF w8.heap.size w9.heap.size (.slice xo xvs.length xc) (.slice yo yvs.length yc) = G
  have hG1 : ∀ b, G b → w8.heap.size ≤ b ∧ b < w9.heap.size ∧ Value.ownBlock (.slice xo xvs.length xc) ≠ some b ∧ Value.ownBlock (.slice yo yvs.length yc) ≠ some b := fun b h => by subst hG; exact h
  have hRx : ∀ k (h : k < xvs.length), RowT G w18 1 xvs[k].v := fun k h => by subst hG; exact hLx.ty k h
  have hRy : ∀ k (h : k < yvs.length), RowT G w18 2 yvs[k].v := fun k h => by subst hG; exact hLy.ty k h
  have hox := hLx.own
  have hoy := hLy.own
  have hxl := hox.oldN.sl
  clear hLx hLy hG
  have lxl : xvs.length ≤ 9223372036854775807 := by obtain ⟨a, b, e, k⟩ := hxl; exact k.len63
  have lyl : yvs.length ≤ 9223372036854775807 := by obtain ⟨a, b, e, k⟩ := hoy.oldN.sl; exact k.len63
  clear hxl
  (repeat (first | (apply WL.pure; rfl; rfl; rfl) | (apply WL.nil) | (apply EX.thenN) | (apply CW.seq) | (apply CW.region) | (apply WL.lenS; rfl; rfl; rfl) | (apply WL.fa; rfl; rfl; rfl) | (apply WL.ld; rfl; rfl; rfl; assumption; rfl) | (apply CW.block)))
  refine CW.loop (S := Nat) (fun k => [(1, .slice mo m.length mc), (2, .pointer (some ⟨w0.heap.size, 0, none⟩)), (9, .slice en1 enl.length en2), (10, .int .i64 (chkM (ns, fl) m)), (11, .pointer (some ⟨w9.heap.size, 0, none⟩)), (13, .pointer (some ⟨w16.heap.size, 0, none⟩)), (103, .slice xo xvs.length xc), (104, .int .i64 xvs.length), (105, .int .i64 k)])
    (fun k w => k ≤ xvs.length ∧ Chg G w18 w ∧ KeepC w18 w) (fun k => xvs.length - k) 0 (by repeat (first | exact trivial | refine ⟨rfl, ?_⟩)) ⟨Nat.zero_le _, Chg.refl _ _, KeepC.refl _⟩ ?_
  rintro k wk ⟨hk, hC, hK⟩
  (repeat (first | (apply WL.pure; rfl; rfl; rfl) | (apply WL.nil) | (apply EX.thenN) | (apply CW.seq) | (apply CW.region)))
  refine CW.cond rfl (fun h => ?_) (fun h => ?_)
  · have hk' : k < xvs.length := by simp at h; omega
    (repeat (first | (apply EX.thenN) | (apply CW.seq) | (apply CW.region) | (apply CW.block) | (apply CW.skip)))
    refine WL.elemON rfl rfl rfl rfl rfl (hox.chg hC (fun b hb h => (hG1 b h).2.2.1 hb)) hk' (fun _ => rfl) (fun u q hu => ?_)
    obtain ⟨rfl, _⟩ := hu.raw
    (repeat (first | (apply WL.pure; rfl; rfl; rfl) | (apply WL.nil) | (apply EX.thenN) | (apply CW.region)))
    refine WL.call rfl rfl rfl (spoilT_ok wk ((hRx k hk').keep hK) 5) ?_
    rintro _ w' ⟨hC', hK'⟩
    (repeat (first | (apply WL.add; rfl; rfl; rfl; rfl; omega; omega) | (apply WL.pure; rfl; rfl; rfl) | (apply WL.nil) | (apply EX.thenN) | (apply CW.region) | (apply EX.inN)))
    exact EX.back (k + 1) (by repeat (first | exact trivial | refine ⟨rfl, ?_⟩)) ⟨hk', hC.step hC' (fun b h => .inl h), hK.trans hK'⟩ (by omega)
  clear h hk
  have hb11k : Blk wk _ _ _ := (hC.block _ (by have := hb11.lt; omega) (fun h => by have := hG1 _ h; omega)).trans hb11
  (repeat (first | (apply WL.pure; rfl; rfl; rfl) | (apply WL.nil) | (apply EX.thenN) | (apply CW.seq) | (apply CW.region) | (apply WL.lenS; rfl; rfl; rfl) | (apply WL.fa; rfl; rfl; rfl) | (apply WL.ld; rfl; rfl; rfl; assumption; rfl) | (apply CW.block) | (apply CW.exit) | (apply EX.thenX) | (apply EX.inX)))
  refine CW.loop (S := Nat) (fun k => [(1, .slice mo m.length mc), (2, .pointer (some ⟨w0.heap.size, 0, none⟩)), (9, .slice en1 enl.length en2), (10, .int .i64 (chkM (ns, fl) m)), (11, .pointer (some ⟨w9.heap.size, 0, none⟩)), (13, .pointer (some ⟨w16.heap.size, 0, none⟩)), (113, .slice yo yvs.length yc), (114, .int .i64 yvs.length), (115, .int .i64 k)])
    (fun k w => k ≤ yvs.length ∧ Chg G w18 w ∧ KeepC w18 w) (fun k => yvs.length - k) 0 (by repeat (first | exact trivial | refine ⟨rfl, ?_⟩)) ⟨Nat.zero_le _, hC, hK⟩ ?_
  clear hC hK hb11k
  rintro k wk ⟨hk, hC, hK⟩
  (repeat (first | (apply WL.pure; rfl; rfl; rfl) | (apply WL.nil) | (apply EX.thenN) | (apply CW.seq) | (apply CW.region)))
  refine CW.cond rfl (fun h => ?_) (fun h => ?_)
  · have hk' : k < yvs.length := by simp at h; omega
    (repeat (first | (apply EX.thenN) | (apply CW.seq) | (apply CW.region) | (apply CW.block) | (apply CW.skip)))
    refine WL.elemON rfl rfl rfl rfl rfl (hoy.chg hC (fun b hb h => (hG1 b h).2.2.2 hb)) hk' (fun _ => rfl) (fun u q hu => ?_)
    obtain ⟨rfl, _⟩ := hu.raw
    (repeat (first | (apply WL.pure; rfl; rfl; rfl) | (apply WL.nil) | (apply EX.thenN) | (apply CW.region)))
    refine WL.build (parts := []) rfl rfl rfl rfl ?_
    refine WL.call rfl rfl rfl (spoilTE_ok wk ((hRy k hk').keep hK)) ?_
    rintro _ w' ⟨hC', hK'⟩
    (repeat (first | (apply WL.add; rfl; rfl; rfl; rfl; omega; omega) | (apply WL.pure; rfl; rfl; rfl) | (apply WL.nil) | (apply EX.thenN) | (apply CW.region) | (apply EX.inN)))
    exact EX.back (k + 1) (by repeat (first | exact trivial | refine ⟨rfl, ?_⟩)) ⟨hk', hC.step hC' (fun b h => .inl h), hK.trans hK'⟩ (by omega)
  clear h hk hRx hRy hox hoy hK
  have hb2 : Blk wk _ _ _ := (hC.block _ (by omega) (fun h => by have := hG1 _ h; omega)).trans hb2
  have hb13 : Blk wk _ _ _ := (hC.block _ (by have := hb13.lt; omega) (fun h => by have := hG1 _ h; omega)).trans hb13
  have hLx2 := hLx2.to (w' := wk) fun b h1 h2 => hC.block b (by omega) (fun h => by have := hG1 _ h; omega)
  have hLy2 := hLy2.to (w' := wk) fun b h1 h2 => hC.block b (by omega) (fun h => by have := hG1 _ h; omega)
  have hEk : Ext w0 wk := hC.ext hE18 (fun b h => by have := hG1 _ h; omega)
  have zk := hC.size
  have hen := (hen.extN e7_18).chg hC (fun b hb h => by have := hG1 _ h; have := hel b hb; omega)
  clear hb11 hC hG1 hE18 hE16 hE15 hE11 hE9 hE8 hE7 hE6 hE5 hens
  (repeat (first | (apply EX.thenN) | (apply CW.seq) | (apply CW.region) | (apply WL.ldA; rfl; rfl; rfl; assumption; rfl) | (apply CW.exit) | (apply EX.thenX) | (apply EX.inX)))
  refine WL.call rfl rfl rfl (Explore_own wk (hs.up hEk) (hf.up hEk) 2 50) ?_
  rintro _ w20 ⟨x3, y3, xvs3, yvs3, rfl, hLx3, hLy3, e20⟩
  obtain ⟨xo3, xc3, rfl⟩ := hLx3.own.val
  obtain ⟨yo3, yc3, rfl⟩ := hLy3.own.val
  have hb2 := hb2.ext e20
  have hb13 := hb13.ext e20
  have hE20 := hEk.trans e20
  (repeat (apply WL.pure; rfl; rfl; rfl))
  refine WL.alloc rfl rfl (fun w21 hb19 e21 => ?_)
  skip
  refine WL.st rfl rfl rfl hb19 rfl rfl (ones_of rfl) (fun w22 hb19 hg22 => ?_)
  have e22 : Ext w20 w22 := Below.grown e21 hg22 e21.size (fun g hg => by cases hg; exact Nat.le_refl _)
  have hb2 := hb2.ext e22
  have hb13 := hb13.ext e22
  have hE22 := hE20.trans e22
  have ek22 := e20.trans e22
  clear e21 hg22
  (repeat (first | (apply WL.pure; rfl; rfl; rfl) | (apply WL.nil) | (apply EX.thenN) | (apply CW.seq) | (apply CW.region) | (apply WL.ldA; rfl; rfl; rfl; assumption; rfl)))
  refine WL.call rfl rfl rfl (Enabled_ok w22 (hs.up hE22) (hf.up hE22) (hm.up hE22)) ?_
  rintro _ w23 ⟨en21, rfl, hen21, e23⟩
  rw [hEN] at hen21
  obtain ⟨p21, q21, rfl⟩ := hen21.val
  have hb2 := hb2.ext e23
  have hb13 := hb13.ext e23
  have hb19 := hb19.ext e23
  have hE23 := hE22.trans e23
  have ek23 := ek22.trans e23
  have e20_23 := e22.trans e23
  have hen23 := hen.extN ek23
  have l20 := e20.size
  have l2023 := e20_23.size
  have hl21 := fun g hg => hen21.lt g hg
  have hl9 := fun g hg => hen.lt g hg
  have z22 := ek22.size
  (repeat (first | (apply WL.pure; rfl; rfl; rfl) | (apply WL.nil) | (apply EX.thenN) | (apply CW.seq) | (apply CW.region)))
  refine WL.call rfl rfl rfl (spoilT_ok w23 (hen23.rowT (F := fun b => w6.heap.size ≤ b ∧ b < wk.heap.size ∧ Value.ownBlock (.slice en1 enl.length en2) = some b) (fun g hg => ⟨(hl9 g hg).1, (hl9 g hg).2.1, hg⟩)) (-1)) ?_
  rintro _ w24 ⟨hC, hK⟩
  have hEn : ∀ g, Value.ownBlock (.slice en1 enl.length en2) = some g → g < w7.heap.size := fun g hg => (hel g hg).2.1
  have hb2 : Blk w24 _ _ _ := (hC.block _ (by omega) (fun h => by have := h.1; omega)).trans hb2
  have hb13 : Blk w24 _ _ _ := (hC.block _ (by have := hb13.lt; omega) (fun h => by have := hEn _ h.2.2; omega)).trans hb13
  have hb19 : Blk w24 _ _ _ := (hC.block _ hb19.lt (fun h => by have := hEn _ h.2.2; omega)).trans hb19
  have hLx2 := hLx2.to (w' := w24) fun b h1 h2 => (hC.block b (by have := ek23.size; omega) (fun h => by have := hEn _ h.2.2; omega)).trans (ek23.block b (by omega))
  have hLy2 := hLy2.to (w' := w24) fun b h1 h2 => (hC.block b (by have := ek23.size; omega) (fun h => by have := hEn _ h.2.2; omega)).trans (ek23.block b (by omega))
  have hen21 := hen21.chg hC (fun b hb h => by have := hEn _ h.2.2; have := (hl21 b hb).1; omega)
  have hE24 : Ext w0 w24 := hC.ext hE23 (fun b h => by have := h.1; omega)
  have z24 := hC.size
  (repeat (first | (apply WL.pure; rfl; rfl; rfl) | (apply WL.nil) | (apply EX.thenN) | (apply CW.seq) | (apply CW.region) | (apply WL.ldA; rfl; rfl; rfl; assumption; rfl)))
  refine WL.call rfl rfl rfl (Enabled_ok w24 (hs.up hE24) (hf.up hE24) (hm.up hE24)) ?_
  rintro _ w25 ⟨en23, rfl, hen23', e25⟩
  rw [hEN] at hen23'
  obtain ⟨p23, q23, rfl⟩ := hen23'.val
  have hb13 := hb13.ext e25
  have hb19 := hb19.ext e25
  have hE25 := hE24.trans e25
  obtain ⟨_, _, h1, hx2⟩ := (hLx2.rd (F := Old w24) fun b _ h => (show b < w24.heap.size by omega)).sl
  obtain ⟨rfl, hl1, rfl⟩ := Value.slice.inj h1
  obtain ⟨_, _, h2, hy2⟩ := (hLy2.rd (F := Old w24) fun b _ h => (show b < w24.heap.size by omega)).sl
  obtain ⟨rfl, hl2, rfl⟩ := Value.slice.inj h2
  have hLx3 := hLx3.to (w' := w24) fun b h1 h2 => (hC.block b (by omega) (fun h => by have := h.2.1; omega)).trans (e20_23.block b h2)
  have hLy3 := hLy3.to (w' := w24) fun b h1 h2 => (hC.block b (by omega) (fun h => by have := h.2.1; omega)).trans (e20_23.block b h2)
  obtain ⟨_, _, h3, hx3⟩ := (hLx3.rd (F := Old w24) fun b _ h => (show b < w24.heap.size by omega)).sl
  obtain ⟨rfl, hl3, rfl⟩ := Value.slice.inj h3
  obtain ⟨_, _, h4, hy3⟩ := (hLy3.rd (F := Old w24) fun b _ h => (show b < w24.heap.size by omega)).sl
  obtain ⟨rfl, hl4, rfl⟩ := Value.slice.inj h4
  rw [hl1, hl2] at hb13
  rw [hl3, hl4] at hb19
  have hss := SameSpace_ok w25 (hx2.up e25) (hy2.up e25) (hx3.up e25) (hy3.up e25)
  unfold spV at hss
  rw [beq_self_eq_true, beq_self_eq_true] at hss
  (repeat (first | (apply WL.pure; rfl; rfl; rfl) | (apply WL.nil) | (apply EX.thenN) | (apply CW.seq) | (apply CW.region) | (apply WL.ldA; rfl; rfl; rfl; assumption; rfl)))
  refine WL.call rfl rfl rfl hss ?_
  rintro _ w26 ⟨rfl, e26⟩
  have h21 : Sl w24 (Old w24) p21 q21 enl := by
    obtain ⟨a, b, e, k⟩ := hen21.oldN.sl
    obtain ⟨rfl, _, rfl⟩ := Value.slice.inj e
    exact k
  have h23 : Sl w25 (Old w25) p23 q23 enl := by
    obtain ⟨a, b, e, k⟩ := hen23'.oldN.sl
    obtain ⟨rfl, _, rfl⟩ := Value.slice.inj e
    exact k
  (repeat (apply WL.pure; rfl; rfl; rfl))
  rw [show (chkM (ns, fl) m == chkM (ns, fl) m) = true from beq_self_eq_true _]
  (repeat (apply WL.pure; rfl; rfl; rfl))
  refine WL.call rfl rfl rfl (equal_int w26 (h21.up (e25.trans e26)) (h23.up e26)) ?_
  rintro _ w27 ⟨rfl, e27⟩
  rw [show (enl == enl) = true from beq_self_eq_true _]
  (repeat (first | (apply WL.pure; rfl; rfl; rfl) | (apply WL.nil) | (apply EX.thenN) | (apply CW.ret)))
  exact EX.ret1 rfl rfl ⟨rfl, (hE25.trans e26).trans e27⟩
end Go.Proofs.Ytadbkppgaekmpaa
/-
  From the form's readings of the arguments to our own, and back: what a law's proof needs at its two ends.
-/
set_option linter.unusedVariables false
set_option linter.unusedSimpArgs false
namespace Go.Proofs.Ytadbkppgaekmpaa
open Go.RowKit Go.ChangeShapes Go.WideShapes Go.ChangeAt

theorem bulk_one {H : Type} (d : DataW H) : 1 ≤ Rows.uptoBulk d := by
  cases d with
  | lit l => cases l <;> simp [Rows.uptoBulk]
  | nil => simp [Rows.uptoBulk]
  | ptr d => simp [Rows.uptoBulk]
  | slice elems spare => simp [Rows.uptoBulk]
  | agg parts => simp [Rows.uptoBulk]
  | iface t d => simp [Rows.uptoBulk]
  | map entries => simp [Rows.uptoBulk]
  | held h => simp [Rows.uptoBulk]
theorem bulk_app {H : Type} (l r : List (DataW H)) : Rows.uptoBulkAll (l ++ r) = Rows.uptoBulkAll l + Rows.uptoBulkAll r := by
  induction l with
  | nil => simp [Rows.uptoBulkAll]
  | cons x l ih => simp only [List.cons_append, Rows.uptoBulkAll, ih]; omega

/-- the bound, as the form hands it over -/
theorem bound {H : Type} {l : List (DataW H)} (hk : Rows.uptoSmall H l = true) : Rows.uptoBulkAll l ≤ 1048576 := by
  simpa [Rows.uptoSmall] using hk
/-- how many values a value of ours holds -/
class Bk (α : Type) where
  bk : α → Nat
abbrev bk {α : Type} [Bk α] : α → Nat := Bk.bk
instance iOpen1 : Bk Int := ⟨fun _ => 1⟩
instance iOpen2 : Bk Bool := ⟨fun _ => 1⟩
instance iOpen3 : Bk Nat := ⟨fun _ => 1⟩
instance iOpen4 : Bk ByteArray := ⟨fun s => s.size + 1⟩
def bkL {α : Type} [Bk α] : List α → Nat
  | [] => 0
  | x :: r => bk x + bkL r
instance iOpen8 {α : Type} [Bk α] : Bk (List α) := ⟨fun l => bkL l + 1⟩

/-- what the form reads at a type, we read, too -/
class Opn (P : Program) (t : TypeId) (α : Type) [Rep α] [Bk α] : Prop where
  op : ∀ {H : Type} {enc : TypeId × Value → H} {w : World} {fuel : Nat} {cs : List Value} {d : DataW H} {ps : List MemPlace}, DataW.trod enc P w 0 (fun _ => true) true fuel t cs = some (d, ps) → ∃ x : α, rd w (Old w) cs x ∧ bk x ≤ Rows.uptoBulk d

theorem Opn.int {P : Program} {t : TypeId} (h : P.underlying t = some (.int .i64)) : Opn P t Int where
  op := by
    intro H enc w fuel cs d ps hd
    cases fuel with
    | zero => simp [DataW.trod] at hd
    | succ fuel =>
      unfold DataW.trod at hd
      rw [h] at hd
      split at hd <;> try (simp at *; done)
      rename_i k k' n e1
      simp at e1
      split at hd
      · rename_i hk
        simp at hd
        obtain ⟨rfl, rfl⟩ := hd
        exact ⟨n, by rw [hk.1, ← e1]; rfl, bulk_one _⟩
      · cases hd
theorem Opn.bool {P : Program} {t : TypeId} (h : P.underlying t = some .bool) : Opn P t Bool where
  op := by
    intro H enc w fuel cs d ps hd
    cases fuel with
    | zero => simp [DataW.trod] at hd
    | succ fuel =>
      unfold DataW.trod at hd
      rw [h] at hd
      split at hd <;> try (simp at *; done)
      rename_i b e1
      simp at hd
      obtain ⟨rfl, rfl⟩ := hd
      exact ⟨b, rfl, bulk_one _⟩
theorem Opn.u64 {P : Program} {t : TypeId} (h : P.underlying t = some (.int .u64)) : Opn P t Nat where
  op := by
    intro H enc w fuel cs d ps hd
    cases fuel with
    | zero => simp [DataW.trod] at hd
    | succ fuel =>
      unfold DataW.trod at hd
      rw [h] at hd
      split at hd <;> try (simp at *; done)
      rename_i k k' n e1
      simp at e1
      split at hd
      · rename_i hk
        simp at hd
        obtain ⟨rfl, rfl⟩ := hd
        have hwf := hk.2
        rw [← e1] at hwf
        have hb : 0 ≤ n ∧ n ≤ 18446744073709551615 := by simpa [Lit.wf, IntKind.min, IntKind.max, IntKind.signed, IntKind.bits] using hwf
        refine ⟨n.toNat, ⟨?_, by omega⟩, bulk_one _⟩
        rw [hk.1, ← e1, Int.toNat_of_nonneg hb.1]
      · cases hd
theorem Opn.string {P : Program} {t : TypeId} (h : P.underlying t = some .string) : Opn P t ByteArray where
  op := by
    intro H enc w fuel cs d ps hd
    cases fuel with
    | zero => simp [DataW.trod] at hd
    | succ fuel =>
      unfold DataW.trod at hd
      rw [h] at hd
      split at hd <;> try (simp at *; done)
      rename_i s e1
      split at hd
      · rename_i hk
        simp at hd
        obtain ⟨rfl, rfl⟩ := hd
        refine ⟨s, ⟨rfl, hk⟩, ?_⟩
        show s.size + 1 ≤ _
        simp only [Rows.uptoBulk]
        have e : s.data.toList.length = s.size := by rw [Array.length_toList]; rfl
        omega
      · cases hd

theorem mapM_range {β : Type} (f : Nat → Option β) : ∀ (n : Nat) (es : List β), (List.range n).mapM f = some es → es.length = n ∧ ∀ i (h : i < es.length), f i = some es[i]
  | 0, es, h => by
    simp at h; subst h
    exact ⟨rfl, fun i hi => absurd hi (by simp)⟩
  | n + 1, es, h => by
    rw [List.range_succ, List.mapM_append] at h
    simp only [List.mapM_cons, List.mapM_nil, Option.bind_eq_bind, Option.pure_def] at h
    cases h1 : (List.range n).mapM f with
    | none => rw [h1] at h; cases h
    | some l =>
      rw [h1] at h
      cases h2 : f n with
      | none => rw [h2] at h; cases h
      | some y =>
        rw [h2] at h
        simp at h
        subst h
        obtain ⟨hl, hi⟩ := mapM_range f n l h1
        refine ⟨by simp [hl], fun i hlt => ?_⟩
        by_cases hi' : i < l.length
        · rw [List.getElem_append_left hi']; exact hi i hi'
        · have : i = n := by simp at hlt; omega
          subst this
          rw [List.getElem_append_right (by omega)]
          simpa [hl] using h2
theorem mapM_cells {w : World} {a : Addr} {n : Nat} {cs : List Value} (h : w.cells? 0 a n = some cs) : cs.length = n ∧ ∀ j (hj : j < cs.length), w.cell? (a.add j) = some cs[j] := by
  unfold World.cells? at h
  rw [if_pos (Nat.zero_le _)] at h
  exact mapM_range _ n cs h

theorem slice_op {P : Program} {t e : TypeId} {α : Type} [Rep α] [Bk α] [hs : IsS P t e] [ht : IsT P e α] {H : Type} {enc : TypeId × Value → H} {w : World} {fuel : Nat}
    (ho : ∀ {cs : List Value} {d : DataW H} {ps : List MemPlace}, DataW.trod enc P w 0 (fun _ => true) true fuel e cs = some (d, ps) → ∃ x : α, rd w (Old w) cs x ∧ bk x ≤ Rows.uptoBulk d)
    {cs : List Value} {d : DataW H} {ps : List MemPlace} (hd : DataW.trod enc P w 0 (fun _ => true) true (fuel + 1) t cs = some (d, ps)) : ∃ x : List α, rd w (Old w) cs x ∧ bk x ≤ Rows.uptoBulk d := by
  unfold DataW.trod at hd
  rw [hs.ok] at hd
  obtain ⟨i0, hi1, hi2⟩ := IsT.info (P := P) (t := e) (α := α)
  have hsz : P.cellsOf e = sz α := by simp [Program.cellsOf, hi1, hi2]
  have hp : 0 < sz α := Rep.pos
  split at hd <;> try (simp at *; done)
  · simp at hd
    obtain ⟨rfl, rfl⟩ := hd
    exact ⟨[], ⟨none, 0, rfl, by simp, by simp [maxLen], fun _ => rfl, fun i hi => absurd hi (by simp)⟩, bulk_one _⟩
  · rename_i e' a len cap e1
    cases e1
    simp only at hd
    split at hd
    · rename_i hc
      obtain ⟨_, hle, hmx⟩ := hc
      rw [hsz] at hd
      cases hm : (List.range len).mapM (fun i => (w.cells? 0 (a.add (i * sz α)) (sz α)).bind (DataW.trod enc P w 0 (fun _ => true) true fuel e)) with
      | none => rw [hm] at hd; cases hd
      | some elems =>
        rw [hm] at hd
        simp only [Option.bind_some, if_true] at hd
        obtain ⟨rest, _, hd2⟩ := Option.map_eq_some_iff.1 hd
        simp only [Prod.mk.injEq] at hd2
        obtain ⟨rfl, _⟩ := hd2
        obtain ⟨hlen, hget⟩ := mapM_range _ len elems hm
        -- one element at a time
        have one : ∀ i (h : i < elems.length), ∃ x : α, (∃ b off, some a = some ⟨b, off, none⟩ ∧ Old w b ∧ ∃ es, Cells w b (off + i * sz α) es ∧ rd w (Old w) es x) ∧ bk x ≤ Rows.uptoBulk (elems[i]).1 := by
          intro i hi
          have h1 := hget i hi
          cases hcs : w.cells? 0 (a.add (i * sz α)) (sz α) with
          | none => rw [hcs] at h1; cases h1
          | some es =>
            rw [hcs] at h1
            simp only [Option.bind_some] at h1
            obtain ⟨x, hr, hb⟩ := ho (d := (elems[i]).1) (ps := (elems[i]).2) h1
            obtain ⟨hl, hc⟩ := mapM_cells hcs
            have h0 := hc 0 (by omega)
            have hspot : a.spot = none := by
              cases hsp : a.spot with
              | none => rfl
              | some k =>
                -- the first element's first cell lies at the address itself
                have h2 := hget 0 (by omega)
                cases hcs0 : w.cells? 0 (a.add (0 * sz α)) (sz α) with
                | none => rw [hcs0] at h2; cases h2
                | some es0 =>
                  obtain ⟨hl0, hc0⟩ := mapM_cells hcs0
                  have h3 := hc0 0 (by omega)
                  have e3 : (a.add (0 * sz α)).add 0 = a := by simp [Addr.add]
                  rw [e3] at h3
                  unfold World.cell? at h3
                  split at h3
                  · simp [hsp] at h3
                  · cases h3
            obtain ⟨b, off, sp⟩ := a
            simp only at hspot
            subst hspot
            rw [WideShapes.add_plain] at hc h0
            have hblt : b < w.heap.size := World.block_lt_of_cell? w _ h0
            refine ⟨x, ⟨b, off, rfl, hblt, es, ?_, hr⟩, hb⟩
            intro j u hu
            obtain ⟨hj, rfl⟩ := List.getElem?_eq_some_iff.1 hu
            have := hc j hj
            rwa [WideShapes.add_plain] at this
        have all : ∀ k, k ≤ elems.length → ∃ xs : List α, xs.length = k ∧ (∀ i (h : i < xs.length), ∃ b off, some a = some ⟨b, off, none⟩ ∧ Old w b ∧ ∃ es, Cells w b (off + i * sz α) es ∧ rd w (Old w) es xs[i]) ∧ bkL xs ≤ Rows.uptoBulkAll ((elems.map (·.1)).take k) := by
          intro k
          induction k with
          | zero => intro _; exact ⟨[], rfl, fun i hi => absurd hi (by simp), by simp [bkL, Rows.uptoBulkAll]⟩
          | succ k ih =>
            intro hk
            obtain ⟨xs, h1, h2, h3⟩ := ih (by omega)
            obtain ⟨x, h4, h5⟩ := one k (by omega)
            refine ⟨xs ++ [x], by simp [h1], ?_, ?_⟩
            · intro i hi
              by_cases hlt : i < xs.length
              · rw [List.getElem_append_left hlt]; exact h2 i hlt
              · have : i = k := by simp at hi; omega
                subst this
                rw [List.getElem_append_right (by omega)]
                simpa [h1] using h4
            · have hb : ∀ (l : List α), bkL (l ++ [x]) = bkL l + bk x := by
                intro l; induction l with
                | nil => simp [bkL]
                | cons y l ih => simp only [List.cons_append, bkL, ih]; omega
              rw [hb, List.take_succ_eq_append_getElem (by simp; omega), bulk_app]
              simp only [List.getElem_map, Rows.uptoBulkAll]
              omega
        obtain ⟨xs, h1, h2, h3⟩ := all elems.length (Nat.le_refl _)
        have hx : xs.length = len := by omega
        refine ⟨xs, ⟨some a, cap, by rw [hx], ⟨by omega, hmx, (fun h => by cases h), h2⟩⟩, ?_⟩
        show bkL xs + 1 ≤ _
        rw [List.take_of_length_le (by simp)] at h3
        simp only [Rows.uptoBulk]
        omega
    · cases hd

theorem Opn.slice {P : Program} {t e : TypeId} {α : Type} [Rep α] [Bk α] [hs : IsS P t e] [ht : IsT P e α] [ho : Opn P e α] : Opn P t (List α) where
  op := by
    intro H enc w fuel cs d ps hd
    cases fuel with
    | zero => simp [DataW.trod] at hd
    | succ fuel => exact slice_op (e := e) (fun h => ho.op h) hd

theorem okWide_form {P : Program} {w : World} {r : Reach} {base : Nat} {t : TypeId} {v : Value} {d : TypeDesc} (hu : P.underlying t = some d) (h : Value.okWide P w r base t v) :
    (aggD d = false → v.oneCell' = true) ∧ (aggD d = true → ∃ cs, v = .agg cs) := by
  unfold Value.okWide at h
  rw [hu] at h
  constructor
  · intro hd
    cases v <;> first
      | rfl
      | (exfalso; cases d <;> simp [aggD] at hd <;> simp [Cell.okWide, Cell.ok, hu] at h)
  · intro hd
    cases d <;> simp [aggD] at hd <;> (obtain ⟨cs, rfl, _⟩ := h; exact ⟨cs, rfl⟩)
/-- an argument, opened -/
theorem Opn.arg {P : Program} {t : TypeId} {α : Type} [Rep α] [Bk α] [ht : IsT P t α] [ho : Opn P t α] {H : Type} {enc : TypeId × Value → H} {w : World} {v : Value} {d : DataW H} {ps : List MemPlace} {r : Reach} {base : Nat}
    (hv : Value.okWide P w r base t v) (h : DataW.Trod enc P w 0 (fun _ => true) true t v d ps) : ∃ x : α, Rd w (Old w) v x ∧ bk x ≤ Rows.uptoBulk d := by
  obtain ⟨i, dd, _, _, h3, h4⟩ := ht.ok
  obtain ⟨f1, f2⟩ := okWide_form h3 hv
  obtain ⟨fuel, hf⟩ := h
  obtain ⟨x, hr, hb⟩ := ho.op hf
  refine ⟨x, ⟨v.cells.toList, ?_, hr⟩, hb⟩
  unfold vOf
  split
  · rename_i he
    obtain ⟨cs, rfl⟩ := f2 (h4.trans he)
    simp [Value.cells]
  · rename_i he
    have := f1 (h4.trans he)
    cases v <;> first | rfl | (simp [Value.oneCell'] at this)

theorem trodAll_below {H : Type} {enc : TypeId × Value → H} {P : Program} (hl : laidOutB P = true) {W W' : World} (hb : Ext W W') : ∀ {ts : List TypeId} {vs : List Value} {ds : List (DataW H)} {ps : List MemPlace},
    (∀ t ∈ ts, P.readableRec t = true ∧ t < P.types.size) → DataW.TrodAll enc P W 0 (fun _ => true) true ts vs ds ps → (∀ x ∈ ps, x.block < W.heap.size) →
    DataW.TrodAll enc P W' 0 (fun b => decide (b < W.heap.size)) true ts vs ds ps
  | [], [], [], _, _, h, _ => h
  | t :: ts, v :: vs, d :: ds, ps, hr, h, hlt => by
    obtain ⟨p, q, h1, h2, rfl⟩ := h
    exact ⟨p, q, Below.trod hl (hr t (by simp)).1 (hr t (by simp)).2 h1 hb (fun x hx => hlt x (by simp [hx])),
      trodAll_below hl hb (fun t ht => hr t (by simp [ht])) h2 (fun x hx => hlt x (by simp [hx])), rfl⟩
  | [], [], _ :: _, _, _, h, _ => h.elim
  | [], _ :: _, [], _, _, h, _ => h.elim
  | [], _ :: _, _ :: _, _, _, h, _ => h.elim
  | _ :: _, [], [], _, _, h, _ => h.elim
  | _ :: _, [], _ :: _, _, _, h, _ => h.elim
  | _ :: _, _ :: _, [], _, _, h, _ => h.elim

/-- the law's end: it returned true, and only new memory was made -/
theorem law_post {H : Type} {enc : TypeId × Value → H} {P : Program} {fn : Func} {s : ChangeSpec} {W W' : World} {args : Array Value} {ds gs : List (DataW H)} {before : List MemPlace} {tb : TypeId}
    (hl : laidOutB P = true) (hW : DataW.Whole enc P fn.params.toList s.vars false W args.toList ds gs before) (hv : s.vars = []) (hr : ∀ t ∈ fn.params.toList, P.readableRec t = true ∧ t < P.types.size)
    (hsp : (s.fn H (ds ++ gs)).results = [.lit (.bool true)] ∧ (s.fn H (ds ++ gs)).args = ds ∧ (s.fn H (ds ++ gs)).vars = []) (hres : fn.resultTypes = #[tb]) (hb : P.underlying tb = some .bool) (hE : Ext W W') :
    s.post enc P fn false true false false W args (.bool true) W' := by
  have hlt := hW.lt
  have hW' := hW
  obtain ⟨p, q, hA, hV, rfl, _, _⟩ := hW
  rw [hv] at hV
  obtain ⟨e1, e2, e3⟩ := hsp
  refine ⟨ds, gs, p ++ q, [], p, [], hW', ?_, ?_, ?_, hE.frame _, fun h => by cases h⟩
  · rw [e1, hres]
    exact trodAll_mk1 (shut_bool hb true)
  · rw [e2]
    exact trodAll_below hl hE hr hA (fun x hx => hlt x (by simp [hx]))
  · rw [e3, hv]
    exact rfl
/- structs -/
instance iOpen9 {α β : Type} [Bk α] [Bk β] : Bk (α × β) := ⟨fun x => bk x.1 + bk x.2⟩
/-- a list of fields, from an offset on -/
class OpnFs (P : Program) (fs : List (TypeId × Nat)) (off : Nat) (α : Type) [Rep α] [Bk α] : Prop where
  op : ∀ {H : Type} {enc : TypeId × Value → H} {w : World} {fuel : Nat} {cs : List Value} {xs : List (DataW H × List MemPlace)}, off + sz α = cs.length →
    (fs.mapM fun f => DataW.trod enc P w 0 (fun _ => true) true fuel f.1 ((cs.drop f.2).take (P.cellsOf f.1))) = some xs → ∃ x : α, rd w (Old w) (cs.drop off) x ∧ bk x ≤ Rows.uptoBulkAll (xs.map (·.1))
theorem cellsOf_T {P : Program} {t : TypeId} {α : Type} [Rep α] [ht : IsT P t α] : P.cellsOf t = sz α := by
  obtain ⟨i, h1, h2⟩ := IsT.info (P := P) (t := t) (α := α)
  simp [Program.cellsOf, h1, h2]
instance OpnFs.one {P : Program} {t : TypeId} {off : Nat} {α : Type} [Rep α] [Bk α] [ht : IsT P t α] [ho : Opn P t α] : OpnFs P [(t, off)] off α where
  op := by
    intro H enc w fuel cs xs hl h
    simp only [List.mapM_cons, List.mapM_nil, Option.bind_eq_bind, Option.pure_def] at h
    cases h1 : DataW.trod enc P w 0 (fun _ => true) true fuel t ((cs.drop off).take (P.cellsOf t)) with
    | none => rw [h1] at h; cases h
    | some d =>
      rw [h1] at h; simp at h; subst h
      obtain ⟨d, ps⟩ := d
      obtain ⟨x, hr, hb⟩ := ho.op h1
      rw [cellsOf_T (α := α), List.take_of_length_le (by rw [List.length_drop]; omega)] at hr
      exact ⟨x, hr, by simpa [Rows.uptoBulkAll] using hb⟩
instance OpnFs.cons {P : Program} {t : TypeId} {off : Nat} {f : TypeId × Nat} {fs : List (TypeId × Nat)} {α β : Type} [Rep α] [Bk α] [Rep β] [Bk β] [ht : IsT P t α] [ho : Opn P t α] [hr : OpnFs P (f :: fs) (off + sz α) β] : OpnFs P ((t, off) :: f :: fs) off (α × β) where
  op := by
    intro H enc w fuel cs xs hl h
    rw [List.mapM_cons] at h
    simp only [Option.bind_eq_bind, Option.pure_def] at h
    have hl' : off + sz α + sz β = cs.length := by
      have : sz (α × β) = sz α + sz β := rfl
      omega
    cases h1 : DataW.trod enc P w 0 (fun _ => true) true fuel t ((cs.drop off).take (P.cellsOf t)) with
    | none => rw [h1] at h; cases h
    | some d =>
      rw [h1] at h
      simp only [Option.bind_some] at h
      obtain ⟨ys, h2, h3⟩ := Option.bind_eq_some_iff.1 h
      cases h3
      obtain ⟨d, ps⟩ := d
      obtain ⟨x, hx, hb⟩ := ho.op h1
      obtain ⟨y, hy, hc⟩ := hr.op hl' h2
      rw [cellsOf_T (α := α)] at hx
      refine ⟨(x, y), ⟨(cs.drop off).take (sz α), cs.drop (off + sz α), ?_, hx, hy⟩, ?_⟩
      · rw [← List.drop_drop, List.take_append_drop]
      · show bk x + bk y ≤ _
        simp only [List.map_cons, Rows.uptoBulkAll]
        omega
def stFact (P : Program) (t : TypeId) : Option (List (TypeId × Nat)) := match P.underlying t with
  | some (.struct fs) => some (fs.toList.map fun f => (f.type, f.offset))
  | _ => none
theorem Opn.struct {P : Program} {t : TypeId} {fs : List (TypeId × Nat)} {α : Type} [Rep α] [Bk α] [ht : IsT P t α] [hf : OpnFs P fs 0 α] (h : stFact P t = some fs) : Opn P t α where
  op := by
    intro H enc w fuel cs d ps hd
    unfold stFact at h
    split at h
    · rename_i gs hu
      cases h
      cases fuel with
      | zero => simp [DataW.trod] at hd
      | succ fuel =>
        unfold DataW.trod at hd
        rw [hu] at hd
        simp only at hd
        split at hd
        · rename_i hl
          obtain ⟨xs, h1, h2⟩ := Option.map_eq_some_iff.1 hd
          cases h2
          have := hf.op (enc := enc) (w := w) (fuel := fuel) (cs := cs) (xs := xs) (by rw [hl, cellsOf_T (α := α)]; omega) (by rw [List.mapM_map]; exact h1)
          obtain ⟨x, hr, hb⟩ := this
          exact ⟨x, by simpa using hr, by simp only [Rows.uptoBulk]; omega⟩
        · cases hd
    · cases h
instance iOpen5 : Opn Try.prog 3 Int := Opn.int Try.underlying3
instance iOpen6 : Opn Try.prog 22 (List Int) := Opn.slice
instance iOpen7 : Opn Try.prog 23 (List (List Int)) := Opn.slice
end Go.Proofs.Ytadbkppgaekmpaa
/-
  The types of the arguments, as the form reads them.
-/
set_option linter.unusedVariables false
namespace Go.Proofs.Ytadbkppgaekmpaa
open Go.RowKit

instance iOpn1 : Opn Try.prog 4 Bool := Opn.bool Try.underlying4
instance iOpn2 : Opn Try.prog 33 Nat := Opn.u64 Try.underlying33
instance iOpn3 : Opn Try.prog 9 ByteArray := Opn.string Try.underlying9
instance iOpn4 : Opn Try.prog 27 Int := Opn.int Try.underlying27
instance iOpn5 : Opn Try.prog 97 (List Bool) := Opn.slice
instance iOpn6 : Opn Try.prog 24 (List Nat) := Opn.slice
instance iOpn10 : Opn Try.prog 59 (ByteArray × Int) := Opn.struct (fs := [(9, 0), (3, 1)]) (by kernel_rfl)
instance iOpn11 : Opn Try.prog 62 (Int × Int) := Opn.struct (fs := [(3, 0), (3, 1)]) (by kernel_rfl)
instance iOpn12 : Opn Try.prog 92 (Int × Int × Int) := Opn.struct (fs := [(3, 0), (3, 1), (3, 2)]) (by kernel_rfl)
instance iOpn13 : Opn Try.prog 77 (Int × Int) := Opn.struct (fs := [(3, 0), (3, 1)]) (by kernel_rfl)
instance iOpn14 : Opn Try.prog 50 (List (ByteArray × Int)) := Opn.slice
instance iOpn15 : Opn Try.prog 51 (List (Int × Int)) := Opn.slice
instance iOpn16 : Opn Try.prog 86 (List (Int × Int × Int)) := Opn.slice
instance iOpn17 : Opn Try.prog 74 (List (Int × Int)) := Opn.slice
instance iOpn18 : Opn Try.prog 42 (List Nat × List Nat) := Opn.struct (fs := [(24, 0), (24, 1)]) (by kernel_rfl)
instance iOpn19 : Opn Try.prog 101 (List Int × List Int) := Opn.struct (fs := [(22, 0), (22, 1)]) (by kernel_rfl)
instance iOpn22 : Opn Try.prog 81 (List Int × List (List Int) × List Nat × List (List Int)) := Opn.struct (fs := [(22, 0), (23, 1), (24, 2), (23, 3)]) (by kernel_rfl)
instance iOpn23 : Opn Try.prog 26 (List Int × List (List Int) × List Nat × List Nat × List (List Int)) := Opn.struct (fs := [(22, 0), (23, 1), (24, 2), (24, 3), (23, 4)]) (by kernel_rfl)
instance iOpn24 : Opn Try.prog 53 (List (ByteArray × Int) × List (Int × Int)) := Opn.struct (fs := [(50, 0), (51, 1)]) (by kernel_rfl)
instance iOpn25 : Opn Try.prog 116 (Bool × List Int × List Int) := Opn.struct (fs := [(4, 0), (22, 1), (22, 2)]) (by kernel_rfl)
end Go.Proofs.Ytadbkppgaekmpaa
/-
  Bulk of lists of numbers.
-/
namespace Go.Proofs.Ytadbkppgaekmpaa
open Go.RowKit

theorem bulk_flat {α : Type} [Bk α] (h : ∀ x : α, bk x = 1) : ∀ l : List α, bkL l = l.length
  | [] => rfl
  | x :: r => by simp only [bkL, h, bulk_flat h r, List.length_cons]; omega
theorem bulk_ge {α : Type} [Bk α] (h : ∀ x : α, 1 ≤ bk x) : ∀ l : List α, l.length ≤ bkL l
  | [] => Nat.le_refl _
  | x :: r => by
    have h1 := bulk_ge h r
    have h2 := h x
    simp only [bkL, List.length_cons]; omega
theorem bulk_l (l : List Int) : l.length + 1 = bk l := by show _ = bkL l + 1; rw [bulk_flat (fun _ => rfl)]
theorem bulk_b (l : List Bool) : l.length + 1 = bk l := by show _ = bkL l + 1; rw [bulk_flat (fun _ => rfl)]
theorem bulk_n (l : List Nat) : l.length + 1 = bk l := by show _ = bkL l + 1; rw [bulk_flat (fun _ => rfl)]
theorem bulk_g : ∀ g : List (List Int), edges g + g.length ≤ bkL g
  | [] => by simp [edges, bkL]
  | l :: g => by
    have h1 := bulk_g g
    have h3 : bk l = l.length + 1 := (bulk_l l).symm
    simp only [bkL, h3, edges, List.map_cons, List.sum_cons, List.length_cons] at h1 ⊢
    omega
theorem bulk_gg (g : List (List Int)) : edges g + g.length + 1 ≤ bk g := by
  have := bulk_g g
  show _ ≤ bkL g + 1
  omega
end Go.Proofs.Ytadbkppgaekmpaa
