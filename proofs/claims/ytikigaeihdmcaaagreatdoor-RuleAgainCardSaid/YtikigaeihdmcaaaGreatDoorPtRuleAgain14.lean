import Derived.Test.YtikigaeihdmcaaaGreatDoorPtRuleAgain13
/-
  ltl.Parse, walked: one part.
-/
set_option linter.unusedVariables false
set_option linter.unusedSimpArgs false
namespace Go.Proofs.YtikigaeihdmcaaaGreatDoor
open Go.RowKit

theorem lprefix_ok (w0 : World) (x : Bys) : Rt Tryz.prog 132 [tV x].toArray w0 fun v w' => v = .int .i64 (preK x) ∧ w0 = w' := by
  refine Rt.enter1 Tryz.func132 Tryz.ntmps132 rfl rfl ?_
  unfold preK
  (repeat (first | (apply WL.pure; rfl; rfl; rfl) | (apply WL.nil) | (apply EX.thenN) | (apply CW.seq) | (apply CW.region) | (apply CW.block)))
  rw [txA_eqd]
  refine CW.cond rfl (fun h => ?_) (fun h => ?_)
  · have h1 : x = [33] := of_decide_eq_true h
    subst h1
    (repeat (first | (apply WL.pure; rfl; rfl; rfl) | (apply WL.nil) | (apply EX.thenN) | (apply CW.seq) | (apply CW.region) | (apply CW.ret) | (apply EX.thenR) | (apply EX.inR)))
    exact EX.ret1 rfl rfl ⟨rfl, rfl⟩
  have n33 : ¬ x = [33] := of_decide_eq_false h
  rw [if_neg n33]
  clear h
  (repeat (first | (apply WL.pure; rfl; rfl; rfl) | (apply WL.nil) | (apply EX.thenN) | (apply CW.seq) | (apply CW.region)))
  rw [txA_eqd]
  refine CW.cond rfl (fun h => ?_) (fun h => ?_)
  · have h1 : x = [88] := of_decide_eq_true h
    subst h1
    (repeat (first | (apply WL.pure; rfl; rfl; rfl) | (apply WL.nil) | (apply EX.thenN) | (apply CW.seq) | (apply CW.region) | (apply CW.ret) | (apply EX.thenR) | (apply EX.inR)))
    exact EX.ret1 rfl rfl ⟨rfl, rfl⟩
  have n88 : ¬ x = [88] := of_decide_eq_false h
  rw [if_neg n88]
  clear h
  (repeat (first | (apply WL.pure; rfl; rfl; rfl) | (apply WL.nil) | (apply EX.thenN) | (apply CW.seq) | (apply CW.region)))
  rw [txA_eqd]
  refine CW.cond rfl (fun h => ?_) (fun h => ?_)
  · have h1 : x = [70] := of_decide_eq_true h
    subst h1
    (repeat (first | (apply WL.pure; rfl; rfl; rfl) | (apply WL.nil) | (apply EX.thenN) | (apply CW.seq) | (apply CW.region) | (apply CW.ret) | (apply EX.thenR) | (apply EX.inR)))
    exact EX.ret1 rfl rfl ⟨rfl, rfl⟩
  have n70 : ¬ x = [70] := of_decide_eq_false h
  rw [if_neg n70]
  clear h
  (repeat (first | (apply WL.pure; rfl; rfl; rfl) | (apply WL.nil) | (apply EX.thenN) | (apply CW.seq) | (apply CW.region)))
  rw [txA_eqd]
  refine CW.cond rfl (fun h => ?_) (fun h => ?_)
  · have h1 : x = [71] := of_decide_eq_true h
    subst h1
    (repeat (first | (apply WL.pure; rfl; rfl; rfl) | (apply WL.nil) | (apply EX.thenN) | (apply CW.seq) | (apply CW.region) | (apply CW.ret) | (apply EX.thenR) | (apply EX.inR)))
    exact EX.ret1 rfl rfl ⟨rfl, rfl⟩
  have n71 : ¬ x = [71] := of_decide_eq_false h
  rw [if_neg n71]
  clear h
  (repeat (first | (apply WL.pure; rfl; rfl; rfl) | (apply WL.nil) | (apply EX.thenN) | (apply CW.seq) | (apply CW.region) | (apply EX.inN) | (apply CW.ret) | (apply CW.skip)))
  exact EX.ret1 rfl rfl ⟨rfl, rfl⟩
def SinL (sa : Nat → Addr) (rb : Nat) (s : Bys) (no : Option Addr) (nc : Nat) (nms : List ByteArray) (n : Nat) : Prop := ∀ m, m ≤ n → ∀ (o : Nat) (st : Bys × Bys) (w : World), Rdr 125 w rb s no nc nms o st → SenH w sa → o ≤ 20 → 10 * mT st + 1 ≤ m →
  Rt Tryz.prog 122 [.pointer (some ⟨rb, 0, none⟩)].toArray w fun v w' => PRl 125 rb s no nc nms o w.heap.size (pSin nms s.length m o st) v w' ∧ w.grownBy w' (some rb)
set_option maxHeartbeats 2000000 in
theorem lsingle_ok {rb : Nat} {s : Bys} {no : Option Addr} {nc : Nat} {nms : List ByteArray} {n o : Nat} {st : Bys × Bys} (w0 : World) (hr : Rdr 125 w0 rb s no nc nms o st) (hs : s.length ≤ 300) {sa : Nat → Addr} (hSn : SenH w0 sa) (hBn : 3 < rb ∧ ∀ i, i < 3 → (sa i).block < rb) (ho : o ≤ 20) (hS : SinL sa rb s no nc nms n) (hF : ForL sa rb s no nc nms n) (hn : 10 * mT st + 1 ≤ n + 1) :
    Rt Tryz.prog 122 [.pointer (some ⟨rb, 0, none⟩)].toArray w0 fun v w' => PRl 125 rb s no nc nms o w0.heap.size (pSin nms s.length (n + 1) o st) v w' ∧ w0.grownBy w' (some rb) := by
  have hrl := hr.lt
  refine Rt.enter1 Tryz.func122 Tryz.ntmps122 rfl rfl ?_
  rw [pSin]
  (repeat (first | (apply CW.seq) | (apply CW.region)))
  refine WL.alloc rfl rfl (fun w2 hb2 e2 => ?_)
  have l2 := hb2.lt
  have hr2 := hr.ext e2
  have hrb := hr2.blk
  have hG := e2.grw (some rb)
  have hS2 : SenH w2 sa := hSn.kept hG (fun b e => by cases e; exact Nat.le_refl _) hBn
  have hXX : ∀ r ∈ [w0.heap.size], r < w2.heap.size := fun r hr => by rw [List.mem_singleton.1 hr]; exact l2
  clear hr
  (repeat (first | (apply WL.pure; rfl; rfl; rfl) | (apply WL.nil) | (apply EX.thenN) | (apply CW.seq) | (apply CW.region) | (apply WL.fa; rfl; rfl; rfl) | (apply WL.nck; rfl; rfl; rfl) | (apply WL.ld; rfl; rfl; rfl; assumption; rfl)))
  refine WL.call rfl rfl rfl (lprefix_ok w2 st.1) ?_
  rintro _ _ ⟨rfl, rfl⟩
  (repeat (first | (apply WL.pure; rfl; rfl; rfl) | (apply WL.nil) | (apply EX.thenN) | (apply CW.seq) | (apply CW.region)))
  refine CW.cond rfl (fun h => ?_) (fun h => ?_)
  · have h1 : 0 < preK st.1 := by have := of_decide_eq_true h; omega
    rw [if_pos h1]
    have hne : st.1 ≠ [] := fun e => by rw [e] at h1; exact absurd h1 (by decide)
    have hm1 := mT_nx1 hne
    (repeat (first | (apply WL.pure; rfl; rfl; rfl) | (apply CW.seq) | (apply CW.region) | (apply WL.makeFunc; rfl; rfl; rfl; rfl)))
    refine WL.call rfl rfl rfl (lwithin_ok w2 hr2 hs ho hS2 hBn (r := pSin nms s.length n (o + 1) (nxT st.2)) (fun ho' w hr hg => FnV.mkM (fs := [_]) (hS n (Nat.le_refl _) (o + 1) _ w hr (hS2.kept hg (fun b e => by cases e; exact Nat.le_refl _) hBn) (by omega) (by omega)))) ?_
    rintro _ w3 ⟨⟨x, e, t, st1, rfl, hx, hr3, hE3⟩, hg3⟩
    have hb2 := hb2.kept hg3 (fun e => by have := Option.some.inj e; omega)
    have hG := grown_tr hG hg3
    have hx : GX w0.heap.size [w0.heap.size] w3 x t := GX.of hx e2.size hXX
    have hE3 := hE3.low (B' := w0.heap.size) e2.size
    have z3 := hg3.size
    obtain ⟨uo, uc, rfl, hk⟩ := Rd.ltl hx
    (repeat (apply WL.pure; rfl; rfl; rfl))
    refine WL.alloc rfl rfl (fun w4 hb4 e4 => ?_)
    have hx := hx.add e4 (Nat.le_refl _)
    have hb2 := hb2.ext e4
    have hr4 := hr3.ext e4
    have hE4 := hE3.ext e4
    have hG := grown_tr hG (e4.grw (some rb))
    have h47 : w0.heap.size < w3.heap.size := by omega
    have l13 := hb4.lt
    generalize hB6 : w3.heap.size = b4 at *
    skip
    refine WL.st rfl rfl rfl hb4 rfl rfl (ones_of rfl) (fun w5 hb45 hg5 => ?_)
    have hx := hx.st hg5 (.inr (List.mem_cons_self ..))
    have hb2 := hb2.kept hg5 (fun e => by have := Option.some.inj e; omega)
    have hr5 := hr4.kept hg5 (fun b e => by cases e; omega)
    have hE5 := hE4.stT hg5 hb4 (by decide)
    have hG := grown_new hG hg5 (by omega)
    have z5 := hg5.size
    (repeat (first | (apply WL.pure; rfl; rfl; rfl) | (apply WL.nil) | (apply EX.thenN) | (apply CW.seq) | (apply CW.region) | (apply WL.ldA; rfl; rfl; rfl; assumption; rfl)))
    refine WL.call rfl rfl rfl (lone_ok w5 (F := GXs w0.heap.size [b4, w0.heap.size] w5) (fun b hb => hb.2.1) (preK st.1) hx) ?_
    rintro _ w11 ⟨hv, e11⟩
    have hv : GX w0.heap.size [b4, w0.heap.size] w11 _ (.mk (preK st.1) 0 [t]) := GX.plus hv e11 (by omega) (fun r hr => by
      simp only [List.mem_cons, List.not_mem_nil, or_false] at hr
      rcases hr with rfl | rfl <;> omega)
    obtain ⟨uo', uc', rfl, hk'⟩ := Rd.ltl hv
    have hb2 := hb2.ext e11
    have hr11 := hr5.ext e11
    have hE := hE5.ext e11
    have hG := grown_tr hG (e11.grw (some rb))
    (repeat (apply WL.pure; rfl; rfl; rfl))
    refine WL.st rfl rfl rfl hb2 rfl rfl (ones_of rfl) (fun w12 hb212 hg12 => ?_)
    (repeat (first | (apply WL.pure; rfl; rfl; rfl) | (apply WL.nil) | (apply EX.thenN) | (apply CW.ret) | (apply EX.thenR)))
    refine EX.retC2 rfl rfl rfl hb212 rfl ⟨⟨_, _, _, st1, rfl, (hv.st hg12 (.inr (by simp))).gl, hr11.kept hg12 (fun b e => by cases e; omega), ?_⟩, grown_new hG hg12 (Nat.le_refl _)⟩
    have hE := hE.stT hg12 hb2 (by decide)
    by_cases h20 : o = 20
    · rw [if_pos h20] at hE ⊢
      rcases hE with ⟨h1, h2⟩ | ⟨c, d, h1, h2⟩
      · cases h2
      · exact .inr ⟨c, d, h1, h2⟩
    · rw [if_neg h20] at hE ⊢
      rcases hE with ⟨h1, h2⟩ | ⟨c, d, h1, h2⟩
      · exact .inl ⟨h1, by rw [h2]⟩
      · exact .inr ⟨c, d, by rw [h1], h2⟩
  have n0 : ¬ 0 < preK st.1 := by have := of_decide_eq_false h; omega
  rw [if_neg n0]
  clear h
  (repeat (first | (apply WL.pure; rfl; rfl; rfl) | (apply WL.nil) | (apply EX.thenN) | (apply CW.seq) | (apply CW.region) | (apply WL.fa; rfl; rfl; rfl) | (apply WL.nck; rfl; rfl; rfl) | (apply WL.ld; rfl; rfl; rfl; assumption; rfl) | (apply CW.skip)))
  rw [txA_eqd]
  refine CW.cond rfl (fun h => ?_) (fun h => ?_)
  · have h1 : st.1 = [40] := of_decide_eq_true h
    rw [if_pos h1]
    have hm1 := mT_nx1 (st := st) (by rw [h1]; decide)
    (repeat (first | (apply WL.pure; rfl; rfl; rfl) | (apply CW.seq) | (apply CW.region) | (apply WL.makeFunc; rfl; rfl; rfl; rfl)))
    refine WL.call rfl rfl rfl (lwithin_ok w2 hr2 hs ho hS2 hBn (r := pFor nms s.length n (o + 1) [] (nxT st.2)) (fun ho' w hr hg => FnV.mkM (fs := [_]) (hF n (Nat.le_refl _) (o + 1) _ w hr (hS2.kept hg (fun b e => by cases e; exact Nat.le_refl _) hBn) (by omega) (by omega)))) ?_
    rintro _ w3 ⟨⟨x, e, t, st1, rfl, hx, hr3, hE3⟩, hg3⟩
    have hb2 := hb2.kept hg3 (fun e => by have := Option.some.inj e; omega)
    have hG := grown_tr hG hg3
    have hx : GX w0.heap.size [w0.heap.size] w3 x t := GX.of hx e2.size hXX
    have hE3 := hE3.low (B' := w0.heap.size) e2.size
    have z3 := hg3.size
    obtain ⟨uo, uc, rfl, hk⟩ := Rd.ltl hx
    (repeat (apply WL.pure; rfl; rfl; rfl))
    refine WL.alloc rfl rfl (fun w4 hb6 e4 => ?_)
    have hx := hx.add e4 (Nat.le_refl _)
    have hb2 := hb2.ext e4
    have hr4 := hr3.ext e4
    have hE4 := hE3.ext e4
    have hG := grown_tr hG (e4.grw (some rb))
    have h47 : w0.heap.size < w3.heap.size := by omega
    have l13 := hb6.lt
    generalize hB6 : w3.heap.size = b6 at *
    skip
    refine WL.st rfl rfl rfl hb6 rfl rfl (ones_of rfl) (fun w5 hb65 hg5 => ?_)
    have hx := hx.st hg5 (.inr (List.mem_cons_self ..))
    have hb2 := hb2.kept hg5 (fun e => by have := Option.some.inj e; omega)
    have hr5 := hr4.kept hg5 (fun b e => by cases e; omega)
    have hE5 := hE4.stT hg5 hb6 (by decide)
    have hG := grown_new hG hg5 (by omega)
    have hH := HF.of hb65 hx
    have l25 := hb2.lt
    have l65 := hb65.lt
    clear hr2 hrb hr3 hr4 hE3 hE4 hk hb6 hb65 hx
    have he := hE5.err
    (repeat (first | (apply WL.pure; rfl; rfl; rfl) | (apply WL.nil) | (apply EX.thenN)))
    refine CW.cutI (S := Value) (fun e => [(2, .pointer (some ⟨w0.heap.size, 0, none⟩)), (7, .pointer (some ⟨b6, 0, none⟩)), (8, e)])
      (fun e w => w0.grownBy w (some rb) ∧ Blk w w0.heap.size 28 [.int .i64 0, .int .i64 0, .slice none 0 0] ∧ HF 28 w b6 w0.heap.size [b6, w0.heap.size] t ∧
        ∃ st', Rdr 125 w rb s no nc nms o st' ∧ ErL w w0.heap.size (braC s.length (if o = 20 then .er 5 (atT s.length st) else pFor nms s.length n (o + 1) [] (nxT st.2))) e t st') ?_ ?_
    · generalize (if o = 20 then PR.er 5 (atT s.length st) else pFor nms s.length n (o + 1) [] (nxT st.2)) = r1 at *
      (repeat (first | (apply WL.pure; rfl; rfl; rfl) | (apply CW.seq) | (apply CW.region)))
      refine WL.eqNil rfl rfl rfl he ?_
      rcases hE5 with ⟨rfl, rfl⟩ | ⟨c, a, rfl, hF⟩
      · rw [show nilI Value.nilIface = true from rfl]
        (repeat (apply WL.pure; rfl; rfl; rfl))
        refine WL.call rfl rfl rfl (ltake_ok w5 hr5 hs [41]) ?_
        rintro _ w10 ⟨rfl, hr10, hg10⟩
        have hb2 := hb2.kept hg10 (fun e => by have := Option.some.inj e; omega)
        have hH := hH.st hg10 (.inl hrl) (by omega)
        have hG := grown_tr hG hg10
        have z10 := hg10.size
        dsimp only [braC]
        (repeat (first | (apply WL.pure; rfl; rfl; rfl) | (apply WL.nil) | (apply EX.thenN)))
        refine CW.cond rfl (fun h => ?_) (fun h => ?_)
        · have h : ¬ st1.1 = [41] := by simpa using h
          rw [if_neg h] at hr10 ⊢
          have hD := Ext.drew w10
          have hrd := hr10.ext hD
          have hGd := grown_tr hG (hD.grw _)
          have hSd : SenH (drew w10) sa := hSn.kept hGd (fun b e => by cases e; exact Nat.le_refl _) hBn
          skip
          refine CW.drawH (fun z : World => Blk z rb 125 [tV s, .slice no nms.length nc, tV st1.1, .int .i64 (atT s.length st1 : Int), .int .i64 ((s.length - st1.2.length : Nat) : Int), .int .i64 (o : Int)] ∧ z.cell? ⟨0, 0, none⟩ = some (.iface 205 (.pointer (some (sa 0))))) [(0, true), (1, true), (2, true), (3, true), (4, true), (5, false), (6, true)] mixed (by kernel_rfl) ⟨hrd.blk, hSd.g0⟩ ?_
          refine HL.ldG (fun z hz => hz.2) rfl rfl rfl rfl ?_
          (repeat (first | (apply HL.pure; rfl; rfl; rfl; rfl) | (refine HL.fa rfl rfl rfl rfl ?_) | (apply HL.nck; rfl; rfl; rfl; rfl)))
          refine HL.ldS (fun z hz => hz.1) rfl rfl rfl rfl rfl ?_
          refine HL.mut rfl (WL.call rfl rfl rfl (lfault_ok (drew w10) hSd (i := 0) (by omega) (atT s.length st1)) ?_)
          rintro e w6 ⟨hF, e6⟩
          have hr6 := hrd.ext e6
          have hG := grown_tr hGd (e6.grw _)
          refine WL.nil (EX.mut ⟨hr6.blk, (hSn.kept hG (fun b e => by cases e; exact Nat.le_refl _) hBn).g0⟩ ?_)
          (repeat (first | (apply HL.pure; rfl; rfl; rfl; rfl) | (apply HL.nil)))
          skip
          exact EX.cutI _ (by repeat (first | exact trivial | refine ⟨rfl, ?_⟩)) ⟨hG, (hb2.ext hD).ext e6, (hH.ext hD).ext e6, st1, hr6, .inr ⟨_, _, rfl, hF.low (by show w0.heap.size ≤ w10.heap.size; omega)⟩⟩
        · have h : st1.1 = [41] := by simpa using h
          rw [if_pos h] at hr10 ⊢
          (repeat (apply CW.skip))
          exact EX.cutI _ (by repeat (first | exact trivial | refine ⟨rfl, ?_⟩)) ⟨hG, hb2, hH, _, hr10, .inl ⟨rfl, rfl⟩⟩
      · rw [hF.err.2]
        (repeat (first | (apply WL.pure; rfl; rfl; rfl) | (apply WL.nil) | (apply EX.thenN) | (apply WL.pass; rfl; rfl) | (apply CW.condF; rfl) | (apply CW.skip)))
        exact EX.cutI _ (by repeat (first | exact trivial | refine ⟨rfl, ?_⟩)) ⟨hG, hb2, hH, st1, hr5, .inr ⟨c, a, rfl, hF⟩⟩
    clear hG hb2 hH hr5 he hE5
    rintro e w10 ⟨hG, hb2, hH, st', hr10, hE⟩
    obtain ⟨vo, vc, hb6, hy⟩ := hH.gx
    (repeat (first | (apply WL.pure; rfl; rfl; rfl) | (apply CW.seq) | (apply CW.region) | (apply WL.ldA; rfl; rfl; rfl; assumption; rfl)))
    refine WL.st rfl rfl rfl hb2 rfl rfl (ones_of rfl) (fun w12 hb212 hg12 => ?_)
    (repeat (first | (apply WL.pure; rfl; rfl; rfl) | (apply WL.nil) | (apply EX.thenN) | (apply CW.ret) | (apply EX.thenR)))
    refine EX.retC2 rfl rfl rfl hb212 rfl ⟨⟨_, _, _, st', rfl, (hy.st hg12 (.inr (by simp))).gl, hr10.kept hg12 (fun b e => by cases e; omega), ?_⟩, grown_new hG hg12 (Nat.le_refl _)⟩
    have hE := hE.stT hg12 hb2 (by decide)
    by_cases h20 : o = 20
    · rw [if_pos h20] at hE ⊢
      exact hE
    · rw [if_neg h20] at hE ⊢
      exact hE
  have n40 : ¬ st.1 = [40] := of_decide_eq_false h
  rw [if_neg n40]
  clear h
  (repeat (first | (apply WL.pure; rfl; rfl; rfl) | (apply WL.nil) | (apply EX.thenN) | (apply CW.skip) | (apply EX.inN)))
  apply CW.seq
  refine CW.cutE [(0, .pointer (some ⟨rb, 0, none⟩)), (2, .pointer (some ⟨w0.heap.size, 0, none⟩)), (67, .bool (decide (st.1 = [] ∨ lowB (st.1.headD 0) = false)))] ?_ ?_
  · (repeat (first | (apply WL.pure; rfl; rfl; rfl) | (apply CW.region) | (apply WL.fa; rfl; rfl; rfl) | (apply WL.nck; rfl; rfl; rfl) | (apply WL.ld; rfl; rfl; rfl; assumption; rfl)))
    rw [show ((txA st.1).data.toList == (ByteArray.mk #[]).data.toList) = decide (st.1 = []) from txA_eqd _ _]
    (refine WL.lookG rfl rfl (fun h => ?_) (fun h => ?_))
    · have h : st.1 = [] := of_decide_eq_true h
      (repeat (first | (apply WL.pure; rfl; rfl; rfl) | (apply WL.nil) | (apply WL.pass; rfl; rfl)))
      exact EX.cutE ⟨rfl, rfl, congrArg (fun b => some (Value.bool b)) (show true = _ from (decide_eq_true (Or.inl h)).symm), trivial⟩ (Ext.refl _)
    have h4 : ¬ st.1 = [] := of_decide_eq_false h
    have h5 : 0 < st.1.length := List.length_pos_iff.2 h4
    clear h
    (repeat (first | (apply WL.pure; rfl; rfl; rfl) | (apply WL.fa; rfl; rfl; rfl) | (apply WL.nck; rfl; rfl; rfl) | (apply WL.ld; rfl; rfl; rfl; assumption; rfl)))
    refine WL.byteL (i := 0) rfl rfl rfl rfl h5 ?_
    skip
    refine WL.call rfl rfl rfl (lletter_ok w2 _) ?_
    rintro _ w5 ⟨rfl, e5⟩
    (repeat (first | (apply WL.pure; rfl; rfl; rfl) | (apply WL.nil)))
    refine EX.cutE ⟨rfl, rfl, ?_, trivial⟩ e5
    refine congrArg (fun b => some (Value.bool b)) ?_
    rw [Bool.eq_iff_iff]
    rw [headD_0 h5]
    simp [h4]
  rintro w3 e3
  have hr3 := hr2.ext e3
  have hb2 := hb2.ext e3
  have hG := grown_tr hG (e3.grw _)
  clear hr2 hrb
  have l3 : w2.heap.size ≤ w3.heap.size := e3.size
  refine CW.cond rfl (fun h => ?_) (fun h => ?_)
  · rw [if_pos (of_decide_eq_true h)]
    (repeat (apply CW.seq))
    have l5 : w0.heap.size ≤ w3.heap.size := by omega
    have hD := Ext.drew w3
    have hrd := hr3.ext hD
    have hGd := grown_tr hG (hD.grw _)
    have hSd : SenH (drew w3) sa := hSn.kept hGd (fun b e => by cases e; exact Nat.le_refl _) hBn
    have hbd := hb2.ext hD
    refine CW.drawH (fun z : World => Blk z rb 125 [tV s, .slice no nms.length nc, tV st.1, .int .i64 (atT s.length st : Int), .int .i64 ((s.length - st.2.length : Nat) : Int), .int .i64 (o : Int)] ∧ z.cell? ⟨0, 0, none⟩ = some (.iface 205 (.pointer (some (sa 0))))) [(0, true), (1, true), (2, true), (3, true), (4, true), (5, true), (6, false), (7, false), (8, true)] mixed (by kernel_rfl) ⟨hrd.blk, hSd.g0⟩ ?_
    refine HL.build (parts := []) rfl rfl rfl rfl rfl ?_
    refine HL.ldG (fun z hz => hz.2) rfl rfl rfl rfl ?_
    (repeat (first | (apply HL.pure; rfl; rfl; rfl; rfl) | (refine HL.fa rfl rfl rfl rfl ?_) | (apply HL.nck; rfl; rfl; rfl; rfl)))
    refine HL.ldS (fun z hz => hz.1) rfl rfl rfl rfl rfl ?_
    refine HL.mut rfl (WL.call rfl rfl rfl (lfault_ok (drew w3) hSd (i := 0) (by omega) (atT s.length st)) ?_)
    rintro e w6 ⟨hF, e6⟩
    have hr6 := hrd.ext e6
    have hb6 := hbd.ext e6
    have hG := grown_tr hGd (e6.grw _)
    refine WL.nil (EX.mut ⟨hr6.blk, (hSn.kept hG (fun b e => by cases e; exact Nat.le_refl _) hBn).g0⟩ ?_)
    refine HL.mut rfl (WL.st rfl rfl rfl hb6 rfl rfl (ones_of rfl) (fun w7 hb7 hg7 => ?_))
    have hr7 := hr6.kept hg7 (fun b e => by cases e; omega)
    have hG7 := grown_new hG hg7 (Nat.le_refl _)
    refine WL.nil (EX.mut ⟨hr7.blk, (hSn.kept hG7 (fun b e => by cases e; exact Nat.le_refl _) hBn).g0⟩ ?_)
    (repeat (first | (apply HL.pure; rfl; rfl; rfl; rfl) | (apply HL.nil)))
    (repeat (first | (apply EX.thenN) | (apply CW.ret) | (apply EX.thenR)))
    exact EX.retC2 rfl rfl rfl hb7 rfl ⟨⟨_, _, _, st, rfl, GL.zero 0 0, hr7, .inr ⟨_, _, rfl, (hF.low (l5)).stT hg7 hb6 (by decide)⟩⟩, hG7⟩
  · rw [if_neg (of_decide_eq_false h)]
    (repeat (first | (apply WL.pure; rfl; rfl; rfl) | (apply EX.thenN) | (apply CW.seq) | (apply CW.region) | (apply CW.skip)))
    refine WL.call rfl rfl rfl (lword_ok w3 hr3 hs (hSn.kept hG (fun b e => by cases e; exact Nat.le_refl _) hBn) hBn) ?_
    rintro _ w4 ⟨⟨x, e, t, st1, rfl, hx, hr4, hE4⟩, hg4⟩
    have hb2 := hb2.kept hg4 (fun e => by have := Option.some.inj e; omega)
    have hG := grown_tr hG hg4
    have hx : GX w0.heap.size [w0.heap.size] w4 x t := GX.of hx (by omega) (fun r hr => Nat.lt_of_lt_of_le (hXX r hr) l3)
    have hE4 := hE4.low (B' := w0.heap.size) (by omega)
    obtain ⟨uo, uc, rfl, hk⟩ := Rd.ltl hx
    (repeat (apply WL.pure; rfl; rfl; rfl))
    refine WL.st rfl rfl rfl hb2 rfl rfl (ones_of rfl) (fun w5 hb25 hg5 => ?_)
    (repeat (first | (apply WL.pure; rfl; rfl; rfl) | (apply WL.nil) | (apply EX.thenN) | (apply CW.ret)))
    exact EX.retC2 rfl rfl rfl hb25 rfl ⟨⟨_, _, t, st1, rfl, (hx.st hg5 (.inr (by simp))).gl, hr4.kept hg5 (fun b e => by cases e; omega), hE4.stT hg5 hb2 (by decide)⟩, grown_new hG hg5 (Nat.le_refl _)⟩
end Go.Proofs.YtikigaeihdmcaaaGreatDoor

/-
  ltl.Parse, walked: sizes.
-/
set_option linter.unusedVariables false
set_option linter.unusedSimpArgs false
namespace Go.Proofs.YtikigaeihdmcaaaGreatDoor
open Go.RowKit

theorem szFs_gt : ∀ (l : List Ltl) (n : Int), n > 60 → szFs l n = n
  | [], n, _ => by unfold szFs; rfl
  | x :: r, n, h => by unfold szFs; rw [if_pos h]
mutual
theorem szF_le : ∀ (t : Ltl) (n : Int), n ≤ 60 → n ≤ szF t n ∧ szF t n ≤ 61
  | .mk k m kids, n, h => by
    unfold szF
    have := szFs_le kids (n + 1) (by omega)
    omega
theorem szFs_le : ∀ (l : List Ltl) (n : Int), n ≤ 61 → n ≤ szFs l n ∧ szFs l n ≤ 61
  | [], n, h => by unfold szFs; omega
  | x :: r, n, h => by
    unfold szFs
    split
    · omega
    · have h1 := szF_le x n (by omega)
      have h2 := szFs_le r (szF x n) (by omega)
      omega
end
theorem szFs_step {l : List Ltl} {i : Nat} {n : Int} (hi : i < l.length) (hn : ¬ n > 60) : szFs (l.drop i) n = szFs (l.drop (i + 1)) (szF l[i] n) := by
  rw [List.drop_eq_getElem_cons hi, szFs, if_neg hn]
theorem lsize_ok : ∀ (m : Nat) (t : Ltl), t.nodes ≤ m → ∀ (w : World) (F : Nat → Prop) (ao : Option Addr) (cap : Nat) (n : Int), Sl w F ao cap t.kids → (∀ b, F b → b < w.heap.size) → 0 ≤ n → n ≤ 60 →
    Rt Tryz.prog 123 [ltlV t.k t.n ao t.kids.length cap, .int .i64 n].toArray w fun v w' => v = .int .i64 (szF t n) ∧ Ext w w'
  | 0, t, hm, _, _, _, _, _, _, _, _, _ => by have := t.nodes_pos; omega
  | m + 1, .mk k nn kids, hm, w, F, ao, cap, n, hs, hF, h0, h60 => by
    simp only [mk_k, mk_n, mk_kids] at hs ⊢
    have hkl := hs.len63
    refine Rt.enter2 Tryz.func123 Tryz.ntmps123 rfl rfl ?_
    unfold szF
    (repeat (first | (apply CW.seq) | (apply CW.region)))
    refine WL.boxB rfl rfl rfl fun w1 hb2 e1 => ?_
    (repeat (first | (apply WL.add; rfl; rfl; rfl; rfl; omega; omega) | (apply WL.pure; rfl; rfl; rfl) | (apply WL.nil) | (apply EX.thenN) | (apply CW.seq) | (apply CW.region) | (apply WL.lenS; rfl; rfl; rfl) | (apply WL.fa; rfl; rfl; rfl) | (apply WL.ld; rfl; rfl; rfl; assumption; rfl) | (apply CW.block)))
    refine CW.loop (S := Nat × Int) (fun p => [(1, .int .i64 p.2), (10, .slice ao kids.length cap), (11, .int .i64 (kids.length : Int)), (12, .int .i64 (p.1 : Int))])
      (fun p w' => p.1 ≤ kids.length ∧ 0 ≤ p.2 ∧ p.2 ≤ 61 ∧ szFs (kids.drop p.1) p.2 = szFs kids (n + 1) ∧ Ext w w') (fun p => kids.length - p.1) (0, n + 1) (by repeat (first | exact trivial | refine ⟨rfl, ?_⟩)) ⟨Nat.zero_le _, by dsimp only; omega, by dsimp only; omega, rfl, e1⟩ ?_
    rintro ⟨i, q⟩ w3 ⟨hi, hq0, hq, he, e3⟩
    dsimp only at hi hq0 hq he ⊢
    (repeat (first | (apply WL.pure; rfl; rfl; rfl) | (apply WL.nil) | (apply EX.thenN) | (apply CW.seq) | (apply CW.region)))
    refine CW.cond rfl (fun h => ?_) (fun h => ?_)
    · have hi' : i < kids.length := by simpa using h
      have hs3 := hs.up0 e3 hF
      (repeat (first | (apply EX.thenN) | (apply CW.seq) | (apply CW.region) | (apply CW.block) | (apply CW.skip)))
      refine WL.elemN rfl rfl rfl rfl rfl hs3 hi' (fun _ => rfl) (fun u q2 hu => ?_)
      obtain ⟨uo, uc, rfl, hku⟩ := Rd.ltl hu
      refine WL.alloc rfl rfl (fun w4 hb6 e4 => ?_)
      skip
      refine WL.st rfl rfl rfl hb6 rfl rfl (ones_of rfl) (fun w5 hb65 hg5 => ?_)
      have e35 : Ext w3 w5 := e4.grown hg5 e4.size (fun g hg => by cases hg; exact Nat.le_refl _)
      have e5 := e3.trans e35
      (repeat (first | (apply WL.pure; rfl; rfl; rfl) | (apply WL.nil) | (apply EX.thenN) | (apply CW.seq) | (apply CW.region)))
      refine CW.cond rfl (fun h => ?_) (fun h => ?_)
      · have hq' : q > 60 := by simpa using h
        (repeat (first | (apply WL.pure; rfl; rfl; rfl) | (apply WL.nil) | (apply EX.thenN) | (apply CW.seq) | (apply CW.region) | (apply CW.exit) | (apply EX.thenX) | (apply EX.inX) | (apply EX.inXne; rfl) | (apply CW.ret)))
        refine EX.ret1 rfl rfl ⟨?_, e5⟩
        rw [← he, szFs_gt _ _ hq']
      · have hq' : ¬ q > 60 := by simpa using h
        have hnd : kids[i].nodes ≤ m := by have := Ltl.nodes_kid kids _ (List.getElem_mem hi'); simp only [Ltl.nodes] at hm; omega
        (repeat (first | (apply WL.pure; rfl; rfl; rfl) | (apply EX.thenN) | (apply CW.region) | (apply WL.ldA; rfl; rfl; rfl; assumption; rfl) | (apply CW.skip)))
        refine WL.call rfl rfl rfl (lsize_ok m kids[i] hnd w5 F uo uc q (hku.up0 e35 (fun b hb => Nat.lt_of_lt_of_le (hF b hb) e3.size)) (fun b hb => Nat.lt_of_lt_of_le (hF b hb) e5.size) hq0 (by omega)) ?_
        rintro _ w6 ⟨rfl, e6⟩
        have hle := szF_le kids[i] q (by omega)
        (repeat (first | (apply WL.add; rfl; rfl; rfl; rfl; omega; omega) | (apply WL.pure; rfl; rfl; rfl) | (apply WL.nil) | (apply EX.thenN) | (apply CW.region) | (apply EX.inN)))
        refine EX.back (i + 1, szF kids[i] q) (by repeat (first | exact trivial | refine ⟨rfl, ?_⟩)) ⟨by dsimp only; omega, by dsimp only; omega, by dsimp only; omega, by dsimp only; rw [← szFs_step hi' hq']; exact he, e5.trans e6⟩ (by dsimp only; omega)
    · have hi' : ¬ i < kids.length := by simpa using h
      (repeat (first | (apply WL.pure; rfl; rfl; rfl) | (apply WL.nil) | (apply EX.thenN) | (apply CW.seq) | (apply CW.region) | (apply CW.exit) | (apply EX.thenX) | (apply EX.inX) | (apply CW.ret)))
      refine EX.ret1 rfl rfl ⟨?_, e3⟩
      rw [← he, List.drop_eq_nil_of_le (by omega)]
      unfold szFs; rfl
end Go.Proofs.YtikigaeihdmcaaaGreatDoor

/-
  Kids of formulas: small facts.
-/
set_option linter.unusedVariables false
set_option linter.unusedSimpArgs false
namespace Go.Proofs.YtikigaeihdmcaaaGreatDoor
open Go.RowKit

theorem nodes_kid' {k n : Int} {kids : List Ltl} {m : Nat} (h : (Ltl.mk k n kids).nodes ≤ m + 1) {i : Nat} (hi : i < kids.length) : (kids[i]).nodes ≤ m := by
  have := Ltl.nodes_kid kids kids[i] (List.getElem_mem hi)
  simp only [Ltl.nodes] at h
  omega
end Go.Proofs.YtikigaeihdmcaaaGreatDoor

/-
  ltl.Parse, walked: copies.
-/
set_option linter.unusedVariables false
set_option linter.unusedSimpArgs false
namespace Go.Proofs.YtikigaeihdmcaaaGreatDoor
open Go.RowKit

mutual
/-- no more than two kids anywhere -/
def K2 : Ltl → Prop
  | .mk _ _ kids => kids.length ≤ 2 ∧ K2s kids
def K2s : List Ltl → Prop
  | [] => True
  | x :: r => K2 x ∧ K2s r
end
theorem K2s.get : ∀ (l : List Ltl), K2s l → ∀ (i : Nat) (h : i < l.length), K2 l[i]
  | x :: r, h, 0, _ => by simp only [K2s] at h; exact h.1
  | x :: r, h, i + 1, hi => by simp only [K2s] at h; exact K2s.get r h.2 i (by simpa using hi)
theorem k2_le {k n : Int} {kids : List Ltl} (h : K2 (.mk k n kids)) : kids.length ≤ 2 := by simp only [K2] at h; exact h.1
theorem k2_kid {k n : Int} {kids : List Ltl} (h : K2 (.mk k n kids)) {i : Nat} (hi : i < kids.length) : K2 kids[i] := by simp only [K2] at h; exact K2s.get kids h.2 i hi
theorem pfo_k2 (nms : List ByteArray) (N : Nat) : PFo nms N K2 := by
  refine ⟨fun st => ?_, by simp [K2, K2s], fun k f hk hf => by simp [K2, K2s, hf], fun k f g hk hf hg => by simp [K2, K2s, hf, hg]⟩
  unfold wordR
  split
  · simp [Res, K2, K2s]
  split
  · simp [Res, K2, K2s]
  split
  · simp [Res, K2, K2s]
  split
  · exact ⟨by decide, atT_le _ _⟩
  · simp [Res, K2, K2s]
theorem Grow.lowL {α : Type} [Rep α] {B B' : Nat} {e : TypeId} {w : World} {v : Value} {xs : List α} (h : Grow B e w v xs) (hB : B' ≤ B) : Grow B' e w v xs := by
  obtain ⟨F, h1, h2⟩ := h
  exact ⟨F, fun b hb => ⟨Nat.le_trans hB (h1 b hb).1, (h1 b hb).2⟩, h2.low hB⟩
theorem lcopyOf_ok : ∀ (m : Nat) (t : Ltl), t.nodes ≤ m → K2 t → ∀ (w : World) (F : Nat → Prop) (ao : Option Addr) (cap : Nat), Sl w F ao cap t.kids → (∀ b, F b → b < w.heap.size) →
    Rt Tryz.prog 124 [ltlV t.k t.n ao t.kids.length cap].toArray w fun v w' => (∃ kv, v = .agg [.int .i64 t.k, .int .i64 t.n, kv].toArray ∧ Grow w.heap.size 28 w' kv t.kids) ∧ Ext w w' := by
  intro m
  induction m with
  | zero => intro t h; have := t.nodes_pos; omega
  | succ m ih =>
    rintro ⟨k, n, kids⟩ hm hwf w F ao cap hs hF
    simp only [Ltl.k, Ltl.n, Ltl.kids] at hs ⊢
    have hkl := k2_le hwf
    refine Rt.enter1 Tryz.func124 Tryz.ntmps124 rfl rfl ?_
    (repeat (first | (apply CW.seq) | (apply CW.region)))
    refine WL.boxB rfl rfl rfl fun w1 hf hE1 => ?_
    refine WL.alloc rfl rfl (fun w2 hr hE2 => ?_)
    have hf := hf.ext hE2
    have hE12 := hE1.trans hE2
    have hz1 : w.heap.size ≤ w1.heap.size := hE1.size
    have hlf := hf.lt
    have hlr := hr.lt
    (repeat (first | (apply WL.nil) | (apply EX.thenN) | (apply CW.seq) | (apply CW.region) | (apply WL.fa; rfl; rfl; rfl) | (apply WL.ld; rfl; rfl; rfl; assumption; rfl)))
    refine WL.build rfl rfl rfl rfl ?_
    refine WL.alloc rfl rfl (fun w3 ho hE3 => ?_)
    refine WL.st rfl rfl rfl ho rfl rfl (ones_of rfl) (fun w4 ho4 hg4 => ?_)
    have e4 : Ext w2 w4 := hE3.grown hg4 hE3.size (fun g hg => by cases hg; exact Nat.le_refl _)
    have hf4 := hf.ext e4
    have hr4 := hr.ext e4
    have hE4 := hE12.trans e4
    have hlo := ho4.lt
    have hsz := hE12.size
    clear hf hr ho hg4 hE3 e4 hE12
    (repeat (first | (apply WL.pure; rfl; rfl; rfl) | (apply WL.nil) | (apply EX.thenN) | (apply CW.seq) | (apply CW.region) | (apply WL.lenS; rfl; rfl; rfl) | (apply WL.fa; rfl; rfl; rfl) | (apply WL.ld; rfl; rfl; rfl; assumption; rfl) | (apply CW.block)))
    refine CW.loop (S := Nat × Value) (fun x => [(1, .pointer (some ⟨w.heap.size, 0, none⟩)), (2, .pointer (some ⟨w1.heap.size, 0, none⟩)), (3, .pointer (some ⟨w2.heap.size, 0, none⟩)), (12, .slice ao kids.length cap), (13, .int .i64 kids.length), (14, .int .i64 x.1)])
      (fun x w' => x.1 ≤ kids.length ∧ Ext w w' ∧ w4.heap.size ≤ w'.heap.size ∧ Blk w' w.heap.size 28 [.int .i64 k, .int .i64 n, .slice ao kids.length cap] ∧ Blk w' w1.heap.size 28 [.int .i64 0, .int .i64 0, .slice none 0 0] ∧
        Blk w' w2.heap.size 28 [.int .i64 k, .int .i64 n, x.2] ∧ Grow w4.heap.size 28 w' x.2 (kids.take x.1)) (fun x => kids.length - x.1) (0, .slice none 0 0) (by repeat (first | exact trivial | refine ⟨rfl, ?_⟩)) ⟨by simp, hE4, Nat.le_refl _, hf4, hr4, ho4, by simpa using Grow.nil⟩ ?_
    rintro ⟨i, kv⟩ w5 ⟨hi, hE5, hsz5, hf5, hr5, ho5, hG5⟩
    dsimp only at hi hE5 hsz5 hf5 hr5 ho5 hG5 ⊢
    clear hf4 hr4 ho4
    (repeat (first | (apply WL.pure; rfl; rfl; rfl) | (apply WL.nil) | (apply EX.thenN) | (apply CW.seq) | (apply CW.region)))
    refine CW.cond rfl (fun h => ?_) (fun h => ?_)
    · have h : i < kids.length := by simpa using h
      (repeat (first | (apply EX.thenN) | (apply CW.seq) | (apply CW.region) | (apply CW.block) | (apply CW.skip)))
      refine WL.elemN rfl rfl rfl rfl rfl (hs.up0 hE5 hF) h (fun _ => rfl) (fun u q hu => ?_)
      obtain ⟨uo, uc, rfl, hku⟩ := Rd.ltl hu
      refine WL.alloc rfl rfl (fun w6 hx hE6 => ?_)
      refine WL.st rfl rfl rfl hx rfl rfl (ones_of rfl) (fun w7 hx7 hg7 => ?_)
      have e7 : Ext w5 w7 := hE6.grown hg7 hE6.size (fun g hg => by cases hg; exact Nat.le_refl _)
      have hE7 := hE5.trans e7
      have ed := Ext.drew w7
      have hd := hE7.trans ed
      have ho7 := (ho5.ext e7).ext ed
      have hxd := hx7.ext ed
      have hG7 := (hG5.ext e7).ext ed
      have hlx := hx7.lt
      have hz7 := e7.size
      have hKo : ∀ x, (fun x : World => x.heap[w2.heap.size]? = (drew w7).heap[w2.heap.size]? ∧ x.heap[w5.heap.size]? = (drew w7).heap[w5.heap.size]?) x → x.heap[w2.heap.size]? = (drew w7).heap[w2.heap.size]? := fun _ h => h.1
      have hKx : ∀ x, (fun x : World => x.heap[w2.heap.size]? = (drew w7).heap[w2.heap.size]? ∧ x.heap[w5.heap.size]? = (drew w7).heap[w5.heap.size]?) x → x.heap[w5.heap.size]? = (drew w7).heap[w5.heap.size]? := fun _ h => h.2
      (repeat (first | (apply WL.nil) | (apply EX.thenN)))
      refine CW.drawE (fun x : World => x.heap[w2.heap.size]? = (drew w7).heap[w2.heap.size]? ∧ x.heap[w5.heap.size]? = (drew w7).heap[w5.heap.size]?) [(0, true), (1, true), (2, true), (3, false), (4, false), (5, false), (6, true)] 7 mixed (by kernel_rfl) ⟨rfl, rfl⟩ ?_
      (repeat (first | (refine HL.fa rfl rfl rfl rfl ?_) | (refine HL.ldK (by assumption) rfl rfl rfl rfl (by assumption) rfl ?_)))
      refine HL.ldAK hKx rfl rfl rfl rfl hxd rfl ?_
      skip
      have hFd : ∀ b, F b → b < (drew w7).heap.size := fun b hb => Nat.lt_of_lt_of_le (hF b hb) hd.size
      have hku' : Sl (drew w7) F uo uc (kids[i]).kids := hku.up0 (e7.trans ed) (fun b hb => Nat.lt_of_lt_of_le (hF b hb) hE5.size)
      refine HL.mut rfl (WL.call rfl rfl rfl (ih kids[i] (nodes_kid' hm h) (k2_kid hwf h) (drew w7) F uo uc hku' hFd) ?_)
      rintro v w8 ⟨⟨kv8, rfl, hK8⟩, e8⟩
      obtain ⟨ko, kc, rfl, hks⟩ := hK8.sl
      have hv : Rd w8 (Nw (drew w7) w8) (ltlV (kids[i]).k (kids[i]).n ko (kids[i]).kids.length kc) kids[i] := by
        have := Rd.mkLtl (k := (kids[i]).k) (n := (kids[i]).n) hks
        rwa [show Ltl.mk (kids[i]).k (kids[i]).n (kids[i]).kids = kids[i] by cases kids[i]; rfl] at this
      have ho8 := ho7.ext e8
      have hG8 := hG7.ext e8
      have hsz8 : w7.heap.size ≤ w8.heap.size := e8.size
      refine WL.nil (EX.mut ⟨e8.block _ ho7.lt, e8.block _ hlx⟩ ?_)
      have hgl := hG7.lt
      obtain ⟨F', hF', hO, hsub⟩ := hG8.open (Fu := Nw (drew w7) w8) (fun b hb => ⟨Nat.le_trans hsz5 (Nat.le_trans hz7 hb.1), hb.2⟩) (fun g hg hb => by have := (hgl g hg).2; have := hb.1; omega)
      have hnl : (kids.take i).length = i := by rw [List.length_take]; omega
      have hgl5 := hG5.lt
      refine HL.app1 (bytes := 40) (F := F') rfl rfl rfl rfl (fun _ => rfl) rfl rfl (fun _ => rfl) hO (hv.wk hsub) (by omega) (fun b hb => (hF' b hb).2) (by decide) (by rw [hnl]; unfold maxLen; omega) (by rw [hnl]; omega)
        (fun w' hg' => ⟨(hg'.block _ ho8.lt (fun e => ?_)).trans (e8.block _ ho7.lt), (hg'.block _ (by omega) (fun e => ?_)).trans (e8.block _ hlx)⟩) (fun cV w9 q2 hO9 hg9 hnb => ?_)
      · have := (hgl5 _ e.symm).1; omega
      · have := (hgl5 _ e.symm).2; omega
      have hG9 : Grow w4.heap.size 28 w9 cV (kids.take i ++ [kids[i]]) := ⟨F', fun b hb => ⟨(hF' b hb).1, Nat.lt_of_lt_of_le (hF' b hb).2 hg9.size⟩, hO9⟩
      rw [show kids.take i ++ [kids[i]] = kids.take (i + 1) by rw [List.take_succ_eq_append_getElem h]] at hG9
      obtain ⟨co, cc, rfl, _⟩ := hG9.sl
      have hnr : ∀ r, r < w4.heap.size → some r ≠ kv.ownBlock := fun r hr e => by have := (hgl5 _ e.symm).1; omega
      have ho9 := ho8.kept hg9 (hnr _ (by omega))
      have hf9 := ((((hf5.ext e7).ext ed).ext e8)).kept hg9 (hnr _ (by omega))
      have hr9 := ((((hr5.ext e7).ext ed).ext e8)).kept hg9 (hnr _ (by omega))
      have hE8 := hd.trans e8
      have hE9 : Ext w w9 := hE8.grown hg9 hE8.size (fun g hg => by have := (hgl5 g hg).1; omega)
      (repeat (first | (refine HL.fa rfl rfl rfl rfl ?_) | (apply HL.nil)))
      refine EX.tail rfl (WL.st rfl rfl rfl ho9 rfl rfl (ones_of rfl) (fun w10 ho10 hg10 => WL.nil (EX.tailE ?_)))
      have hE10 : Ext w w10 := hE9.grown hg10 hE9.size (fun g hg => by cases hg; omega)
      have hsz9 := hg9.size
      have hsz10 := hg10.size
      (repeat (first | (apply WL.add; rfl; rfl; rfl; rfl; omega; omega) | (apply WL.pure; rfl; rfl; rfl) | (apply WL.nil) | (apply EX.thenN) | (apply CW.region) | (apply EX.inN)))
      exact EX.back (i + 1, .slice co (kids.take (i + 1)).length cc) (by repeat (first | exact trivial | refine ⟨rfl, ?_⟩)) ⟨h, hE10, by omega, hf9.kept hg10 (fun e => by have := Option.some.inj e; omega), hr9.kept hg10 (fun e => by have := Option.some.inj e; omega), ho10, hG9.kept hg10 (by omega)⟩ (by dsimp only; omega)
    · have h : ¬ i < kids.length := by simpa using h
      have hik : i = kids.length := by omega
      subst hik
      rw [List.take_length] at hG5
      obtain ⟨co, cc, rfl, hsl⟩ := hG5.sl
      (repeat (first | (apply EX.thenN) | (apply CW.seq) | (apply CW.region) | (apply WL.ldA; rfl; rfl; rfl; assumption; rfl) | (apply CW.exit) | (apply EX.thenX) | (apply EX.inX)))
      refine WL.st rfl rfl rfl hr5 rfl rfl (ones_of rfl) (fun w6 hr6 hg6 => ?_)
      have hG6 := hG5.kept hg6 (by omega)
      (repeat (first | (apply WL.nil) | (apply EX.thenN) | (apply CW.ret)))
      exact EX.retC rfl rfl hr6 rfl ⟨⟨_, rfl, Grow.lowL hG6 (by omega)⟩, hE5.grown hg6 hE5.size (fun g hg => by cases hg; omega)⟩
end Go.Proofs.YtikigaeihdmcaaaGreatDoor

/-
  ltl.Parse, walked: ways.
-/
set_option linter.unusedVariables false
set_option linter.unusedSimpArgs false
namespace Go.Proofs.YtikigaeihdmcaaaGreatDoor
open Go.RowKit

set_option maxHeartbeats 2000000 in
theorem lway_ok {rb : Nat} {s : Bys} {no : Option Addr} {nc : Nat} {nms : List ByteArray} {n o : Nat} {st : Bys × Bys} (w0 : World) (hr : Rdr 125 w0 rb s no nc nms o st) (hs : s.length ≤ 300) {sa : Nat → Addr} (hSn : SenH w0 sa) (hBn : 3 < rb ∧ ∀ i, i < 3 → (sa i).block < rb) (ho : o ≤ 20) (hS : SinL sa rb s no nc nms n) (hW : WayOK sa rb s no nc nms n) (hn : 10 * mT st + 2 ≤ n + 1) :
    Rt Tryz.prog 114 [.pointer (some ⟨rb, 0, none⟩)].toArray w0 fun v w' => PRl 125 rb s no nc nms o w0.heap.size (pWay nms s.length (n + 1) o st) v w' ∧ w0.grownBy w' (some rb) := by
  have hrl := hr.lt
  refine Rt.enter1 Tryz.func114 Tryz.ntmps114 rfl rfl ?_
  rw [pWay]
  (repeat (first | (apply CW.seq) | (apply CW.region)))
  refine WL.alloc rfl rfl (fun w1 hb2 e1 => ?_)
  have l2 := hb2.lt
  have hr1 := hr.ext e1
  (repeat (first | (apply WL.pure; rfl; rfl; rfl) | (apply WL.nil) | (apply EX.thenN) | (apply CW.seq) | (apply CW.region)))
  refine WL.call rfl rfl rfl (hS n (Nat.le_refl _) o st w1 hr1 (hSn.kept (e1.grw none) (fun b e => by cases e) hBn) ho (by omega)) ?_
  rintro _ w2 ⟨⟨x, e, t, st1, rfl, hx, hr2, hE2⟩, hg2⟩
  have hmm : ∀ f st', pSin nms s.length n o st = .ok f st' → mT st' ≤ mT st := fun f st' h => (l_mono nms s.length n).2.2.2.2.2 _ _ _ _ h
  generalize pSin nms s.length n o st = r1 at *
  have hb2 := hb2.kept hg2 (fun e => by have := Option.some.inj e; omega)
  have hG := grown_tr (e1.grw (some rb)) hg2
  have hx : GX w0.heap.size [w0.heap.size] w2 x t := GX.of hx (Nat.le_of_lt l2) (fun r hr => by rw [List.mem_singleton.1 hr]; exact l2)
  have hE2 := hE2.low (B' := w0.heap.size) (Nat.le_of_lt l2)
  have z2 := hg2.size
  obtain ⟨uo, uc, rfl, hk⟩ := Rd.ltl hx
  (repeat (apply WL.pure; rfl; rfl; rfl))
  refine WL.alloc rfl rfl (fun w3 hb4 e3 => ?_)
  have hx := hx.add e3 (Nat.le_refl _)
  have hb2 := hb2.ext e3
  have hr3 := hr2.ext e3
  have hE3 := hE2.ext e3
  have hG := grown_tr hG (e3.grw (some rb))
  have l4 := hb4.lt
  have h24 : w0.heap.size < w2.heap.size := by omega
  generalize hB4 : w2.heap.size = b4 at *
  skip
  refine WL.st rfl rfl rfl hb4 rfl rfl (ones_of rfl) (fun w4 hb44 hg4 => ?_)
  have hx := hx.st hg4 (.inr (List.mem_cons_self ..))
  have hH := HF.of hb44 hx
  have hb2 := hb2.kept hg4 (fun e => by have := Option.some.inj e; omega)
  have hr4 := hr3.kept hg4 (fun b e => by cases e; omega)
  have hE4 := hE3.stT hg4 hb4 (by decide)
  have hG := grown_new hG hg4 (by omega)
  clear hb4 hb44 hg4 hx hr3 hr2 hr1 hE2 hE3 hk e3 hg2 hr
  have he := hE4.err
  (repeat (first | (apply WL.pure; rfl; rfl; rfl) | (apply WL.nil) | (apply EX.thenN) | (apply CW.seq) | (apply CW.region)))
  refine WL.neNil rfl rfl rfl he ?_
  rcases hE4 with ⟨rfl, rfl⟩ | ⟨c, a, rfl, hFl⟩
  rotate_left
  · rw [hFl.err.2]
    obtain ⟨vo, vc, hb4, hy⟩ := hH.gx
    (repeat (first | (apply WL.pure; rfl; rfl; rfl) | (apply WL.nil) | (apply EX.thenN) | (apply CW.seq) | (apply CW.region) | (apply WL.ldA; rfl; rfl; rfl; assumption; rfl) | (apply CW.condT; rfl)))
    refine WL.st rfl rfl rfl hb2 rfl rfl (ones_of rfl) (fun w8 hb8 hg8 => ?_)
    (repeat (first | (apply WL.pure; rfl; rfl; rfl) | (apply WL.nil) | (apply EX.thenN) | (apply CW.ret) | (apply EX.thenR)))
    exact EX.retC2 rfl rfl rfl hb8 rfl ⟨⟨_, _, t, st1, rfl, (hy.st hg8 (.inr (by simp))).gl, hr4.kept hg8 (fun b e => by cases e; omega), .inr ⟨_, _, rfl, hFl.stT hg8 hb2 (by decide)⟩⟩, grown_new hG hg8 (Nat.le_refl _)⟩
  rw [show (!nilI Value.nilIface) = false from rfl]
  have hmm := hmm _ _ rfl
  have hrb := hr4.blk
  dsimp only
  (repeat (first | (apply WL.pure; rfl; rfl; rfl) | (apply WL.nil) | (apply EX.thenN) | (apply CW.skip) | (apply CW.condF; rfl)))
  apply CW.seq
  apply CW.region
  (repeat (first | (apply WL.pure; rfl; rfl; rfl) | (apply WL.fa; rfl; rfl; rfl) | (apply WL.nck; rfl; rfl; rfl) | (apply WL.ld; rfl; rfl; rfl; assumption; rfl)))
  apply WL.nil
  apply EX.thenN
  apply CW.seq
  refine CW.cut [(0, .pointer (some ⟨rb, 0, none⟩)), (2, .pointer (some ⟨w0.heap.size, 0, none⟩)), (4, .pointer (some ⟨b4, 0, none⟩)), (6, tV st1.1), (31, .bool (decide (¬ (st1.1 = [85] ∨ st1.1 = [82] ∨ st1.1 = [87]))))] ?_ ?_
  · (repeat (first | (apply WL.pure; rfl; rfl; rfl) | (apply CW.region)))
    rw [show ((txA st1.1).data.toList == (ByteArray.mk #[85]).data.toList) = decide (st1.1 = [85]) from txA_eqd _ _]
    by_cases h85 : st1.1 = [85]
    · rw [decide_eq_true h85]
      (repeat (first | (apply WL.pure; rfl; rfl; rfl) | (apply WL.nil) | (apply WL.pass; rfl; rfl)))
      exact EX.cut ⟨rfl, rfl, rfl, rfl, congrArg (fun b => some (Value.bool b)) (show false = _ from (decide_eq_false (fun h => h (Or.inl h85))).symm), trivial⟩
    rw [decide_eq_false h85]
    (repeat (apply WL.pure; rfl; rfl; rfl))
    rw [show ((txA st1.1).data.toList == (ByteArray.mk #[82]).data.toList) = decide (st1.1 = [82]) from txA_eqd _ _]
    by_cases h82 : st1.1 = [82]
    · rw [decide_eq_true h82]
      (repeat (first | (apply WL.pure; rfl; rfl; rfl) | (apply WL.nil) | (apply WL.pass; rfl; rfl)))
      exact EX.cut ⟨rfl, rfl, rfl, rfl, congrArg (fun b => some (Value.bool b)) (show false = _ from (decide_eq_false (fun h => h (Or.inr (Or.inl h82)))).symm), trivial⟩
    rw [decide_eq_false h82]
    (repeat (first | (apply WL.pure; rfl; rfl; rfl) | (apply WL.nil)))
    rw [show ((txA st1.1).data.toList == (ByteArray.mk #[87]).data.toList) = decide (st1.1 = [87]) from txA_eqd _ _]
    skip
    refine EX.cut ⟨rfl, rfl, rfl, rfl, ?_, trivial⟩
    refine congrArg (fun b => some (Value.bool b)) ?_
    rw [Bool.eq_iff_iff]
    simp [h85, h82]
  refine CW.cond rfl (fun h => ?_) (fun h => ?_)
  · rw [if_neg (of_decide_eq_true h)]
    obtain ⟨vo, vc, hb4, hy⟩ := hH.gx
    (repeat (first | (apply CW.seq) | (apply CW.region) | (apply WL.ldA; rfl; rfl; rfl; assumption; rfl)))
    refine WL.st rfl rfl rfl hb2 rfl rfl (ones_of rfl) (fun w8 hb8 hg8 => ?_)
    (repeat (first | (apply WL.pure; rfl; rfl; rfl) | (apply WL.nil) | (apply EX.thenN) | (apply CW.ret) | (apply EX.thenR)))
    exact EX.retC2 rfl rfl rfl hb8 rfl ⟨⟨_, _, t, st1, rfl, (hy.st hg8 (.inr (by simp))).gl, hr4.kept hg8 (fun b e => by cases e; omega), .inl ⟨rfl, rfl⟩⟩, grown_new hG hg8 (Nat.le_refl _)⟩
  have hc : st1.1 = [85] ∨ st1.1 = [82] ∨ st1.1 = [87] := Decidable.not_not.1 (of_decide_eq_false h)
  rw [if_pos hc]
  clear h
  have hm1 := mT_nx1 (st := st1) (by rcases hc with h | h | h <;> (rw [h]; decide))
  (repeat (first | (apply WL.pure; rfl; rfl; rfl) | (apply EX.thenN) | (apply CW.seq) | (apply CW.region) | (apply CW.skip)))
  refine WL.call rfl rfl rfl (lnext_ok w4 hr4 hs) ?_
  rintro _ w5 ⟨hr5, hg5⟩
  have l24 := hb2.lt
  have l44 := hH.lt
  have hb2 := hb2.kept hg5 (fun e => by have := Option.some.inj e; omega)
  have hH := hH.st hg5 (.inl hrl) (by omega)
  have hG := grown_tr hG hg5
  have z5 := hg5.size
  (repeat (first | (apply WL.pure; rfl; rfl; rfl) | (apply WL.nil) | (apply EX.thenN) | (apply CW.seq) | (apply CW.region)))
  refine WL.call rfl rfl rfl (hW n (Nat.le_refl _) o _ w5 hr5 (hSn.kept hG (fun b e => by cases e; exact Nat.le_refl _) hBn) ho (by omega)) ?_
  rintro _ w6 ⟨⟨x, e, g, st2, rfl, hx, hr6, hE6⟩, hg6⟩
  have hk2 : ∀ f st', pWay nms s.length n o (nxT st1.2) = .ok f st' → K2 f := fun f st' h => by
    have := (p_ind (pfo_k2 nms s.length) n).2.2.2.2.1 o (nxT st1.2)
    rw [h] at this; exact this
  generalize pWay nms s.length n o (nxT st1.2) = r2 at *
  have hb2 := hb2.kept hg6 (fun e => by have := Option.some.inj e; omega)
  have hH := hH.st hg6 (.inl hrl) (by omega)
  have hG := grown_tr hG hg6
  have hx : GX w0.heap.size [b4, w0.heap.size] w6 x g := GX.of hx (by omega) (fun r hr => by
    simp only [List.mem_cons, List.not_mem_nil, or_false] at hr
    rcases hr with rfl | rfl <;> omega)
  have hE6 := hE6.low (B' := w0.heap.size) (by omega)
  have z6 := hg6.size
  obtain ⟨uo, uc, rfl, hk⟩ := Rd.ltl hx
  (repeat (apply WL.pure; rfl; rfl; rfl))
  refine WL.alloc rfl rfl (fun w7 hb7 e7 => ?_)
  have hx := hx.add e7 (Nat.le_refl _)
  have hH := hH.add e7 (Nat.le_refl _)
  have hb2 := hb2.ext e7
  have hr7 := hr6.ext e7
  have hE7 := hE6.ext e7
  have hG := grown_tr hG (e7.grw (some rb))
  have l7 := hb7.lt
  have h27 : w0.heap.size < w6.heap.size := by omega
  have h47 : b4 < w6.heap.size := by omega
  generalize hB7 : w6.heap.size = b7 at *
  skip
  refine WL.st rfl rfl rfl hb7 rfl rfl (ones_of rfl) (fun w8 hb78 hg8 => ?_)
  have hx := hx.st hg8 (.inr (List.mem_cons_self ..))
  have hK := HF.of hb78 hx
  have hH := hH.st hg8 (.inr (List.mem_cons_self ..)) (by omega)
  have hb2 := hb2.kept hg8 (fun e => by have := Option.some.inj e; omega)
  have hr8 := hr7.kept hg8 (fun b e => by cases e; omega)
  have hE8 := hE7.stT hg8 hb7 (by decide)
  have hG := grown_new hG hg8 (by omega)
  clear hb7 hb78 hg8 hx hr7 hr6 hr5 hr4 hrb hE6 hE7 hk e7 hg6 hg5
  have he := hE8.err
  obtain ⟨vo, vc, hb4, hy⟩ := hH.gx
  (repeat (first | (apply WL.pure; rfl; rfl; rfl) | (apply WL.nil) | (apply EX.thenN) | (apply CW.seq) | (apply CW.region)))
  refine WL.neNil rfl rfl rfl he ?_
  rcases hE8 with ⟨rfl, rfl⟩ | ⟨c, a, rfl, hFl⟩
  rotate_left
  · rw [hFl.err.2]
    (repeat (first | (apply WL.pure; rfl; rfl; rfl) | (apply WL.nil) | (apply EX.thenN) | (apply CW.seq) | (apply CW.region) | (apply WL.ldA; rfl; rfl; rfl; assumption; rfl) | (apply CW.condT; rfl)))
    refine WL.st rfl rfl rfl hb2 rfl rfl (ones_of rfl) (fun w9 hb9 hg9 => ?_)
    (repeat (first | (apply WL.pure; rfl; rfl; rfl) | (apply WL.nil) | (apply EX.thenN) | (apply CW.ret) | (apply EX.thenR)))
    exact EX.retC2 rfl rfl rfl hb9 rfl ⟨⟨_, _, t, st2, rfl, (hy.st hg9 (.inr (by simp))).gl, hr8.kept hg9 (fun b e => by cases e; omega), .inr ⟨_, _, rfl, hFl.stT hg9 hb2 (by decide)⟩⟩, grown_new hG hg9 (Nat.le_refl _)⟩
  rw [show (!nilI Value.nilIface) = false from rfl]
  have hk2 := hk2 _ _ rfl
  obtain ⟨xo, xc, hb7, hz⟩ := hK.gx
  have l27 := hb2.lt
  have l77 := hb7.lt
  dsimp only
  (repeat (first | (apply WL.pure; rfl; rfl; rfl) | (apply WL.nil) | (apply EX.thenN) | (apply CW.seq) | (apply CW.region) | (apply CW.block) | (apply CW.condF; rfl) | (apply CW.skip)))
  rw [show ((txA st1.1).data.toList == (ByteArray.mk #[85]).data.toList) = decide (st1.1 = [85]) from txA_eqd _ _]
  refine CW.cond rfl (fun h => ?_) (fun h => ?_)
  · have h1 : st1.1 = [85] := of_decide_eq_true h
    (repeat (first | (apply CW.seq) | (apply CW.region) | (apply WL.ldA; rfl; rfl; rfl; assumption; rfl)))
    refine WL.call rfl rfl rfl (ltwo_ok w8 (F := GXs w0.heap.size [b7, b4, w0.heap.size] w8) (fun b hb => hb.2.1) 8 hy hz) ?_
    rintro _ w11 ⟨hv, e11⟩
    have hv : GX w0.heap.size [b7, b4, w0.heap.size] w11 _ (.mk 8 0 [t, g]) := GX.plus hv e11 (by omega) (fun r hr => by
      simp only [List.mem_cons, List.not_mem_nil, or_false] at hr
      rcases hr with rfl | rfl | rfl <;> omega)
    obtain ⟨uo', uc', rfl, hk'⟩ := Rd.ltl hv
    have hb2 := hb2.ext e11
    have hr11 := hr8.ext e11
    have hG := grown_tr hG (e11.grw (some rb))
    skip
    refine WL.st rfl rfl rfl hb2 rfl rfl (ones_of rfl) (fun w12 hb212 hg12 => ?_)
    (repeat (first | (apply WL.pure; rfl; rfl; rfl) | (apply WL.nil) | (apply EX.thenN) | (apply CW.ret) | (apply EX.thenR) | (apply EX.inR)))
    exact EX.retC2 rfl rfl rfl hb212 rfl ⟨⟨_, _, _, st2, rfl, (hv.st hg12 (.inr (by simp))).gl, hr11.kept hg12 (fun b e => by cases e; omega), .inl ⟨rfl, by rw [show wayT st1.1 t g = .mk 8 0 [t, g] by unfold wayT; rw [if_pos h1]]⟩⟩, grown_new hG hg12 (Nat.le_refl _)⟩
  have n85 : ¬ st1.1 = [85] := of_decide_eq_false h
  clear h
  (repeat (first | (apply WL.pure; rfl; rfl; rfl) | (apply WL.nil) | (apply EX.thenN) | (apply CW.seq) | (apply CW.region)))
  rw [show ((txA st1.1).data.toList == (ByteArray.mk #[82]).data.toList) = decide (st1.1 = [82]) from txA_eqd _ _]
  refine CW.cond rfl (fun h => ?_) (fun h => ?_)
  · have h1 : st1.1 = [82] := of_decide_eq_true h
    (repeat (first | (apply CW.seq) | (apply CW.region) | (apply WL.ldA; rfl; rfl; rfl; assumption; rfl)))
    refine WL.call rfl rfl rfl (ltwo_ok w8 (F := GXs w0.heap.size [b7, b4, w0.heap.size] w8) (fun b hb => hb.2.1) 9 hy hz) ?_
    rintro _ w11 ⟨hv, e11⟩
    have hv : GX w0.heap.size [b7, b4, w0.heap.size] w11 _ (.mk 9 0 [t, g]) := GX.plus hv e11 (by omega) (fun r hr => by
      simp only [List.mem_cons, List.not_mem_nil, or_false] at hr
      rcases hr with rfl | rfl | rfl <;> omega)
    obtain ⟨uo', uc', rfl, hk'⟩ := Rd.ltl hv
    have hb2 := hb2.ext e11
    have hr11 := hr8.ext e11
    have hG := grown_tr hG (e11.grw (some rb))
    skip
    refine WL.st rfl rfl rfl hb2 rfl rfl (ones_of rfl) (fun w12 hb212 hg12 => ?_)
    (repeat (first | (apply WL.pure; rfl; rfl; rfl) | (apply WL.nil) | (apply EX.thenN) | (apply CW.ret) | (apply EX.thenR) | (apply EX.inR)))
    exact EX.retC2 rfl rfl rfl hb212 rfl ⟨⟨_, _, _, st2, rfl, (hv.st hg12 (.inr (by simp))).gl, hr11.kept hg12 (fun b e => by cases e; omega), .inl ⟨rfl, by rw [show wayT st1.1 t g = .mk 9 0 [t, g] by unfold wayT; rw [if_neg n85]; rw [if_pos h1]]⟩⟩, grown_new hG hg12 (Nat.le_refl _)⟩
  have n82 : ¬ st1.1 = [82] := of_decide_eq_false h
  clear h
  (repeat (first | (apply EX.thenN) | (apply CW.seq) | (apply CW.region) | (apply EX.inN) | (apply CW.skip)))
  refine WL.build rfl rfl rfl rfl ?_
  refine WL.alloc rfl rfl (fun w9 hb8 e9 => ?_)
  have hH := (HF.of hb4 hy).add e9 (Nat.le_refl _)
  have hK := (HF.of hb7 hz).add e9 (Nat.le_refl _)
  have hb2 := hb2.ext e9
  have hr9 := hr8.ext e9
  have hG := grown_tr hG (e9.grw (some rb))
  have l8 := hb8.lt
  have h8a : w0.heap.size < w8.heap.size := by omega
  have h8b : b4 < w8.heap.size := by have := hb4.lt; omega
  have h8c : b7 < w8.heap.size := by omega
  clear hy hz hb4 hb7 hr8
  generalize hB8 : w8.heap.size = b8 at *
  skip
  refine WL.st rfl rfl rfl hb8 rfl rfl (ones_of rfl) (fun w10 hb810 hg10 => ?_)
  have hH := hH.st hg10 (.inr (List.mem_cons_self ..)) (by omega)
  have hK := hK.st hg10 (.inr (List.mem_cons_self ..)) (by omega)
  have hb2 := hb2.kept hg10 (fun e => by have := Option.some.inj e; omega)
  have hr10 := hr9.kept hg10 (fun b e => by cases e; omega)
  have hG := grown_new hG hg10 (by omega)
  have hM : HF 28 w10 b8 w0.heap.size [b8, b7, b4, w0.heap.size] (.mk 1 0 []) := HF.of hb810 (Rd.mkLtl (kids := []) (Sl.zero _ _))
  clear hb8 hb810 hg10 hr9
  have l10 := hM.lt
  (repeat (first | (apply WL.pure; rfl; rfl; rfl) | (apply WL.nil) | (apply EX.thenN)))
  refine CW.cutI (S := Ltl) (fun _ => [(2, .pointer (some ⟨w0.heap.size, 0, none⟩)), (4, .pointer (some ⟨b4, 0, none⟩)), (7, .pointer (some ⟨b7, 0, none⟩)), (8, .pointer (some ⟨b8, 0, none⟩))])
    (fun h w => w0.grownBy w (some rb) ∧ Blk w w0.heap.size 28 [.int .i64 0, .int .i64 0, .slice none 0 0] ∧ Rdr 125 w rb s no nc nms o st2 ∧ HF 28 w b4 w0.heap.size [b8, b7, b4, w0.heap.size] t ∧ HF 28 w b7 w0.heap.size [b8, b7, b4, w0.heap.size] g ∧
      HF 28 w b8 w0.heap.size [b8, b7, b4, w0.heap.size] h ∧ h = (if szF g 0 ≤ 60 then g else .mk 1 0 [])) ?_ ?_
  · obtain ⟨xo, xc, hb7, hsl⟩ := id hK
    have hFX : ∀ b, GXs w0.heap.size [b8, b7, b4, w0.heap.size] w10 b → b < w10.heap.size := fun b hb => hb.2.1
    have hb8 := hM.lt
    (repeat (first | (apply CW.seq) | (apply CW.region) | (apply WL.ldA; rfl; rfl; rfl; assumption; rfl)))
    refine WL.call rfl rfl rfl (lsize_ok g.nodes g (Nat.le_refl _) w10 _ xo xc 0 hsl hFX (by decide) (by decide)) ?_
    rintro _ w11 ⟨rfl, e11⟩
    have hb7 := hb7.ext e11
    (repeat (first | (apply WL.pure; rfl; rfl; rfl) | (apply WL.nil) | (apply EX.thenN)))
    refine CW.cond rfl (fun h => ?_) (fun h => ?_)
    · have h60 : szF g 0 ≤ 60 := of_decide_eq_true h
      (repeat (first | (apply CW.region) | (apply WL.ldA; rfl; rfl; rfl; assumption; rfl)))
      refine WL.call rfl rfl rfl (lcopyOf_ok g.nodes g (Nat.le_refl _) hk2 w11 _ xo xc (hsl.up0 e11 hFX) (fun b hb => Nat.lt_of_lt_of_le (hFX b hb) e11.size)) ?_
      rintro _ w12 ⟨⟨kv, rfl, F', hF', hO⟩, e12⟩
      obtain ⟨ko, kc, rfl, hks⟩ := hO.slF (F' := fun b => w11.heap.size ≤ b ∧ b < w12.heap.size) (fun b hb => hF' b hb) (fun x hx => ⟨(hO.lt x hx).1, (hO.lt x hx).2.1⟩)
      have hz11 := e11.size
      have e1012 := e11.trans e12
      have hb2 := hb2.ext e1012
      have hr12 := hr10.ext e1012
      have hH := hH.ext e1012
      have hK := hK.ext e1012
      have hG := grown_tr hG (e1012.grw (some rb))
      have hgg : GL w11.heap.size w12 (ltlV g.k g.n ko g.kids.length kc) g := by
        cases g with
        | mk k n kids => exact Rd.mkLtl hks
      have hgx : GX w0.heap.size [b8, b7, b4, w0.heap.size] w12 (ltlV g.k g.n ko g.kids.length kc) g := GX.of hgg (by omega) (fun r hr => by
        simp only [List.mem_cons, List.not_mem_nil, or_false] at hr
        rcases hr with rfl | rfl | rfl | rfl <;> omega)
      obtain ⟨yo, yc, hb8', _⟩ := hM.ext e1012
      skip
      refine WL.st rfl rfl rfl hb8' rfl rfl (ones_of rfl) (fun w13 hb813 hg13 => ?_)
      (repeat (apply WL.nil))
      exact EX.cutI g (by repeat (first | exact trivial | refine ⟨rfl, ?_⟩)) ⟨grown_new hG hg13 (by omega), hb2.kept hg13 (fun e => by have := Option.some.inj e; omega), hr12.kept hg13 (fun b e => by cases e; omega), hH.st hg13 (.inr (by simp)) (by omega), hK.st hg13 (.inr (by simp)) (by omega), HF.of hb813 (hgx.st hg13 (.inr (by simp))), (if_pos h60).symm⟩
    · have h60 : ¬ szF g 0 ≤ 60 := of_decide_eq_false h
      (repeat (apply CW.skip))
      exact EX.cutI _ (by repeat (first | exact trivial | refine ⟨rfl, ?_⟩)) ⟨grown_tr hG (e11.grw _), hb2.ext e11, hr10.ext e11, hH.ext e11, hK.ext e11, hM.ext e11, (if_neg h60).symm⟩
  clear hG hb2 hr10 hH hK hM
  rintro h w11 ⟨hG, hb2, hr11, hH, hK, hM, hh⟩
  have hD := Ext.drew w11
  have hb2 := hb2.ext hD
  have hr12 := hr11.ext hD
  have hG := grown_tr hG (hD.grw _)
  obtain ⟨vo, vc, hb4, hy⟩ := (hH.ext hD).gx
  obtain ⟨xo, xc, hb7, hz⟩ := (hK.ext hD).gx
  obtain ⟨mo, mc, hb8, hm⟩ := (hM.ext hD).gx
  have l2d := hb2.lt
  have l4d := hb4.lt
  have l7d := hb7.lt
  have l8d := hb8.lt
  have hXX : ∀ w, Ext (drew w11) w → w0.heap.size ≤ w.heap.size ∧ ∀ r ∈ [b8, b7, b4, w0.heap.size], r < w.heap.size := fun w hw => by
    have := hw.size
    refine ⟨by omega, fun r hr => ?_⟩
    simp only [List.mem_cons, List.not_mem_nil, or_false] at hr
    rcases hr with rfl | rfl | rfl | rfl <;> omega
  (repeat (apply CW.seq))
  refine CW.drawM 5 mixed (by kernel_rfl) ?_
  (repeat (apply ML.q; rfl; rfl; rfl; (intro γ' w' hw'; apply WL.ldA; rfl; rfl; rfl; apply Blk.ext; assumption; exact hw'; rfl; exact WL.nil (EX.mm rfl (Ext.refl _) rfl))))
  refine ML.fc (fun v γ w => GX w0.heap.size [b8, b7, b4, w0.heap.size] w v (.mk 6 0 [t, h])) rfl rfl rfl (fun v γ γ' w w' h e _ => h.ext e) (fun γ w hw => WL.call rfl rfl rfl (ltwo_ok w (F := GXs w0.heap.size [b8, b7, b4, w0.heap.size] w) (fun b hb => hb.2.1) 6 (hy.ext hw) (hm.ext hw)) (fun v w' h => WL.nil (EX.mm rfl h.2 (GX.plus h.1 h.2 (hXX w hw).1 (hXX w hw).2)))) ?_
  refine ML.fc (fun v γ w => GX w0.heap.size [b8, b7, b4, w0.heap.size] w v (.mk 9 0 [g, .mk 6 0 [t, h]])) rfl rfl rfl (fun v γ γ' w w' h e _ => h.ext e) (fun γ w hw v64 g64 => WL.call rfl rfl rfl (ltwo_ok w (F := GXs w0.heap.size [b8, b7, b4, w0.heap.size] w) (fun b hb => hb.2.1) 9 (hz.ext hw) g64) (fun v w' h => WL.nil (EX.mm rfl h.2 (GX.plus h.1 h.2 (hXX w hw).1 (hXX w hw).2)))) ?_
  refine ML.nil fun γ w13 hw13 v65 g65 v64 g64 => ?_
  change WL _ _ _ _ _ _ _
  obtain ⟨uo, uc, rfl, hku⟩ := Rd.ltl g65
  refine WL.st rfl rfl rfl (hb2.ext hw13) rfl rfl (ones_of rfl) (fun w14 hb214 hg14 => ?_)
  have hv := g65.st hg14 (.inr (by simp))
  have hG := grown_new (grown_tr hG (hw13.grw _)) hg14 (Nat.le_refl _)
  have hr14 := (hr12.ext hw13).kept hg14 (fun b e => by cases e; omega)
  (repeat (apply WL.pure; rfl; rfl; rfl))
  refine WL.nil (EX.tailE ?_)
  (repeat (first | (apply EX.thenN) | (apply CW.ret)))
  refine EX.retC2 rfl rfl rfl hb214 rfl ⟨⟨_, _, _, st2, rfl, hv.gl, hr14, .inl ⟨rfl, ?_⟩⟩, hG⟩
  rw [show wayT st1.1 t g = .mk 9 0 [g, .mk 6 0 [t, h]] by unfold wayT; rw [if_neg n85, if_neg n82, hh]]
end Go.Proofs.YtikigaeihdmcaaaGreatDoor

/-
  ltl.Parse, walked: the reader, all together.
-/
set_option linter.unusedVariables false
set_option linter.unusedSimpArgs false
namespace Go.Proofs.YtikigaeihdmcaaaGreatDoor
open Go.RowKit

theorem lreader_ok {sa : Nat → Addr} {rb : Nat} {s : Bys} {no : Option Addr} {nc : Nat} {nms : List ByteArray} (hs : s.length ≤ 300) (hBn : 3 < rb ∧ ∀ i, i < 3 → (sa i).block < rb) : ∀ n, SinL sa rb s no nc nms n ∧ WayOK sa rb s no nc nms n ∧ ForL sa rb s no nc nms n
  | 0 => ⟨fun m hm o st w hr hS ho h => by omega, fun m hm o st w hr hS ho h => by omega, fun m hm o st w hr hS ho h => by omega⟩
  | n + 1 => by
    obtain ⟨h1, h2, h3⟩ := lreader_ok (no := no) (nc := nc) (nms := nms) hs hBn n
    refine ⟨fun m hm o st w hr hS ho h => ?_, fun m hm o st w hr hS ho h => ?_, fun m hm o st w hr hS ho h => ?_⟩
    · by_cases e : m = n + 1
      · subst e
        exact lsingle_ok w hr hs hS hBn ho h1 h3 h
      · exact h1 m (by omega) o st w hr hS ho h
    · by_cases e : m = n + 1
      · subst e
        exact lway_ok w hr hs hS hBn ho h1 h2 h
      · exact h2 m (by omega) o st w hr hS ho h
    · exact lformula_ok w hr hs hS hBn ho h2 m hm h
/-- what Parse makes of what was read -/
def finL (N : Nat) : PR → Ltl × Nat × Int
  | .er c a => (.mk 0 0 [], a, c)
  | .ok f st => if st.1 ≠ [] then (.mk 0 0 [], atT N st, 3) else if (chkF f 1 0).1 ≠ 0 then (.mk 0 0 [], N, (chkF f 1 0).1) else (f, 0, 0)
theorem parseL_fin (s : Bys) (nms : List ByteArray) : parseL s nms = if s.length > 300 then (.mk 0 0 [], 0, 2) else finL s.length (pFor nms s.length (10 * s.length + 20) 0 [] (nxT s)) := by
  unfold parseL
  split
  · rfl
  · cases pFor nms s.length (10 * s.length + 20) 0 [] (nxT s) <;> rfl
end Go.Proofs.YtikigaeihdmcaaaGreatDoor

/-
  ltl.Parse, walked: all of it.
-/
set_option linter.unusedVariables false
set_option linter.unusedSimpArgs false
namespace Go.Proofs.YtikigaeihdmcaaaGreatDoor
open Go.RowKit

set_option maxHeartbeats 2000000 in
theorem lparse_ok (w0 : World) (hE : ErrH w0) {sa : Nat → Addr} (hSn : SenH w0 sa) {s : Bys} {no : Option Addr} {nc : Nat} {nms : List ByteArray} (hn : Sl w0 (Old w0) no nc nms) :
    Rt Tryz.prog 67 [tV s, .slice no nms.length nc].toArray w0 fun v w' => ∃ x, v = .tuple ⟨[x, .int .i64 ((parseL s nms).2.1 : Int), .int .i64 (parseL s nms).2.2]⟩ ∧ GL w0.heap.size w' x (parseL s nms).1 ∧ Ext w0 w' := by
  have h1 := hE.lt
  refine Rt.enter2 Tryz.func67 Tryz.ntmps67 rfl rfl ?_
  rw [parseL_fin]
  (repeat (first | (apply CW.seq) | (apply CW.region)))
  refine WL.alloc rfl rfl (fun w1 hb4 e1 => ?_)
  have l4 := hb4.lt
  (repeat (first | (apply WL.pure; rfl; rfl; rfl) | (apply WL.nil) | (apply EX.thenN) | (apply CW.seq) | (apply CW.region)))
  refine WL.lenB rfl rfl rfl ?_
  (repeat (first | (apply WL.pure; rfl; rfl; rfl) | (apply WL.nil) | (apply EX.thenN)))
  refine CW.cond rfl (fun h => ?_) (fun h => ?_)
  · have h : s.length > 300 := by have : (s.length : Int) > 300 := by simpa using h
                                  omega
    rw [if_pos h]
    (repeat (first | (apply CW.seq) | (apply CW.region)))
    refine WL.build (parts := []) rfl rfl rfl rfl ?_
    skip
    refine WL.st rfl rfl rfl hb4 rfl rfl (ones_of rfl) (fun w2 hb42 hg2 => ?_)
    (repeat (first | (apply WL.pure; rfl; rfl; rfl) | (apply WL.nil) | (apply EX.thenN) | (apply CW.ret) | (apply EX.thenR)))
    exact EX.retC3 rfl rfl rfl rfl hb42 rfl ⟨_, rfl, GL.zero 0 0, e1.grown hg2 e1.size (fun g hg => by cases hg; exact Nat.le_refl _)⟩
  have hs : s.length ≤ 300 := by have : ¬ (s.length : Int) > 300 := by simpa using h
                                 omega
  rw [if_neg (by omega)]
  clear h
  (repeat (first | (apply WL.pure; rfl; rfl; rfl) | (apply EX.thenN) | (apply CW.seq) | (apply CW.region) | (apply CW.skip)))
  refine WL.build rfl rfl rfl rfl ?_
  refine WL.boxB rfl rfl rfl fun w2 hbr e2 => ?_
  have hb4 := hb4.ext e2
  have e12 := e1.trans e2
  have lr := hbr.lt
  have hr2 : Rdr 125 w2 w1.heap.size s no nc nms 0 ([], s) := ⟨by
    have : atT s.length ([], s) = 0 := by simp [atT]
    rw [this, show ([], s).2.length = s.length from rfl, Nat.sub_self]
    exact hbr, hn.mono (fun b hb => e12.block b hb) (fun b hb => by show b < _; have : b < w0.heap.size := hb; omega), by simp, by simp⟩
  generalize hRB : w1.heap.size = rb at *
  have h2 : ErrH w2 := hE.kept (e12.grw none) (by simp)
  have hBn : 3 < rb ∧ ∀ i, i < 3 → (sa i).block < rb := by
    have h3 := cell_lt hSn.g2
    have h3' : 3 < w0.heap.size := h3
    refine ⟨by omega, fun i hi => ?_⟩
    obtain ⟨c, t, e⟩ := hSn.h i hi
    rcases Nat.lt_or_ge (sa i).block w0.heap.size with h | h
    · omega
    · rw [Array.getElem?_eq_none h] at e; cases e
  have hS2 : SenH w2 sa := hSn.kept (e12.grw none) (fun b e => by cases e) hBn
  (repeat (first | (apply WL.pure; rfl; rfl; rfl) | (apply WL.nil) | (apply EX.thenN) | (apply CW.seq) | (apply CW.region)))
  refine WL.call rfl rfl rfl (lnext_ok w2 hr2 hs) ?_
  rintro _ w3 ⟨hr3, hg3⟩
  have hb4 := hb4.kept hg3 (fun e => by have := Option.some.inj e; omega)
  have hG := hg3
  have z3 := hg3.size
  have hm3 : mT (nxT s) ≤ s.length := nxT_len s
  (repeat (first | (apply WL.pure; rfl; rfl; rfl) | (apply WL.nil) | (apply EX.thenN) | (apply CW.seq) | (apply CW.region)))
  refine WL.call rfl rfl rfl ((lreader_ok hs hBn (10 * s.length + 20)).2.2 (10 * s.length + 20) (Nat.le_refl _) 0 _ w3 hr3 (hS2.kept hg3 (fun b e => by cases e; exact Nat.le_refl _) hBn) (by omega) (by show 10 * mT (nxT s) + 8 ≤ _; omega)) ?_
  rintro _ w4 ⟨⟨x, e, t, st1, rfl, hx, hr4, hE4⟩, hg4⟩
  have l3 := hb4.lt
  have lr3 := hr3.lt
  have hb4 := hb4.kept hg4 (fun e => by have := Option.some.inj e; omega)
  have hG := grown_tr hG hg4
  have hx : GX w0.heap.size [w0.heap.size] w4 x t := GX.of hx (by omega) (fun r hr => by rw [List.mem_singleton.1 hr]; exact l3)
  have hE4 : ErL w4 w0.heap.size (pFor nms s.length (10 * s.length + 20) 0 [] (nxT s)) e t st1 := hE4.low (by omega)
  generalize pFor nms s.length (10 * s.length + 20) 0 [] (nxT s) = R at *
  obtain ⟨uo, uc, rfl, hk⟩ := Rd.ltl hx
  have z4 := hg4.size
  (repeat (apply WL.pure; rfl; rfl; rfl))
  refine WL.alloc rfl rfl (fun w5 hb8 e5 => ?_)
  have hx := hx.add e5 (Nat.le_refl _)
  have hb4 := hb4.ext e5
  have hr5 := hr4.ext e5
  have hE5 := hE4.ext e5
  have hG := grown_tr hG (e5.grw (some rb))
  have h48 : w0.heap.size < w4.heap.size := by omega
  have hr8 : rb < w4.heap.size := hr4.lt
  have l8 := hb8.lt
  generalize hB8 : w4.heap.size = b8 at *
  skip
  refine WL.st rfl rfl rfl hb8 rfl rfl (ones_of rfl) (fun w6 hb86 hg6 => ?_)
  have hx := hx.st hg6 (.inr (List.mem_cons_self ..))
  have hH := HF.of hb86 hx
  have hb4 := hb4.kept hg6 (fun e => by have := Option.some.inj e; omega)
  have hr6 := hr5.kept hg6 (fun b e => by cases e; omega)
  have hE6 := hE5.stT hg6 hb8 (by decide)
  have hG := grown_row hG hg6 (fun g hg => by cases hg; have := e2.size; omega)
  have hrb := hr6.blk
  have he := hE6.err
  have z6 := hg6.size
  clear hb8 hb86 hx hr5 hr4 hE5 hE4 hr3 hr2 hg6 hk hg3 hg4
  (repeat (first | (apply WL.pure; rfl; rfl; rfl) | (apply WL.nil) | (apply EX.thenN)))
  refine CW.cutI (S := Value) (fun e => [(0, tV s), (4, .pointer (some ⟨w0.heap.size, 0, none⟩)), (8, .pointer (some ⟨b8, 0, none⟩)), (9, e)])
    (fun e w => w2.grownBy w (some rb) ∧ w6.heap.size ≤ w.heap.size ∧ Blk w w0.heap.size 28 [.int .i64 0, .int .i64 0, .slice none 0 0] ∧ HF 28 w b8 w0.heap.size [b8, w0.heap.size] t ∧
      ((e = .nilIface ∧ R = .ok t st1 ∧ st1.1 = []) ∨ ∃ c a, FlL w w0.heap.size c a e ∧ finL s.length R = (.mk 0 0 [], a, c))) ?_ ?_
  · (repeat (first | (apply WL.pure; rfl; rfl; rfl) | (apply CW.seq) | (apply CW.region)))
    refine WL.eqNil rfl rfl rfl he ?_
    rcases hE6 with ⟨rfl, rfl⟩ | ⟨c, a, rfl, hF⟩
    · rw [show nilI Value.nilIface = true from rfl]
      (repeat (first | (apply WL.pure; rfl; rfl; rfl) | (apply WL.nil) | (apply EX.thenN) | (apply WL.fa; rfl; rfl; rfl) | (apply WL.nck; rfl; rfl; rfl) | (apply WL.ld; rfl; rfl; rfl; assumption; rfl)))
      rw [show ((txA st1.1).data.toList == (ByteArray.mk #[]).data.toList) = decide (st1.1 = []) from txA_eqd _ _]
      refine CW.cond rfl (fun h => ?_) (fun h => ?_)
      · have h : ¬ st1.1 = [] := by simpa using h
        have hD := Ext.drew w6
        have hrd := hr6.ext hD
        have hGd := grown_tr hG (hD.grw _)
        have hSd : SenH (drew w6) sa := hS2.kept hGd (fun b e => by cases e; exact Nat.le_refl _) hBn
        skip
        refine CW.drawH (fun z : World => Blk z rb 125 [tV s, .slice no nms.length nc, tV st1.1, .int .i64 (atT s.length st1 : Int), .int .i64 ((s.length - st1.2.length : Nat) : Int), .int .i64 ((0 : Nat) : Int)] ∧ z.cell? ⟨0, 0, none⟩ = some (.iface 205 (.pointer (some (sa 0))))) [(0, true), (1, true), (2, true), (3, true), (4, true), (5, false), (6, true)] mixed (by kernel_rfl) ⟨hrd.blk, hSd.g0⟩ ?_
        refine HL.ldG (fun z hz => hz.2) rfl rfl rfl rfl ?_
        (repeat (first | (apply HL.pure; rfl; rfl; rfl; rfl) | (refine HL.fa rfl rfl rfl rfl ?_) | (apply HL.nck; rfl; rfl; rfl; rfl)))
        refine HL.ldS (fun z hz => hz.1) rfl rfl rfl rfl rfl ?_
        refine HL.mut rfl (WL.call rfl rfl rfl (lfault_ok (drew w6) hSd (i := 0) (by omega) (atT s.length st1)) ?_)
        rintro e w7 ⟨hF, e7⟩
        have hr7 := hrd.ext e7
        have hG7 := grown_tr hGd (e7.grw _)
        refine WL.nil (EX.mut ⟨hr7.blk, (hS2.kept hG7 (fun b e => by cases e; exact Nat.le_refl _) hBn).g0⟩ ?_)
        (repeat (first | (apply HL.pure; rfl; rfl; rfl; rfl) | (apply HL.nil)))
        skip
        exact EX.cutI _ (by repeat (first | exact trivial | refine ⟨rfl, ?_⟩)) ⟨hG7, Nat.le_trans hD.size e7.size, (hb4.ext hD).ext e7, (hH.ext hD).ext e7, .inr ⟨_, _, hF.low (by show w0.heap.size ≤ w6.heap.size; omega), if_pos h⟩⟩
      · have h : st1.1 = [] := by simpa using h
        (repeat (apply CW.skip))
        exact EX.cutI _ (by repeat (first | exact trivial | refine ⟨rfl, ?_⟩)) ⟨hG, Nat.le_refl _, hb4, hH, .inl ⟨rfl, rfl, h⟩⟩
    · rw [hF.err.2]
      (repeat (first | (apply WL.pure; rfl; rfl; rfl) | (apply WL.nil) | (apply EX.thenN) | (apply WL.pass; rfl; rfl) | (apply CW.condF; rfl) | (apply CW.skip)))
      exact EX.cutI _ (by repeat (first | exact trivial | refine ⟨rfl, ?_⟩)) ⟨hG, Nat.le_refl _, hb4, hH, .inr ⟨c, a, hF, rfl⟩⟩
  clear hG hb4 hH hr6 hrb he hE6
  rintro e w7 ⟨hG, z7, hb4, hH, hI⟩
  have l87 := hH.lt
  have l47 := hb4.lt
  have h7 : ErrH w7 := h2.kept hG (fun e => by have := Option.some.inj e; omega)
  have hX : Ext w0 w7 := e12.grown hG e12.size (fun g hg => by cases hg; have := e1.size; omega)
  (repeat (first | (apply CW.seq) | (apply CW.region)))
  refine WL.alloc rfl rfl (fun w8 hb10 e8 => ?_)
  have hb4 := hb4.ext e8
  have hH := hH.ext e8
  have h8 : ErrH w8 := h7.kept (e8.grw none) (by simp)
  have hX := hX.trans e8
  have l10 := hb10.lt
  have h710 : w0.heap.size < w7.heap.size := by omega
  have h810 : b8 < w7.heap.size := by omega
  (repeat (first | (apply WL.pure; rfl; rfl; rfl) | (apply WL.nil) | (apply EX.thenN) | (apply CW.seq) | (apply CW.region)))
  refine WL.mkIf rfl rfl rfl Tryz.underlying133 rfl ?_
  rcases hI with ⟨rfl, rfl, hst⟩ | ⟨c, a, hF, hR⟩
  · refine WL.call rfl rfl rfl (as_none w8 _) ?_
    rintro _ w9 ⟨rfl, rfl⟩
    dsimp only [finL]
    rw [if_neg (by simp [hst])]
    have hy := hH.gx
    obtain ⟨vo, vc, hb8, hsl⟩ := hH
    (repeat (first | (apply WL.nil) | (apply EX.thenN) | (apply CW.seq) | (apply CW.region) | (apply WL.ldA; rfl; rfl; rfl; assumption; rfl) | (apply CW.condF; rfl) | (apply CW.skip)))
    refine WL.call rfl rfl rfl (ltlCheck w9 (t := t) (F := GXs w0.heap.size [b8, w0.heap.size] w9) hsl (fun b hb => hb.2.1)) ?_
    rintro _ w10 ⟨rfl, e10⟩
    have hb4 := hb4.ext e10
    have hb8 := hb8.ext e10
    have hX := hX.trans e10
    have hy : GX w0.heap.size [b8, w0.heap.size] w9 (ltlV t.k t.n vo t.kids.length vc) t := by
      cases t with
      | mk k n kids => exact Rd.mkLtl hsl
    have hy := hy.ext e10
    (repeat (first | (apply WL.pure; rfl; rfl; rfl) | (apply WL.nil) | (apply EX.thenN) | (apply CW.seq) | (apply CW.region)))
    refine CW.cond rfl (fun h => ?_) (fun h => ?_)
    · have h : (chkF t 1 0).1 ≠ 0 := by simpa using h
      rw [if_pos h]
      (repeat (first | (apply CW.seq) | (apply CW.region)))
      refine WL.build (parts := []) rfl rfl rfl rfl ?_
      (repeat (apply WL.pure; rfl; rfl; rfl))
      refine WL.lenB rfl rfl rfl ?_
      (repeat (apply WL.pure; rfl; rfl; rfl))
      refine WL.st rfl rfl rfl hb4 rfl rfl (ones_of rfl) (fun w11 hb11 hg11 => ?_)
      (repeat (first | (apply WL.pure; rfl; rfl; rfl) | (apply WL.nil) | (apply EX.thenN) | (apply CW.ret) | (apply EX.thenR)))
      exact EX.retC3 rfl rfl rfl rfl hb11 rfl ⟨_, rfl, GL.zero 0 0, hX.grown hg11 hX.size (fun g hg => by cases hg; exact Nat.le_refl _)⟩
    · have h : (chkF t 1 0).1 = 0 := by simpa using h
      rw [if_neg (by simp [h])]
      (repeat (first | (apply EX.thenN) | (apply CW.seq) | (apply CW.region) | (apply WL.ldA; rfl; rfl; rfl; assumption; rfl) | (apply CW.skip)))
      refine WL.st rfl rfl rfl hb4 rfl rfl (ones_of rfl) (fun w11 hb11 hg11 => ?_)
      (repeat (first | (apply WL.pure; rfl; rfl; rfl) | (apply WL.nil) | (apply EX.thenN) | (apply CW.ret)))
      exact EX.retC3 rfl rfl rfl rfl hb11 rfl ⟨_, rfl, (hy.st hg11 (.inr (by simp))).gl, hX.grown hg11 hX.size (fun g hg => by cases hg; exact Nat.le_refl _)⟩
  · obtain ⟨fb, why, rfl, hfB, hfb⟩ := hF.ext e8
    have lfb : fb < w7.heap.size := by
      obtain ⟨fb', why', e', _, h'⟩ := hF
      cases e'
      exact h'.lt
    refine WL.call rfl rfl rfl (as_fault w8 h8 hb10) ?_
    rintro _ w9 ⟨rfl, hb109, hg9⟩
    have hb4 := hb4.kept hg9 (fun e => by have := Option.some.inj e; omega)
    have hfb := hfb.kept hg9 (fun e => by have := Option.some.inj e; omega)
    have hX : Ext w0 w9 := hX.grown hg9 hX.size (fun g hg => by cases hg; omega)
    have hD := Ext.drew w9
    have hb4 := hb4.ext hD
    have hfb := hfb.ext hD
    have hb10 := hb109.ext hD
    have hX := hX.trans hD
    generalize hB10 : w7.heap.size = b10 at *
    clear hb109 hg9 h8 h7 hF hH
    rw [hR]
    (repeat (first | (apply WL.nil) | (apply EX.thenN) | (apply CW.seq) | (apply CW.condT; rfl)))
    refine CW.drawH (fun z : World => z.heap[b10]? = (drew w9).heap[b10]? ∧ z.heap[fb]? = (drew w9).heap[fb]?) [(0, true), (1, true), (2, true), (3, true), (4, true), (5, true), (6, true), (7, true), (8, true), (9, false), (10, true), (11, true)] mixed (by kernel_rfl) ⟨rfl, rfl⟩ ?_
    refine HL.build (parts := []) rfl rfl rfl rfl rfl ?_
    refine HL.ldS (fun z hz => hz.1.trans hb10) rfl rfl rfl rfl rfl ?_
    (repeat (first | (refine HL.fa rfl rfl rfl rfl ?_) | (apply HL.nck; rfl; rfl; rfl; rfl)))
    refine HL.ldS (fun z hz => hz.2.trans hfb) rfl rfl rfl rfl rfl ?_
    refine HL.ldS (fun z hz => hz.1.trans hb10) rfl rfl rfl rfl rfl ?_
    (repeat (first | (refine HL.fa rfl rfl rfl rfl ?_) | (apply HL.nck; rfl; rfl; rfl; rfl)))
    refine HL.ldS (fun z hz => hz.2.trans hfb) rfl rfl rfl rfl rfl ?_
    refine HL.mut rfl (WL.st rfl rfl rfl hb4 rfl rfl (ones_of rfl) (fun w11 hb11 hg11 => ?_))
    refine WL.nil (EX.mut ⟨hg11.block _ hb10.lt (fun e => by have := Option.some.inj e; omega), hg11.block _ hfb.lt (fun e => hfb.neT hb4 (by decide) (Option.some.inj e))⟩ ?_)
    (repeat (first | (apply HL.pure; rfl; rfl; rfl; rfl) | (apply HL.nil)))
    (repeat (first | (apply EX.thenN) | (apply CW.ret) | (apply EX.thenR)))
    exact EX.retC3 rfl rfl rfl rfl hb11 rfl ⟨_, rfl, GL.zero 0 0, hX.grown hg11 hX.size (fun g hg => by cases hg; exact Nat.le_refl _)⟩
end Go.Proofs.YtikigaeihdmcaaaGreatDoor

