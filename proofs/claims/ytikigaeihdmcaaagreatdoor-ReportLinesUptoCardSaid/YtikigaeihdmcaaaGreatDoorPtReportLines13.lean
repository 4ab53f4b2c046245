import Derived.WalkKit
import Derived.LaidEql
import Derived.Stop.Asserts
import Derived.RowKitTokens
import Derived.Test.YtikigaeihdmcaaaGreatDoorPtReportLines12
/-
  ctl.Parse, walked: one part.
-/
set_option linter.unusedVariables false
set_option linter.unusedSimpArgs false
namespace Go.Proofs.YtikigaeihdmcaaaGreatDoor
open Go.RowKit

theorem headD_0 {l : Bys} (h : 0 < l.length) : l.headD 0 = l[0] := by
  cases l with
  | nil => simp at h
  | cons c r => rfl
/-- what stands behind a ( -/
def braC (N : Nat) : PR → PR
  | .er c a => .er c a
  | .ok g st2 => if st2.1 = [41] then .ok g (nxT st2.2) else .er 3 (atT N st2)
set_option maxHeartbeats 2000000 in
theorem csingle_ok {rb : Nat} {s : Bys} {no : Option Addr} {nc : Nat} {nms : List ByteArray} {n o : Nat} {st : Bys × Bys} (w0 : World) (hr : Rdr 139 w0 rb s no nc nms o st) (hs : s.length ≤ 300) (ho : o ≤ 20) (hS : SinOK rb s no nc nms n) (hF : ForOK rb s no nc nms n) (hn : 10 * mT st + 1 ≤ n + 1) :
    Rt Tryz.prog 121 [.pointer (some ⟨rb, 0, none⟩)].toArray w0 fun v w' => PRs 139 rb s no nc nms o w0.heap.size (cSin nms s.length (n + 1) o st) v w' ∧ w0.grownBy w' (some rb) := by
  have hrl := hr.lt
  refine Rt.enter1 Tryz.func121 Tryz.ntmps121 rfl rfl ?_
  rw [cSin]
  (repeat (first | (apply CW.seq) | (apply CW.region)))
  refine WL.boxB rfl rfl rfl fun w1 hb1 e1 => ?_
  have l1 := hb1.lt
  refine WL.alloc rfl rfl (fun w2 hb2 e2 => ?_)
  have l2 := hb2.lt
  have hb1 := hb1.ext e2
  have hE2 := e1.trans e2
  have hr2 := hr.ext hE2
  have hrb := hr2.blk
  have hG := hE2.grw (some rb)
  have hXX : ∀ r ∈ [w1.heap.size, w0.heap.size], r < w2.heap.size := fun r hr => by
    simp only [List.mem_cons, List.not_mem_nil, or_false] at hr
    rcases hr with rfl | rfl <;> omega
  clear hr
  generalize hB2 : w1.heap.size = b2 at *
  (repeat (first | (apply WL.pure; rfl; rfl; rfl) | (apply WL.nil) | (apply EX.thenN) | (apply CW.seq) | (apply CW.region) | (apply WL.fa; rfl; rfl; rfl) | (apply WL.nck; rfl; rfl; rfl) | (apply WL.ld; rfl; rfl; rfl; assumption; rfl) | (apply CW.block)))
  rw [txA_eqd]
  refine CW.cond rfl (fun h => ?_) (fun h => ?_)
  · have h1 : st.1 = [33] := of_decide_eq_true h
    rw [if_pos h1]
    have hm1 := mT_nx1 (st := st) (by rw [h1]; decide)
    (repeat (first | (apply CW.seq) | (apply CW.region) | (apply WL.makeFunc; rfl; rfl; rfl; rfl) | (apply WL.ld; rfl; rfl; rfl; assumption; rfl)))
    refine WL.call rfl rfl rfl (cwithin_ok w2 hr2 hs ho (r := cSin nms s.length n (o + 1) (nxT st.2)) (fun ho' w hr hg => FnV.mkM (fs := [_]) (hS n (Nat.le_refl _) (o + 1) _ w hr (by omega) (by omega)))) ?_
    rintro _ w3 ⟨⟨x, e, t, st1, rfl, hx, hr3, hE3⟩, hg3⟩
    have hb1 := hb1.kept hg3 (fun e => by have := Option.some.inj e; omega)
    have hb2 := hb2.kept hg3 (fun e => by have := Option.some.inj e; omega)
    have hG := grown_tr hG hg3
    have hx : GX w0.heap.size [b2, w0.heap.size] w3 x t := GX.of hx hE2.size hXX
    have hE3 := hE3.low (B' := w0.heap.size) hE2.size
    have z3 := hg3.size
    obtain ⟨uo, uc, rfl, hk⟩ := Rd.ltl hx
    (repeat (apply WL.pure; rfl; rfl; rfl))
    refine WL.alloc rfl rfl (fun w4 hb4 e4 => ?_)
    have hx := hx.add e4 (Nat.le_refl _)
    have hb2 := hb2.ext e4
    have hr4 := hr3.ext e4
    have hE4 := hE3.ext e4
    have hG := grown_tr hG (e4.grw (some rb))
    have h46 : b2 < w3.heap.size := by omega
    have h47 : w0.heap.size < w3.heap.size := by omega
    have l13 := hb4.lt
    generalize hB6 : w3.heap.size = b4 at *
    skip
    refine WL.st rfl rfl rfl hb4 rfl rfl (ones_of rfl) (fun w5 hb45 hg5 => ?_)
    have hx := hx.st hg5 (.inr (List.mem_cons_self ..))
    have hb2 := hb2.kept hg5 (fun e => by have := Option.some.inj e; omega)
    have hr5 := hr4.kept hg5 (fun b e => by cases e; omega)
    have hE5 := hE4.stT hg5 hb4 (by decide)
    have hG := grown_new hG hg5 (by omega)
    have z5 := hg5.size
    (repeat (first | (apply WL.pure; rfl; rfl; rfl) | (apply WL.nil) | (apply EX.thenN) | (apply CW.seq) | (apply CW.region) | (apply WL.ldA; rfl; rfl; rfl; assumption; rfl)))
    refine WL.call rfl rfl rfl (cone_ok w5 (F := GXs w0.heap.size [b4, b2, w0.heap.size] w5) (fun b hb => hb.2.1) 4 hx) ?_
    rintro _ w11 ⟨hv, e11⟩
    have hv : GX w0.heap.size [b4, b2, w0.heap.size] w11 _ (.mk 4 0 [t]) := GX.plus hv e11 (by omega) (fun r hr => by
      simp only [List.mem_cons, List.not_mem_nil, or_false] at hr
      rcases hr with rfl | rfl | rfl <;> omega)
    obtain ⟨uo', uc', rfl, hk'⟩ := Rd.ltl hv
    have hb2 := hb2.ext e11
    have hr11 := hr5.ext e11
    have hE := hE5.ext e11
    have hG := grown_tr hG (e11.grw (some rb))
    (repeat (apply WL.pure; rfl; rfl; rfl))
    refine WL.st rfl rfl rfl hb2 rfl rfl (ones_of rfl) (fun w12 hb212 hg12 => ?_)
    (repeat (first | (apply WL.pure; rfl; rfl; rfl) | (apply WL.nil) | (apply EX.thenN) | (apply CW.ret) | (apply EX.thenR) | (apply EX.inR)))
    refine EX.retC2 rfl rfl rfl hb212 rfl ⟨⟨_, _, _, st1, rfl, (hv.st hg12 (.inr (by simp))).gl, hr11.kept hg12 (fun b e => by cases e; omega), ?_⟩, grown_new hG hg12 (by omega)⟩
    have hE := hE.stT hg12 hb2 (by decide)
    by_cases h20 : o = 20
    · rw [if_pos h20] at hE ⊢
      rcases hE with ⟨h1, h2⟩ | ⟨c, d, h1, h2⟩
      · cases h2
      · exact .inr ⟨c, d, h1, h2⟩
    · rw [if_neg h20] at hE ⊢
      rcases hE with ⟨h1, h2⟩ | ⟨c, d, h1, h2⟩
      · exact .inl ⟨h1, by rw [h2]⟩
      · exact .inr ⟨c, d, by rw [h1], h2⟩
  have n33 : ¬ st.1 = [33] := of_decide_eq_false h
  rw [if_neg n33]
  clear h
  (repeat (first | (apply WL.pure; rfl; rfl; rfl) | (apply WL.nil) | (apply EX.thenN) | (apply CW.seq) | (apply CW.region)))
  rw [txA_eqd]
  refine CW.cond rfl (fun h => ?_) (fun h => ?_)
  · have h1 : st.1 = [69] := of_decide_eq_true h
    rw [if_pos h1]
    have hm1 := mT_nx1 (st := st) (by rw [h1]; decide)
    obtain ⟨n, rfl⟩ : ∃ k, n = k + 1 := ⟨n - 1, by omega⟩
    (repeat (first | (apply CW.seq) | (apply CW.region) | (apply WL.makeFunc; rfl; rfl; rfl; rfl) | (apply WL.ld; rfl; rfl; rfl; assumption; rfl)))
    refine WL.call rfl rfl rfl (cwithin_ok w2 hr2 hs ho (r := cWays nms s.length (n + 1) false (o + 1) (nxT st.2)) (fun ho' w hr hg => FnV.mk (cs := [_]) (csin1_ok w hr hs (by omega) (fun m hm => hS m (by omega)) (fun m hm => hF m (by omega)) (by omega) (hb1.kept hg (fun e => by have := Option.some.inj e; omega))))) ?_
    rintro _ w3 ⟨⟨x, e, t, st1, rfl, hx, hr3, hE3⟩, hg3⟩
    have hb2 := hb2.kept hg3 (fun e => by have := Option.some.inj e; omega)
    have hG := grown_tr hG hg3
    have hx : GX w0.heap.size [b2, w0.heap.size] w3 x t := GX.of hx hE2.size hXX
    have hE3 := hE3.low (B' := w0.heap.size) hE2.size
    obtain ⟨uo, uc, rfl, hk⟩ := Rd.ltl hx
    (repeat (apply WL.pure; rfl; rfl; rfl))
    refine WL.st rfl rfl rfl hb2 rfl rfl (ones_of rfl) (fun w4 hb24 hg4 => ?_)
    (repeat (first | (apply WL.pure; rfl; rfl; rfl) | (apply WL.nil) | (apply EX.thenN) | (apply CW.ret) | (apply EX.thenR) | (apply EX.inR)))
    exact EX.retC2 rfl rfl rfl hb24 rfl ⟨⟨_, _, t, st1, rfl, (hx.st hg4 (.inr (by simp))).gl, hr3.kept hg4 (fun b e => by cases e; omega), hE3.stT hg4 hb2 (by decide)⟩, grown_new hG hg4 (by omega)⟩
  have n69 : ¬ st.1 = [69] := of_decide_eq_false h
  rw [if_neg n69]
  clear h
  (repeat (first | (apply WL.pure; rfl; rfl; rfl) | (apply WL.nil) | (apply EX.thenN) | (apply CW.seq) | (apply CW.region)))
  rw [txA_eqd]
  refine CW.cond rfl (fun h => ?_) (fun h => ?_)
  · have h1 : st.1 = [65] := of_decide_eq_true h
    rw [if_pos h1]
    have hm1 := mT_nx1 (st := st) (by rw [h1]; decide)
    obtain ⟨n, rfl⟩ : ∃ k, n = k + 1 := ⟨n - 1, by omega⟩
    (repeat (first | (apply CW.seq) | (apply CW.region) | (apply WL.makeFunc; rfl; rfl; rfl; rfl) | (apply WL.ld; rfl; rfl; rfl; assumption; rfl)))
    refine WL.call rfl rfl rfl (cwithin_ok w2 hr2 hs ho (r := cWays nms s.length (n + 1) true (o + 1) (nxT st.2)) (fun ho' w hr hg => FnV.mk (cs := [_]) (csin2_ok w hr hs (by omega) (fun m hm => hS m (by omega)) (fun m hm => hF m (by omega)) (by omega) (hb1.kept hg (fun e => by have := Option.some.inj e; omega))))) ?_
    rintro _ w3 ⟨⟨x, e, t, st1, rfl, hx, hr3, hE3⟩, hg3⟩
    have hb2 := hb2.kept hg3 (fun e => by have := Option.some.inj e; omega)
    have hG := grown_tr hG hg3
    have hx : GX w0.heap.size [b2, w0.heap.size] w3 x t := GX.of hx hE2.size hXX
    have hE3 := hE3.low (B' := w0.heap.size) hE2.size
    obtain ⟨uo, uc, rfl, hk⟩ := Rd.ltl hx
    (repeat (apply WL.pure; rfl; rfl; rfl))
    refine WL.st rfl rfl rfl hb2 rfl rfl (ones_of rfl) (fun w4 hb24 hg4 => ?_)
    (repeat (first | (apply WL.pure; rfl; rfl; rfl) | (apply WL.nil) | (apply EX.thenN) | (apply CW.ret) | (apply EX.thenR) | (apply EX.inR)))
    exact EX.retC2 rfl rfl rfl hb24 rfl ⟨⟨_, _, t, st1, rfl, (hx.st hg4 (.inr (by simp))).gl, hr3.kept hg4 (fun b e => by cases e; omega), hE3.stT hg4 hb2 (by decide)⟩, grown_new hG hg4 (by omega)⟩
  have n65 : ¬ st.1 = [65] := of_decide_eq_false h
  rw [if_neg n65]
  clear h
  (repeat (first | (apply WL.pure; rfl; rfl; rfl) | (apply WL.nil) | (apply EX.thenN) | (apply CW.seq) | (apply CW.region)))
  rw [txA_eqd]
  refine CW.cond rfl (fun h => ?_) (fun h => ?_)
  · have h1 : st.1 = [40] := of_decide_eq_true h
    rw [if_pos h1]
    have hm1 := mT_nx1 (st := st) (by rw [h1]; decide)
    (repeat (first | (apply CW.seq) | (apply CW.region) | (apply WL.makeFunc; rfl; rfl; rfl; rfl) | (apply WL.ld; rfl; rfl; rfl; assumption; rfl)))
    refine WL.call rfl rfl rfl (cwithin_ok w2 hr2 hs ho (r := cFor nms s.length n (o + 1) [] (nxT st.2)) (fun ho' w hr hg => FnV.mkM (fs := [_]) (hF n (Nat.le_refl _) (o + 1) _ w hr (by omega) (by omega)))) ?_
    rintro _ w3 ⟨⟨x, e, t, st1, rfl, hx, hr3, hE3⟩, hg3⟩
    have hb1 := hb1.kept hg3 (fun e => by have := Option.some.inj e; omega)
    have hb2 := hb2.kept hg3 (fun e => by have := Option.some.inj e; omega)
    have hG := grown_tr hG hg3
    have hx : GX w0.heap.size [b2, w0.heap.size] w3 x t := GX.of hx hE2.size hXX
    have hE3 := hE3.low (B' := w0.heap.size) hE2.size
    have z3 := hg3.size
    obtain ⟨uo, uc, rfl, hk⟩ := Rd.ltl hx
    (repeat (apply WL.pure; rfl; rfl; rfl))
    refine WL.alloc rfl rfl (fun w4 hb6 e4 => ?_)
    have hx := hx.add e4 (Nat.le_refl _)
    have hb1 := hb1.ext e4
    have hb2 := hb2.ext e4
    have hr4 := hr3.ext e4
    have hE4 := hE3.ext e4
    have hG := grown_tr hG (e4.grw (some rb))
    have h46 : b2 < w3.heap.size := by omega
    have h47 : w0.heap.size < w3.heap.size := by omega
    have l13 := hb6.lt
    generalize hB6 : w3.heap.size = b6 at *
    skip
    refine WL.st rfl rfl rfl hb6 rfl rfl (ones_of rfl) (fun w5 hb65 hg5 => ?_)
    have hx := hx.st hg5 (.inr (List.mem_cons_self ..))
    have hb1 := hb1.kept hg5 (fun e => by have := Option.some.inj e; omega)
    have hb2 := hb2.kept hg5 (fun e => by have := Option.some.inj e; omega)
    have hr5 := hr4.kept hg5 (fun b e => by cases e; omega)
    have hE5 := hE4.stT hg5 hb6 (by decide)
    have hG := grown_new hG hg5 (by omega)
    have hH := HF.of hb65 hx
    have l25 := hb2.lt
    have l65 := hb65.lt
    clear hr2 hrb hr3 hr4 hE3 hE4 hk hb6 hb65 hx
    have he := hE5.err
    (repeat (first | (apply WL.pure; rfl; rfl; rfl) | (apply WL.nil) | (apply EX.thenN)))
    refine CW.cutI (S := Value) (fun e => [(1, .pointer (some ⟨w0.heap.size, 0, none⟩)), (2, .pointer (some ⟨b2, 0, none⟩)), (6, .pointer (some ⟨b6, 0, none⟩)), (7, e)])
      (fun e w => w0.grownBy w (some rb) ∧ Blk w b2 31 [.int .i64 0, .int .i64 0, .slice none 0 0] ∧ HF 31 w b6 w0.heap.size [b6, b2, w0.heap.size] t ∧
        ∃ st', Rdr 139 w rb s no nc nms o st' ∧ ErP w w0.heap.size (braC s.length (if o = 20 then .er 5 (atT s.length st) else cFor nms s.length n (o + 1) [] (nxT st.2))) e t st') ?_ ?_
    · generalize (if o = 20 then PR.er 5 (atT s.length st) else cFor nms s.length n (o + 1) [] (nxT st.2)) = r1 at *
      (repeat (first | (apply WL.pure; rfl; rfl; rfl) | (apply CW.seq) | (apply CW.region)))
      refine WL.eqNil rfl rfl rfl he ?_
      rcases hE5 with ⟨rfl, rfl⟩ | ⟨c, a, rfl, hF⟩
      · rw [show nilI Value.nilIface = true from rfl]
        (repeat (first | (apply WL.pure; rfl; rfl; rfl) | (apply WL.ld; rfl; rfl; rfl; assumption; rfl)))
        refine WL.call rfl rfl rfl (ctake_ok w5 hr5 hs [41]) ?_
        rintro _ w10 ⟨rfl, hr10, hg10⟩
        have hb1 := hb1.kept hg10 (fun e => by have := Option.some.inj e; omega)
        have hb2 := hb2.kept hg10 (fun e => by have := Option.some.inj e; omega)
        have hH := hH.st hg10 (.inl hrl) (by omega)
        have hG := grown_tr hG hg10
        have z10 := hg10.size
        dsimp only [braC]
        (repeat (first | (apply WL.pure; rfl; rfl; rfl) | (apply WL.nil) | (apply EX.thenN)))
        refine CW.cond rfl (fun h => ?_) (fun h => ?_)
        · have h : ¬ st1.1 = [41] := by simpa using h
          rw [if_neg h] at hr10 ⊢
          (repeat (first | (apply CW.region) | (apply WL.ld; rfl; rfl; rfl; assumption; rfl)))
          refine WL.call rfl rfl rfl (cwrong_ok w10 hr10 3) ?_
          rintro _ w11 ⟨rfl, hf11, e11⟩
          (repeat (first | (apply WL.pure; rfl; rfl; rfl) | (apply WL.nil)))
          exact EX.cutI _ (by repeat (first | exact trivial | refine ⟨rfl, ?_⟩)) ⟨grown_tr hG (e11.grw _), hb2.ext e11, hH.ext e11, st1, hr10.ext e11, .inr ⟨_, _, rfl, _, rfl, by omega, hf11⟩⟩
        · have h : st1.1 = [41] := by simpa using h
          rw [if_pos h] at hr10 ⊢
          (repeat (apply CW.skip))
          exact EX.cutI _ (by repeat (first | exact trivial | refine ⟨rfl, ?_⟩)) ⟨hG, hb2, hH, _, hr10, .inl ⟨rfl, rfl⟩⟩
      · rw [hF.err.2]
        (repeat (first | (apply WL.pure; rfl; rfl; rfl) | (apply WL.nil) | (apply EX.thenN) | (apply WL.pass; rfl; rfl) | (apply CW.condF; rfl) | (apply CW.skip)))
        exact EX.cutI _ (by repeat (first | exact trivial | refine ⟨rfl, ?_⟩)) ⟨hG, hb2, hH, st1, hr5, .inr ⟨c, a, rfl, hF⟩⟩
    clear hG hb2 hH hr5 he hE5
    rintro e w10 ⟨hG, hb2, hH, st', hr10, hE⟩
    obtain ⟨vo, vc, hb6, hy⟩ := hH.gx
    (repeat (first | (apply WL.pure; rfl; rfl; rfl) | (apply CW.seq) | (apply CW.region) | (apply WL.ldA; rfl; rfl; rfl; assumption; rfl)))
    refine WL.st rfl rfl rfl hb2 rfl rfl (ones_of rfl) (fun w12 hb212 hg12 => ?_)
    (repeat (first | (apply WL.pure; rfl; rfl; rfl) | (apply WL.nil) | (apply EX.thenN) | (apply CW.ret) | (apply EX.thenR) | (apply EX.inR)))
    refine EX.retC2 rfl rfl rfl hb212 rfl ⟨⟨_, _, _, st', rfl, (hy.st hg12 (.inr (by simp))).gl, hr10.kept hg12 (fun b e => by cases e; omega), ?_⟩, grown_new hG hg12 (by omega)⟩
    have hE := hE.stT hg12 hb2 (by decide)
    by_cases h20 : o = 20
    · rw [if_pos h20] at hE ⊢
      exact hE
    · rw [if_neg h20] at hE ⊢
      exact hE
  have n40 : ¬ st.1 = [40] := of_decide_eq_false h
  rw [if_neg n40]
  clear h
  (repeat (first | (apply WL.pure; rfl; rfl; rfl) | (apply WL.nil) | (apply EX.thenN) | (apply CW.skip) | (apply EX.inN)))
  apply CW.seq
  refine CW.cutE [(1, .pointer (some ⟨w0.heap.size, 0, none⟩)), (2, .pointer (some ⟨b2, 0, none⟩)), (71, .bool (decide (st.1 = [] ∨ lowB (st.1.headD 0) = false)))] ?_ ?_
  · (repeat (first | (apply WL.pure; rfl; rfl; rfl) | (apply CW.region) | (apply WL.fa; rfl; rfl; rfl) | (apply WL.nck; rfl; rfl; rfl) | (apply WL.ld; rfl; rfl; rfl; assumption; rfl)))
    rw [show ((txA st.1).data.toList == (ByteArray.mk #[]).data.toList) = decide (st.1 = []) from txA_eqd _ _]
    (refine WL.lookG rfl rfl (fun h => ?_) (fun h => ?_))
    · have h : st.1 = [] := of_decide_eq_true h
      (repeat (first | (apply WL.pure; rfl; rfl; rfl) | (apply WL.nil) | (apply WL.pass; rfl; rfl)))
      exact EX.cutE ⟨rfl, rfl, congrArg (fun b => some (Value.bool b)) (show true = _ from (decide_eq_true (Or.inl h)).symm), trivial⟩ (Ext.refl _)
    have h4 : ¬ st.1 = [] := of_decide_eq_false h
    have h5 : 0 < st.1.length := List.length_pos_iff.2 h4
    clear h
    (repeat (first | (apply WL.fa; rfl; rfl; rfl) | (apply WL.nck; rfl; rfl; rfl) | (apply WL.ld; rfl; rfl; rfl; assumption; rfl)))
    refine WL.byteL (i := 0) rfl rfl rfl rfl h5 ?_
    skip
    refine WL.call rfl rfl rfl (cletter_ok w2 _) ?_
    rintro _ w5 ⟨rfl, e5⟩
    (repeat (first | (apply WL.pure; rfl; rfl; rfl) | (apply WL.nil)))
    refine EX.cutE ⟨rfl, rfl, ?_, trivial⟩ e5
    refine congrArg (fun b => some (Value.bool b)) ?_
    rw [Bool.eq_iff_iff]
    rw [headD_0 h5]
    simp [h4]
  rintro w3 e3
  have hr3 := hr2.ext e3
  have hb1 := hb1.ext e3
  have hb2 := hb2.ext e3
  have hG := grown_tr hG (e3.grw _)
  clear hr2 hrb
  have l3 : w2.heap.size ≤ w3.heap.size := e3.size
  refine CW.cond rfl (fun h => ?_) (fun h => ?_)
  · rw [if_pos (of_decide_eq_true h)]
    (repeat (first | (apply CW.seq) | (apply CW.region)))
    refine WL.build (parts := []) rfl rfl rfl rfl ?_
    (repeat (apply WL.ld; rfl; rfl; rfl; assumption; rfl))
    refine WL.call rfl rfl rfl (cwrong_ok w3 hr3 3) ?_
    rintro _ w6 ⟨rfl, hf6, e6⟩
    have hb2 := hb2.ext e6
    have hr6 := hr3.ext e6
    have hG := grown_tr hG (e6.grw _)
    skip
    refine WL.st rfl rfl rfl hb2 rfl rfl (ones_of rfl) (fun w7 hb27 hg7 => ?_)
    (repeat (first | (apply WL.pure; rfl; rfl; rfl) | (apply WL.nil) | (apply EX.thenN) | (apply CW.ret) | (apply EX.thenR)))
    refine EX.retC2 rfl rfl rfl hb27 rfl ⟨?_, grown_new hG hg7 (by omega)⟩
    exact ⟨_, _, _, st, rfl, GL.zero 0 0, hr6.kept hg7 (fun b e => by cases e; omega), .inr ⟨_, _, rfl, _, rfl, by omega, hf6.kept hg7 (fun e => by have := Option.some.inj e; omega)⟩⟩
  · rw [if_neg (of_decide_eq_false h)]
    (repeat (first | (apply EX.thenN) | (apply CW.seq) | (apply CW.region) | (apply WL.ld; rfl; rfl; rfl; assumption; rfl) | (apply CW.skip)))
    refine WL.call rfl rfl rfl (cword_ok w3 hr3 hs) ?_
    rintro _ w4 ⟨⟨x, e, t, st1, rfl, hx, hr4, hE4⟩, hg4⟩
    have hb2 := hb2.kept hg4 (fun e => by have := Option.some.inj e; omega)
    have hG := grown_tr hG hg4
    have hx : GX w0.heap.size [b2, w0.heap.size] w4 x t := GX.of hx (by omega) (fun r hr => Nat.lt_of_lt_of_le (hXX r hr) l3)
    have hE4 := hE4.low (B' := w0.heap.size) (by omega)
    obtain ⟨uo, uc, rfl, hk⟩ := Rd.ltl hx
    (repeat (apply WL.pure; rfl; rfl; rfl))
    refine WL.st rfl rfl rfl hb2 rfl rfl (ones_of rfl) (fun w5 hb25 hg5 => ?_)
    (repeat (first | (apply WL.pure; rfl; rfl; rfl) | (apply WL.nil) | (apply EX.thenN) | (apply CW.ret)))
    exact EX.retC2 rfl rfl rfl hb25 rfl ⟨⟨_, _, t, st1, rfl, (hx.st hg5 (.inr (by simp))).gl, hr4.kept hg5 (fun b e => by cases e; omega), hE4.stT hg5 hb2 (by decide)⟩, grown_new hG hg5 (by omega)⟩
end Go.Proofs.YtikigaeihdmcaaaGreatDoor

/-
  ctl.Parse, walked: formulas.
-/
set_option linter.unusedVariables false
set_option linter.unusedSimpArgs false
namespace Go.Proofs.YtikigaeihdmcaaaGreatDoor
open Go.RowKit

theorem arrows_drop {left : List Ltl} {t : Ltl} {i : Nat} (h : i < left.length) : arrows (left.drop i) t = .mk 6 0 [.mk 4 0 [left[i]], arrows (left.drop (i + 1)) t] := by
  rw [List.drop_eq_getElem_cons h]; rfl
theorem grown_row {w w1 w2 : World} {r row : Option Nat} (h1 : w.grownBy w1 r) (h2 : w1.grownBy w2 row) (hb : ∀ g, row = some g → w.heap.size ≤ g) : w.grownBy w2 r :=
  ⟨h2.os.trans h1.os, h2.tape.trans h1.tape, h2.output.trans h1.output, Nat.le_trans h1.size h2.size, fun k hk hne => (h2.block k (Nat.lt_of_lt_of_le hk h1.size) (fun e => by have := hb k e.symm; omega)).trans (h1.block k hk hne)⟩
set_option maxHeartbeats 2000000 in
theorem cformula_ok {rb : Nat} {s : Bys} {no : Option Addr} {nc : Nat} {nms : List ByteArray} {n o : Nat} {st : Bys × Bys} (w0 : World) (hr : Rdr 139 w0 rb s no nc nms o st) (hs : s.length ≤ 300) (ho : o ≤ 20) (hS : SinOK rb s no nc nms n) (m0 : Nat) (hm0 : m0 ≤ n + 1) (hn : 10 * mT st + 6 ≤ m0) :
    Rt Tryz.prog 85 [.pointer (some ⟨rb, 0, none⟩)].toArray w0 fun v w' => PRs 139 rb s no nc nms o w0.heap.size (cFor nms s.length m0 o [] st) v w' ∧ w0.grownBy w' (some rb) := by
  have hrl := hr.lt
  have hst : mT st ≤ 300 := by have := hr.len; unfold mT; omega
  refine Rt.enter1 Tryz.func85 Tryz.ntmps85 rfl rfl ?_
  (repeat (first | (apply CW.seq) | (apply CW.region)))
  refine WL.alloc rfl rfl (fun w1 hb2 e1 => ?_)
  have l2 := hb2.lt
  have hr1 := hr.ext e1
  have hG := e1.grw (some rb)
  generalize hR : cFor nms s.length m0 o [] st = R
  generalize hB2 : w0.heap.size = b2 at *
  (repeat (first | (apply WL.pure; rfl; rfl; rfl) | (apply WL.nil) | (apply EX.thenN) | (apply CW.seq) | (apply CW.region) | (apply CW.block)))
  refine CW.loop (S := Nat × List Ltl × (Bys × Bys) × Value) (fun p => [(0, .pointer (some ⟨rb, 0, none⟩)), (2, .pointer (some ⟨b2, 0, none⟩)), (4, p.2.2.2)])
    (fun p w => w0.grownBy w (some rb) ∧ Blk w b2 31 [.int .i64 0, .int .i64 0, .slice none 0 0] ∧ Rdr 139 w rb s no nc nms o p.2.2.1 ∧ R = cFor nms s.length p.1 o p.2.1 p.2.2.1 ∧ 10 * mT p.2.2.1 + 6 ≤ p.1 ∧ p.1 ≤ m0 ∧ p.2.1.length + mT p.2.2.1 ≤ 300 ∧
      ∃ F : Nat → Prop, (∀ b, F b → b2 < b ∧ b < w.heap.size) ∧ Own w (b2 + 1) 31 F p.2.2.2 p.2.1)
    (fun p => mT p.2.2.1) (m0, [], st, .slice none 0 0) (by repeat (first | exact trivial | refine ⟨rfl, ?_⟩)) ⟨hG, hb2, hr1, hR.symm, hn, Nat.le_refl _, by simpa using hst, Non, fun _ h => h.elim, Own.nil⟩ ?_
  clear hb2 hr1 hG hr l2 e1 hR
  rintro ⟨m, left, st, lv⟩ w2 ⟨hG, hb2, hr2, hR, hm, hmm, hlen, F, hF, hO⟩
  dsimp only at hG hb2 hr2 hR hm hmm hlen hO ⊢
  have l2 := hb2.lt
  have hrb2 : rb < b2 := by omega
  have hsz2 : b2 ≤ w2.heap.size := by omega
  obtain ⟨k, rfl⟩ : ∃ k, m = k + 5 := ⟨m - 5, by omega⟩
  rw [cFor] at hR
  have hlo : ∀ g, lv.ownBlock = some g → b2 < g ∧ g < w2.heap.size := fun g hg => by have := hO.lt g hg; omega
  (repeat (first | (apply WL.pure; rfl; rfl; rfl) | (apply CW.seq) | (apply CW.region) | (apply WL.makeFunc; rfl; rfl; rfl; rfl) | (apply CW.block)))
  refine WL.call rfl rfl rfl (crow_ok true (k + 3) w2 hr2 hs (part_and hs ho (fun j hj => hS j (by omega))) (by simp only [cl]; omega)) ?_
  rintro _ w3 ⟨⟨x, e, t, st1, rfl, hx, hr3, hE3⟩, hg3⟩
  have hmr : ∀ f st', cRow nms s.length (k + 4) true o st = .ok f st' → mT st' ≤ mT st := fun f st' h => (c_mono nms s.length (k + 4)).2.1 _ _ _ _ _ h
  have hE3 : ErP w3 b2 (cRow nms s.length (k + 4) true o st) e t st1 := hE3.low hsz2
  generalize cRow nms s.length (k + 4) true o st = r1 at *
  have hb2 := hb2.kept hg3 (fun e => by have := Option.some.inj e; omega)
  have hO := hO.kept hg3 (fun g hg e => by have := Option.some.inj e; have := hlo g hg; omega) (fun b hb => ⟨(hF b hb).2, fun e => by have := Option.some.inj e; have := hF b hb; omega⟩)
  have hG := grown_tr hG hg3
  have z3 := hg3.size
  have hx : Rd w3 (fun b => w2.heap.size ≤ b ∧ b < w3.heap.size) x t := hx
  obtain ⟨uo, uc, rfl, hk⟩ := Rd.ltl hx
  (repeat (apply WL.pure; rfl; rfl; rfl))
  refine WL.alloc rfl rfl (fun w4 hb5 e4 => ?_)
  have l5 := hb5.lt
  have hx := hx.up0 e4 (fun b hb => hb.2)
  have hb2 := hb2.ext e4
  have hr4 := hr3.ext e4
  have hE4 := hE3.ext e4
  have hO := hO.ext e4 (fun b hb => by have := hF b hb; omega)
  have hG := grown_tr hG (e4.grw (some rb))
  have h25 : w2.heap.size ≤ w3.heap.size := z3
  have z4 := e4.size
  clear hr3 hE3 hr2 hg3 hk
  generalize hB5 : w3.heap.size = b5 at *
  skip
  refine WL.st rfl rfl rfl hb5 rfl rfl (ones_of rfl) (fun w5 hb55 hg5 => ?_)
  have hx := hx.kept hg5 (fun b hb => ⟨by omega, fun e => by have := Option.some.inj e; omega⟩)
  have hb2 := hb2.kept hg5 (fun e => by have := Option.some.inj e; omega)
  have hr5 := hr4.kept hg5 (fun b e => by cases e; omega)
  have hE5 := hE4.stT hg5 hb5 (by decide)
  have hO := hO.kept hg5 (fun g hg e => by have := Option.some.inj e; have := hlo g hg; omega) (fun b hb => ⟨by have := hF b hb; omega, fun e => by have := Option.some.inj e; have := hF b hb; omega⟩)
  have hG := grown_new hG hg5 (by omega)
  have z5 := hg5.size
  have hx5 : GX b2 [b5, b2] w5 (ltlV t.k t.n uo t.kids.length uc) t := hx.wk (fun b hb => ⟨by omega, by omega, fun hm => by
    simp only [List.mem_cons, List.not_mem_nil, or_false] at hm
    rcases hm with rfl | rfl <;> omega⟩)
  have hH := HF.of hb55 hx5
  clear hb5 hg5 hr4 hE4
  have he := hE5.err
  (repeat (first | (apply WL.pure; rfl; rfl; rfl) | (apply WL.nil) | (apply EX.thenN) | (apply CW.seq) | (apply CW.region)))
  refine WL.neNil rfl rfl rfl he ?_
  rcases hE5 with ⟨rfl, rfl⟩ | ⟨c, a, rfl, hFl⟩
  rotate_left
  · rw [hFl.err.2]
    dsimp only at hR
    subst hR
    (repeat (first | (apply WL.pure; rfl; rfl; rfl) | (apply WL.nil) | (apply EX.thenN) | (apply CW.seq) | (apply CW.region) | (apply WL.ldA; rfl; rfl; rfl; assumption; rfl) | (apply CW.condT; rfl)))
    refine WL.st rfl rfl rfl hb2 rfl rfl (ones_of rfl) (fun w8 hb8 hg8 => ?_)
    (repeat (first | (apply WL.pure; rfl; rfl; rfl) | (apply WL.nil) | (apply EX.thenN) | (apply CW.ret) | (apply EX.thenR) | (apply EX.inR)))
    exact EX.retC2 rfl rfl rfl hb8 rfl ⟨⟨_, _, t, st1, rfl, (hx5.st hg8 (.inr (by simp))).gl, hr5.kept hg8 (fun b e => by cases e; omega), .inr ⟨_, _, rfl, hFl.stT hg8 hb2 (by decide)⟩⟩, grown_new hG hg8 (by omega)⟩
  rw [show (!nilI Value.nilIface) = false from rfl]
  dsimp only at hR
  have hmr := hmr _ _ rfl
  clear hH hx5
  (repeat (first | (apply WL.pure; rfl; rfl; rfl) | (apply WL.nil) | (apply EX.thenN) | (apply CW.seq) | (apply CW.region) | (apply CW.condF; rfl) | (apply CW.skip)))
  refine WL.call rfl rfl rfl (ctake_ok w5 hr5 hs [45, 62]) ?_
  rintro _ w6 ⟨rfl, hr6, hg6⟩
  have hx := hx.kept hg6 (fun b hb => ⟨by omega, fun e => by have := Option.some.inj e; omega⟩)
  have hb2 := hb2.kept hg6 (fun e => by have := Option.some.inj e; omega)
  have hb5 := hb55.kept hg6 (fun e => by have := Option.some.inj e; omega)
  have hO := hO.kept hg6 (fun g hg e => by have := Option.some.inj e; have := hlo g hg; omega) (fun b hb => ⟨by have := hF b hb; omega, fun e => by have := Option.some.inj e; have := hF b hb; omega⟩)
  have hG := grown_tr hG hg6
  have z6 := hg6.size
  clear hb55 hg6 hr5
  (repeat (first | (apply WL.pure; rfl; rfl; rfl) | (apply WL.nil) | (apply EX.thenN)))
  refine CW.cond rfl (fun h => ?_) (fun h => ?_)
  · have h : ¬ st1.1 = [45, 62] := by simpa using h
    rw [if_neg h] at hr6 hR
    subst hR
    obtain ⟨lo, lc, rfl⟩ := hO.val
    obtain ⟨lo', lc', he', hsl⟩ := hO.sl
    obtain ⟨rfl, _, rfl⟩ := Value.slice.inj he'
    have hFO : ∀ b, (F b ∨ (Value.slice lo left.length lc).ownBlock = some b) → b2 < b ∧ b < b5 := fun b hb => by
      rcases hb with hb | hb
      · have := hF b hb; omega
      · have := hlo b hb; omega
    have hH : HF 31 w6 b5 b2 [b5, b2] (arrows (left.drop left.length) t) := by
      rw [List.drop_length]
      exact HF.of hb5 (hx.wk (fun b hb => ⟨by omega, by omega, fun hm => by
        simp only [List.mem_cons, List.not_mem_nil, or_false] at hm
        rcases hm with rfl | rfl <;> omega⟩))
    clear hx hb5
    (repeat (first | (apply WL.sub'; rfl; rfl; rfl; rfl; omega; omega) | (apply WL.pure; rfl; rfl; rfl) | (apply WL.nil) | (apply EX.thenN) | (apply CW.seq) | (apply CW.region) | (apply WL.lenS; rfl; rfl; rfl) | (apply CW.block)))
    have hll : left.length ≤ 300 := by omega
    refine CW.loop (S := Nat) (fun j => [(0, .pointer (some ⟨rb, 0, none⟩)), (2, .pointer (some ⟨b2, 0, none⟩)), (4, .slice lo left.length lc), (5, .pointer (some ⟨b5, 0, none⟩)), (7, .int .i64 ((j : Int) - 1))])
      (fun j w => j ≤ left.length ∧ w0.grownBy w (some rb) ∧ Blk w b2 31 [.int .i64 0, .int .i64 0, .slice none 0 0] ∧ Rdr 139 w rb s no nc nms o st1 ∧ HF 31 w b5 b2 [b5, b2] (arrows (left.drop j) t) ∧
        Sl w (fun b => F b ∨ (Value.slice lo left.length lc).ownBlock = some b) lo lc left)
      (fun j => j) left.length (by repeat (first | exact trivial | refine ⟨rfl, ?_⟩)) ⟨Nat.le_refl _, hG, hb2, hr6, hH, hsl⟩ ?_
    clear hG hb2 hr6 hH hsl hO
    rintro j w7 ⟨hj, hG, hb2, hr7, hH, hsl⟩
    have l57 := hH.lt
    obtain ⟨vo, vc, hb5, hy⟩ := hH.gx
    (repeat (first | (apply WL.pure; rfl; rfl; rfl) | (apply WL.nil) | (apply EX.thenN) | (apply CW.seq) | (apply CW.region)))
    refine CW.cond rfl (fun h => ?_) (fun h => ?_)
    · have hj1 : 1 ≤ j := by have : (0 : Int) ≤ (j : Int) - 1 := by simpa using h
                             omega
      obtain ⟨i, rfl⟩ : ∃ i, j = i + 1 := ⟨j - 1, by omega⟩
      have hi : i < left.length := by omega
      have hD := Ext.drew w7
      have hb2 := hb2.ext hD
      have hb5d := hb5.ext hD
      have hr8 := hr7.ext hD
      have hyd := hy.ext hD
      have hsld := hsl.up0 hD (fun b hb => by have := hFO b hb; omega)
      have hG := grown_tr hG (hD.grw (some rb))
      have l57d : b5 < (drew w7).heap.size := hb5d.lt
      obtain ⟨kb, koff, rfl, hFk, es, hcl, hrd⟩ := hsld.el i hi
      have hkb := hFO kb hFk
      have hli : ∀ w, Ext (drew w7) w → Cells w kb (koff + i * sz Ltl) es ∧ rd w (fun b => F b ∨ (Value.slice (some ⟨kb, koff, none⟩) left.length lc).ownBlock = some b) es left[i] := fun w hw =>
        ⟨hcl.mono (hw.block kb (by omega)), Rep.mono hrd (fun b hb => hw.block b (by have := hFO b hb; omega)) fun _ h => h⟩
      clear hb5 hr7 hy hsl hH
      (repeat (first | (apply EX.thenN) | (apply CW.seq) | (apply CW.block) | (apply CW.skip)))
      refine CW.drawM 7 mixed (by kernel_rfl) ?_
      (repeat (refine ML.q rfl rfl rfl (fun γ' w' hw' => WL.pure rfl rfl rfl (WL.nil (EX.mm rfl (Ext.refl _) rfl))) ?_))
      refine ML.q rfl rfl rfl (fun γ w hw => WL.idx (α := Ltl) rfl rfl rfl rfl (by omega) (by omega) (WL.nil (EX.mm rfl (Ext.refl _) rfl))) ?_
      refine ML.q rfl rfl rfl (fun γ w hw => WL.load (α := Ltl) rfl rfl rfl (by rw [show ((((i + 1 : Nat) : Int) - 1).toNat) = i by omega]; exact (hli w hw).1) (hli w hw).2 (WL.nil (EX.mm rfl (Ext.refl _) rfl))) ?_
      refine ML.fc (fun v γ w => GX b2 [b5, b2] w v (.mk 4 0 [left[i]])) rfl rfl rfl (fun v γ γ' w w' h e _ => h.ext e) (fun γ w hw => WL.call rfl rfl rfl (cone_ok w (F := GXs b2 [b5, b2] w) (fun b hb => hb.2.1) 4 (show Rd w _ (vOf Ltl es) left[i] from ⟨es, rfl, Rep.mono (hli w hw).2 (fun _ _ => rfl) (fun b hb => ⟨by have := hFO b hb; omega, by have := hFO b hb; have := hw.size; omega, fun hm => by
        simp only [List.mem_cons, List.not_mem_nil, or_false] at hm
        have := hFO b hb
        rcases hm with rfl | rfl <;> omega⟩)⟩)) (fun v w' h => WL.nil (EX.mm rfl h.2 (GX.plus h.1 h.2 (by have := hw.size; omega) (fun r hr => by
        simp only [List.mem_cons, List.not_mem_nil, or_false] at hr
        have := hw.size
        rcases hr with rfl | rfl <;> omega))))) ?_
      (repeat (apply ML.q; rfl; rfl; rfl; (intro γ' w' hw'; apply WL.ldA; rfl; rfl; rfl; apply Blk.ext; assumption; exact hw'; rfl; exact WL.nil (EX.mm rfl (Ext.refl _) rfl))))
      refine ML.fc (fun v γ w => GX b2 [b5, b2] w v (.mk 6 0 [.mk 4 0 [left[i]], arrows (left.drop (i + 1)) t])) rfl rfl rfl (fun v γ γ' w w' h e _ => h.ext e) (fun γ w hw v33 g33 => WL.call rfl rfl rfl (ctwo_ok w (F := GXs b2 [b5, b2] w) (fun b hb => hb.2.1) 6 g33 (hyd.ext hw)) (fun v w' h => WL.nil (EX.mm rfl h.2 (GX.plus h.1 h.2 (by have := hw.size; omega) (fun r hr => by
        simp only [List.mem_cons, List.not_mem_nil, or_false] at hr
        have := hw.size
        rcases hr with rfl | rfl <;> omega))))) ?_
      refine ML.nil fun γ w8 hw8 v35 g35 v33 g33 => ?_
      change WL _ _ _ _ _ _ _
      obtain ⟨uo, uc, rfl, hku⟩ := Rd.ltl g35
      have hb5 := hb5d.ext hw8
      refine WL.st rfl rfl rfl hb5 rfl rfl (ones_of rfl) (fun w9 hb59 hg9 => WL.nil (EX.tailE ?_))
      have z8 := hw8.size
      have g35 := g35.st hg9 (.inr (List.mem_cons_self ..))
      (repeat (first | (apply WL.sub'; rfl; rfl; rfl; rfl; omega; omega) | (apply WL.pure; rfl; rfl; rfl) | (apply WL.nil) | (apply EX.thenN) | (apply CW.region) | (apply EX.inN)))
      rw [show (((i + 1 : Nat) : Int) - 1 - 1) = (i : Int) - 1 by omega]
      refine EX.back i (by repeat (first | exact trivial | refine ⟨rfl, ?_⟩)) ⟨by omega, grown_new (grown_tr hG (hw8.grw _)) hg9 (by omega), (hb2.ext hw8).kept hg9 (fun e => by have := Option.some.inj e; omega), (hr8.ext hw8).kept hg9 (fun b e => by cases e; omega), ?_, ?_⟩ (by omega)
      · rw [arrows_drop hi]
        exact HF.of hb59 g35
      · exact (hsld.up0 hw8 (fun b hb => by have := hFO b hb; omega)).mono (fun b hb => hg9.block b (by have := hFO b hb; omega) (fun e => by have := Option.some.inj e; have := hFO b hb; omega)) fun _ h => h
    · obtain rfl : j = 0 := by have : ¬ (0 : Int) ≤ (j : Int) - 1 := by simpa using h
                               omega
      rw [List.drop_zero] at hy hb5 hH
      (repeat (first | (apply EX.thenN) | (apply CW.seq) | (apply CW.region) | (apply WL.ldA; rfl; rfl; rfl; assumption; rfl) | (apply CW.exit) | (apply EX.thenX) | (apply EX.inX)))
      refine WL.st rfl rfl rfl hb2 rfl rfl (ones_of rfl) (fun w8 hb8 hg8 => ?_)
      (repeat (first | (apply WL.pure; rfl; rfl; rfl) | (apply WL.nil) | (apply EX.thenN) | (apply CW.ret) | (apply EX.thenR) | (apply EX.inR)))
      exact EX.retC2 rfl rfl rfl hb8 rfl ⟨⟨_, _, _, st1, rfl, (hy.st hg8 (.inr (by simp))).gl, hr7.kept hg8 (fun b e => by cases e; omega), .inl ⟨rfl, rfl⟩⟩, grown_new hG hg8 (by omega)⟩
  · have h : st1.1 = [45, 62] := by simpa using h
    rw [if_pos h] at hr6 hR
    have hm1 := mT_nx1 (st := st1) (by rw [h]; decide)
    have hO : Own w6 (b2 + 1) 31 (fun b => F b ∨ (w2.heap.size ≤ b ∧ b < b5)) lv left := hO.wk (fun b hb => .inl hb) (fun g hg hh => by
      rcases hh with hh | hh
      · exact (hO.lt g hg).2.2 hh
      · have := hlo g hg; omega)
    (repeat (first | (apply WL.pure; rfl; rfl; rfl) | (apply EX.thenN) | (apply CW.region) | (apply WL.ldA; rfl; rfl; rfl; assumption; rfl) | (apply CW.skip)))
    refine WL.app1 (α := Ltl) (F := fun b => F b ∨ (w2.heap.size ≤ b ∧ b < b5)) rfl rfl (fun _ => rfl) rfl rfl (fun _ => rfl) hO (hx.wk (fun b hb => .inr hb)) (by omega) (fun b hb => by
      rcases hb with hb | hb
      · have := hF b hb; omega
      · omega) (by decide) (by unfold maxLen; omega) (by omega) (fun v' w7 p hO7 hg7 hv7 => ?_)
    have z7 := hg7.size
    (repeat (first | (apply WL.pure; rfl; rfl; rfl) | (apply WL.nil) | (apply EX.inN)))
    refine EX.back (k + 4, left ++ [t], nxT st1.2, v') (by repeat (first | exact trivial | refine ⟨rfl, ?_⟩)) ⟨grown_row hG hg7 (fun g hg => by have := hlo g hg; omega), hb2.kept hg7 (fun e => by have := hlo b2 e.symm; omega), hr6.kept hg7 (fun g hg => by have := hlo g hg; omega), hR, ?_, ?_, ?_, _, ?_, hO7⟩ ?_
    · dsimp only; omega
    · dsimp only; omega
    · dsimp only; rw [List.length_append]; simp only [List.length_cons, List.length_nil]; omega
    · intro b hb
      rcases hb with hb | hb
      · have := hF b hb; omega
      · omega
    · dsimp only; omega
end Go.Proofs.YtikigaeihdmcaaaGreatDoor

/-
  errors.As, walked at a fault and at none. Began as the worked proof ToyasAs.
-/
set_option linter.unusedVariables false
set_option linter.unusedSimpArgs false
namespace Go.Proofs.YtikigaeihdmcaaaGreatDoor
open Go.RowKit Go.Extern.Stop Go.Stop Go.Extern
theorem as_nil (t : Value) (w : World) :
    Calls Tryz.prog 82 #[.nilIface, t] w fun e w' => e = .returned (.bool false) ∧ w' = w := by
  go_enter Tryz.func82, Tryz.ntmps82
  go_wp2
  go_ret
  exact ⟨rfl, rfl⟩

theorem fa_valueOf27 (t : Addr) (w : World) : (ReflectliteValue.unpack (.iface 133 (.pointer (some t)))).run Tryz.prog w
    = .ok (.agg #[.pointer (some ⟨7, 133, none⟩), .pointer (some ⟨w.heap.size, 0, none⟩), .int .u64 150]) (w.alloc (.cells #[.pointer (some t)] 133)) := by kernel_rfl
theorem fa_type27 (a : Addr) (w : World) : (ReflectliteValue.methodAny (ReflectliteValue.valueError "reflectlite.Value.Type" 0) (fun t _ _ _ => ReflectliteType.toType t) #[.agg #[.pointer (some ⟨7, 133, none⟩), .pointer (some a), .int .u64 150]]).run Tryz.prog w
    = .ok (.iface 181 (.agg #[.pointer (some ⟨7, 133, none⟩)])) w := by kernel_rfl
theorem fa_methodKind (h : Value) (w : World) : (Go.method 335 181 (.agg #[h]) "Kind").run Tryz.prog w = .ok (150, h) w := by kernel_rfl
theorem fa_kind27 (w : World) : ((ReflectliteType.abiMethod fun t => (fun a : Nat => Value.int IntKind.u8 (a : Int)) <$> Rtype.kind t) #[.pointer (some ⟨7, 133, none⟩)]).run Tryz.prog w = .ok (.int .u8 22) w := by kernel_rfl
theorem fa_kind25 (w : World) : ((ReflectliteType.abiMethod fun t => (fun a : Nat => Value.int IntKind.u8 (a : Int)) <$> Rtype.kind t) #[.pointer (some ⟨7, 131, none⟩)]).run Tryz.prog w = .ok (.int .u8 22) w := by kernel_rfl

theorem rlm (z : Sem Value) (f : TypeId → Addr → Nat → Nat → Sem Value) (v : Value) :
    ReflectliteValue.method z f #[v] = (do match ← ReflectliteValue.parts v with | none => z | some (t, a, fl) => f t a fl (fl % 32)) := rfl
theorem fa_parts27 (a : Addr) (w : World) : (ReflectliteValue.parts (.agg #[.pointer (some ⟨7, 133, none⟩), .pointer (some a), .int .u64 150])).run Tryz.prog w = .ok (some (133, a, 150)) w := by kernel_rfl
theorem fa_isNil27 (a p : Addr) (W : World) (ha : W.cell? a = some (.pointer (some p))) :
    (ReflectliteValue.method (ReflectliteValue.valueError "reflectlite.Value.IsNil" 0) ReflectliteValue.isNil #[.agg #[.pointer (some ⟨7, 133, none⟩), .pointer (some a), .int .u64 150]]).run Tryz.prog W = .ok (.bool false) W := by
  rw [rlm]
  simp only [Sem.run_bind, fa_parts27, Result.andThen]
  simp [ReflectliteValue.isNil, loadVar, isAgg, underlying, Tryz.underlying133, ha, Result.andThen]

theorem fa_methodElem (h : Value) (w : World) : (Go.method 335 181 (.agg #[h]) "Elem").run Tryz.prog w = .ok (162, .agg #[h]) w := by kernel_rfl
theorem fa_methodImplements (h : Value) (w : World) : (Go.method 335 181 (.agg #[h]) "Implements").run Tryz.prog w = .ok (163, .agg #[h]) w := by kernel_rfl
theorem fa_methodAssignableTo (h : Value) (w : World) : (Go.method 335 181 (.agg #[h]) "AssignableTo").run Tryz.prog w = .ok (160, .agg #[h]) w := by kernel_rfl
theorem fa_elem27 (w : World) : (ReflectliteType.method ReflectliteType.elem #[.agg #[.pointer (some ⟨7, 133, none⟩)]]).run Tryz.prog w = .ok (.iface 181 (.agg #[.pointer (some ⟨7, 131, none⟩)])) w := by kernel_rfl
theorem fa_implements25 (w : World) : (ReflectliteType.relation "Implements" ReflectliteType.implements_ #[.agg #[.pointer (some ⟨7, 131, none⟩)], .iface 181 (.agg #[.pointer (some ⟨7, 127, none⟩)])]).run Tryz.prog w = .ok (.bool true) w := by kernel_rfl
theorem fa_typeOf25 (v : Value) (w : World) : (ReflectliteType.typeOf #[.iface 131 v]).run Tryz.prog w = .ok (.iface 181 (.agg #[.pointer (some ⟨7, 131, none⟩)])) w := by kernel_rfl
theorem fa_assignable25 (w : World) : (ReflectliteType.relation "AssignableTo" ReflectliteType.assignableTo #[.agg #[.pointer (some ⟨7, 131, none⟩)], .iface 181 (.agg #[.pointer (some ⟨7, 131, none⟩)])]).run Tryz.prog w = .ok (.bool true) w := by kernel_rfl
theorem fa_valueOf25 (e : Addr) (w : World) : (ReflectliteValue.unpack (.iface 131 (.pointer (some e)))).run Tryz.prog w
    = .ok (.agg #[.pointer (some ⟨7, 131, none⟩), .pointer (some ⟨w.heap.size, 0, none⟩), .int .u64 150]) (w.alloc (.cells #[.pointer (some e)] 131)) := by kernel_rfl

theorem fa_elemOf27 (w : World) : (Rtype.elem? 133).run Tryz.prog w = .ok (some 131) w := by kernel_rfl
theorem fa_mk25 (p : Addr) (w : World) : (ReflectliteValue.mk 131 p ReflectliteValue.flagAddr).run Tryz.prog w = .ok (.agg #[.pointer (some ⟨7, 131, none⟩), .pointer (some p), .int .u64 406]) w := by kernel_rfl
theorem fa_elemV27 (a p : Addr) (W : World) (ha : W.cell? a = some (.pointer (some p))) :
    (ReflectliteValue.method (ReflectliteValue.valueError "reflectlite.Value.Elem" 0) ReflectliteValue.elem #[.agg #[.pointer (some ⟨7, 133, none⟩), .pointer (some a), .int .u64 150]]).run Tryz.prog W
      = .ok (.agg #[.pointer (some ⟨7, 131, none⟩), .pointer (some p), .int .u64 406]) W := by
  rw [rlm]
  simp only [Sem.run_bind, fa_parts27, Result.andThen]
  simp [ReflectliteValue.elem, loadVar, isAgg, underlying, Tryz.underlying133, ha, Result.andThen, fa_elemOf27, fa_mk25]
theorem rls (v x : Value) : ReflectliteValue.set #[v, x] = (do
    let (some (dst, a, fl), some (src, b, _)) := (← ReflectliteValue.parts v, ← ReflectliteValue.parts x)
      | unsupported (.noEntry "extern/(internal/reflectlite.Value).Set.zeroValue")
    if fl / ReflectliteValue.flagAddr % 2 == 0 then unsupported (.noEntry "extern/(internal/reflectlite.Value).Set.unaddressable")
    let val ← loadVar src b
    if ← Rtype.directlyAssignable dst src then storeVar dst a val
    else if ← Rtype.implements dst src then
      if (← Rtype.kind src) == 20 then
        match val with
        | .nilIface => unsupported (.noEntry "extern/reflectlite: a nil value of one interface type handed on as a value of another")
        | _ => storeVar dst a val
      else storeVar dst a (.iface src val)
    else panicString ("reflectlite.Set: value of type " ++ (← Rtype.spelt src) ++ " is not assignable to type " ++ (← Rtype.spelt dst))
    pure (.tuple #[])) := rfl
theorem fa_parts25a (a : Addr) (w : World) : (ReflectliteValue.parts (.agg #[.pointer (some ⟨7, 131, none⟩), .pointer (some a), .int .u64 406])).run Tryz.prog w = .ok (some (131, a, 406)) w := by kernel_rfl
theorem fa_parts25 (a : Addr) (w : World) : (ReflectliteValue.parts (.agg #[.pointer (some ⟨7, 131, none⟩), .pointer (some a), .int .u64 150])).run Tryz.prog w = .ok (some (131, a, 150)) w := by kernel_rfl
theorem fa_direct25 (w : World) : (Rtype.directlyAssignable 131 131).run Tryz.prog w = .ok true w := by kernel_rfl
theorem fa_set25 (ta b e : Addr) (old : Value) (W : World) (hb : W.cell? b = some (.pointer (some e))) (ht : W.cell? ta = some old) (hf : W.frozen? ta = false) :
    (ReflectliteValue.set #[.agg #[.pointer (some ⟨7, 131, none⟩), .pointer (some ta), .int .u64 406], .agg #[.pointer (some ⟨7, 131, none⟩), .pointer (some b), .int .u64 150]]).run Tryz.prog W
      = .ok (.tuple #[]) (W.setCell ta (.pointer (some e))) := by
  rw [rls]
  simp only [Sem.run_bind, fa_parts25a, fa_parts25, Result.andThen]
  simp [ReflectliteValue.flagAddr, loadVar, isAgg, underlying, Tryz.underlying131, hb, Result.andThen, fa_direct25, storeVar, Value.cells, storeCells, Addr.add]
  rw [run_store Tryz.prog W ta _ _ (by rfl)]
  simp [ht, hf]

set_option maxHeartbeats 4000000 in
set_option maxRecDepth 100000 in
theorem as_hit (e t : Addr) (old : Value) (w : World) (hg : w.cell? ⟨4, 0, none⟩ = some (.iface 181 (.agg #[.pointer (some ⟨7, 127, none⟩)]))) (ht0 : w.cell? t = some old) (hf0 : w.frozen? t = false) :
    Calls Tryz.prog 82 #[.iface 131 (.pointer (some e)), .iface 133 (.pointer (some t))] w fun ev w' => ev = .returned (.bool true) ∧ w' = ((((w.alloc (.cells #[.pointer (some t)] 133)).alloc (.cells #[.pointer (some ⟨7, 133, none⟩), .pointer (some ⟨w.heap.size, 0, none⟩), .int .u64 150] 152)).alloc (.cells #[.pointer (some ⟨7, 133, none⟩), .pointer (some ⟨w.heap.size, 0, none⟩), .int .u64 150] 152)).alloc (.cells #[.pointer (some e)] 131)).setCell t (.pointer (some e)) := by
  have h6 := @run_callFunc_extern Tryz.prog 99 _ (fun args => ReflectliteValue.unpack (args.getD 0 (.tuple #[]))) Tryz.func99 (by kernel_rfl) (by kernel_rfl) (by kernel_rfl) (by kernel_rfl)
  have h7 := @run_callFunc_extern Tryz.prog 100 _ (ReflectliteValue.methodAny (ReflectliteValue.valueError "reflectlite.Value.Type" 0) (fun t _ _ _ => ReflectliteType.toType t)) Tryz.func100 (by kernel_rfl) (by kernel_rfl) (by kernel_rfl) (by kernel_rfl)
  have h8 := @run_callFunc_extern Tryz.prog 101 _ (ReflectliteValue.method (ReflectliteValue.valueError "reflectlite.Value.IsNil" 0) ReflectliteValue.isNil) Tryz.func101 (by kernel_rfl) (by kernel_rfl) (by kernel_rfl) (by kernel_rfl)
  have h27 := @run_callFunc_extern Tryz.prog 150 _ (ReflectliteType.abiMethod fun t => do pure (.int .u8 (← Rtype.kind t))) Tryz.func150 (by kernel_rfl) (by kernel_rfl) (by kernel_rfl) (by kernel_rfl)
  have h37 := @run_callFunc_extern Tryz.prog 162 _ (ReflectliteType.method ReflectliteType.elem) Tryz.func162 (by kernel_rfl) (by kernel_rfl) (by kernel_rfl) (by kernel_rfl)
  have h38 := @run_callFunc_extern Tryz.prog 163 _ (ReflectliteType.relation "Implements" ReflectliteType.implements_) Tryz.func163 (by kernel_rfl) (by kernel_rfl) (by kernel_rfl) (by kernel_rfl)
  have h10 := @run_callFunc_extern Tryz.prog 115 _ ReflectliteType.typeOf Tryz.func115 (by kernel_rfl) (by kernel_rfl) (by kernel_rfl) (by kernel_rfl)
  have h35 := @run_callFunc_extern Tryz.prog 160 _ (ReflectliteType.relation "AssignableTo" ReflectliteType.assignableTo) Tryz.func160 (by kernel_rfl) (by kernel_rfl) (by kernel_rfl) (by kernel_rfl)
  have h11 := @run_callFunc_extern Tryz.prog 117 _ (ReflectliteValue.method (ReflectliteValue.valueError "reflectlite.Value.Elem" 0) ReflectliteValue.elem) Tryz.func117 (by kernel_rfl) (by kernel_rfl) (by kernel_rfl) (by kernel_rfl)
  have h12 := @run_callFunc_extern Tryz.prog 118 _ ReflectliteValue.set Tryz.func118 (by kernel_rfl) (by kernel_rfl) (by kernel_rfl) (by kernel_rfl)
  have tO := fa_typeOf25
  have mA := fa_methodAssignableTo
  have a25 := fa_assignable25
  have v25 := fa_valueOf25
  have f6 := fa_valueOf27
  have f7 := fa_type27
  have mK := fa_methodKind
  have mE := fa_methodElem
  have mI := fa_methodImplements
  have k27 := fa_kind27
  have k25 := fa_kind25
  have e27 := fa_elem27
  have i25 := fa_implements25
  have n8 := fa_isNil27 ⟨w.heap.size, 0, none⟩ t ((w.alloc (.cells #[.pointer (some t)] 133)).alloc (.cells #[.pointer (some ⟨7, 133, none⟩), .pointer (some ⟨w.heap.size, 0, none⟩), .int .u64 150] 152)) (by simp)
  have hlt : 4 < w.heap.size := by
    rcases Nat.lt_or_ge 4 w.heap.size with h | h
    · exact h
    · simp [World.cell?, Array.getElem?_eq_none h] at hg
  have hg2 : ((w.alloc (.cells #[.pointer (some t)] 133)).alloc (.cells #[.pointer (some ⟨7, 133, none⟩), .pointer (some ⟨w.heap.size, 0, none⟩), .int .u64 150] 152)).cell? ⟨4, 0, none⟩ = some (.iface 181 (.agg #[.pointer (some ⟨7, 127, none⟩)])) := by
    rw [World.cell?_alloc_lt _ _ ⟨4, 0, none⟩ (by simp; omega), World.cell?_alloc_lt _ _ ⟨4, 0, none⟩ hlt]; exact hg
  have htl : t.block < w.heap.size := by
    rcases Nat.lt_or_ge t.block w.heap.size with h | h
    · exact h
    · simp [World.cell?, Array.getElem?_eq_none h] at ht0
  have el := fa_elemV27 ⟨w.heap.size, 0, none⟩ t (((w.alloc (.cells #[.pointer (some t)] 133)).alloc (.cells #[.pointer (some ⟨7, 133, none⟩), .pointer (some ⟨w.heap.size, 0, none⟩), .int .u64 150] 152)).alloc (.cells #[.pointer (some ⟨7, 133, none⟩), .pointer (some ⟨w.heap.size, 0, none⟩), .int .u64 150] 152)) (by rw [World.cell?_alloc_lt _ _ ⟨w.heap.size, 0, none⟩ (by simp; omega)]; simp)
  have st := fa_set25 t ⟨w.heap.size + 1 + 1 + 1, 0, none⟩ e old ((((w.alloc (.cells #[.pointer (some t)] 133)).alloc (.cells #[.pointer (some ⟨7, 133, none⟩), .pointer (some ⟨w.heap.size, 0, none⟩), .int .u64 150] 152)).alloc (.cells #[.pointer (some ⟨7, 133, none⟩), .pointer (some ⟨w.heap.size, 0, none⟩), .int .u64 150] 152)).alloc (.cells #[.pointer (some e)] 131))
    (by rw [World.cell?_alloc_at _ _ _ _ (by simp)]; rfl)
    (by rw [World.cell?_alloc_lt _ _ t (by simp; omega), World.cell?_alloc_lt _ _ t (by simp; omega), World.cell?_alloc_lt _ _ t (by simp; omega), World.cell?_alloc_lt _ _ t htl]; exact ht0)
    (by rw [World.frozen?_alloc_old _ _ t (by simp; omega), World.frozen?_alloc_old _ _ t (by simp; omega), World.frozen?_alloc_old _ _ t (by simp; omega), World.frozen?_alloc_old _ _ t (Nat.ne_of_lt htl)]; exact hf0)
  go_enter Tryz.func82, Tryz.ntmps82
  go_wp2
  refine wp_loop_rounds 1 ?_
  rw [rounds_succ]
  go_wp2
  go_ret
  exact ⟨rfl, rfl⟩
end Go.Proofs.YtikigaeihdmcaaaGreatDoor

/-
  ctl.Parse, walked.
-/
set_option linter.unusedVariables false
set_option linter.unusedSimpArgs false
namespace Go.Proofs.YtikigaeihdmcaaaGreatDoor
open Go.RowKit

theorem results_cell3 {fn : Func} {a u s : Nat} {t : TypeId} (h : fn.results = #[.cell a t, .tmp u, .tmp s]) (tmps : Array Value) (P : Program) (w : World) {p : Addr} {v : Value} (ha : tmps.getD a undef = .pointer (some p)) (hl : (loadVar t p).run P w = .ok v w) :
    (results fn tmps).run P w = .ok (.tuple ⟨[v, tmps.getD u undef, tmps.getD s undef]⟩) w := by
  simp only [Array.getD_eq_getD_getElem?] at ha ⊢
  simp [results, h, ha, asAddr, hl]
theorem EX.retC3 {P : Program} {n : Nat} {σ : Sg} {w : World} {fn : Func} {a b u s : Nat} {t e : TypeId} {cells : List Value} {k : Nat} {x y : Value} {R : Value → World → Prop} (hr : fn.results = #[.cell a t, .tmp u, .tmp s]) (ha : fnd σ a = some (.pointer (some ⟨b, 0, none⟩))) (hu : fnd σ u = some x) (hs : fnd σ s = some y) [hc : IsC P t k true] (hb : Blk w b e cells) (hk : lenL cells = k) (h : R (.tuple ⟨[.agg cells.toArray, x, y]⟩) w) :
    EX (bodyPost P fn fun e w' => ∃ v, e = .returned v ∧ R v w') .ret n σ w := by
  unfold EX; intro ac hac
  refine bodyPost_ret (results_cell3 hr _ _ _ (hac.slot a _ ha) (v := .agg cells.toArray) ?_) hac.defers ⟨_, by rw [hac.slot u x hu, hac.slot s y hs], h⟩
  rw [lenL_eq] at hk
  have hld := run_loadCells_list (P := P) w ⟨b, 0, none⟩ cells (fun j u hu => by rw [WideShapes.add_plain, Nat.zero_add]; exact hb.cell hu)
  obtain ⟨i, dd, h1, h2, h3, h4⟩ := hc.ok
  have hagg : (isAgg t).run P w = .ok true w := by
    unfold isAgg
    rw [Sem.run_bind, run_underlying h3 w, ← h4]
    cases dd <;> rfl
  rw [hk] at hld
  simp [loadVar, hagg, sizeOf, typeInfo, h1, h2, hld]
theorem grown_setCell (w : World) (b : Nat) (v : Value) : w.grownBy (w.setCell ⟨b, 0, none⟩ v) (some b) :=
  ⟨rfl, rfl, rfl, by simp [World.setCell], fun k _ hk => by
    have : b ≠ k := fun e => hk (by rw [e])
    simp [World.setCell, Array.getElem?_modify, this]⟩
theorem Blk.setCell {w : World} {b : Nat} {e : TypeId} {u v : Value} (h : Blk w b e [u]) : Blk (w.setCell ⟨b, 0, none⟩ v) b e [v] := by
  unfold Blk at h ⊢
  simp [World.setCell, Array.getElem?_modify, h]
theorem Blk.neT {w : World} {a b : Nat} {e1 e2 : TypeId} {c1 c2 : List Value} (h : Blk w a e1 c1) (h' : Blk w b e2 c2) (he : e1 ≠ e2) : a ≠ b := by
  rintro rfl
  unfold Blk at h h'
  rw [h] at h'
  have := Option.some.inj h'
  simp at this
  exact he this.2
/-- the handle that errors.As looks at -/
def ErrH (w : World) : Prop := w.cell? ⟨4, 0, none⟩ = some (.iface 181 (.agg #[.pointer (some ⟨7, 127, none⟩)]))
theorem ErrH.lt {w : World} (h : ErrH w) : 4 < w.heap.size := by
  rcases Nat.lt_or_ge 4 w.heap.size with h1 | h1
  · exact h1
  · unfold ErrH at h; simp [World.cell?, Array.getElem?_eq_none h1] at h
theorem ErrH.kept {w w' : World} {r : Option Nat} (h : ErrH w) (hg : w.grownBy w' r) (hr : r ≠ some 4) : ErrH w' := by
  have hl := h.lt
  unfold ErrH at *
  have := hg.block 4 hl (fun e => hr e.symm)
  unfold World.cell? at h ⊢
  rw [this]; exact h
/-- what Parse makes of what was read -/
def finC (N : Nat) : PR → Ltl × Nat × Int
  | .er c a => (.mk 0 0 [], a, c)
  | .ok f st => if st.1 ≠ [] then (.mk 0 0 [], atT N st, 3) else if (chkC f 1 0).1 ≠ 0 then (.mk 0 0 [], N, (chkC f 1 0).1) else (f, 0, 0)
theorem parseC_fin (s : Bys) (nms : List ByteArray) : parseC s nms = if s.length > 300 then (.mk 0 0 [], 0, 2) else finC s.length (cFor nms s.length (10 * s.length + 20) 0 [] (nxT s)) := by
  unfold parseC
  split
  · rfl
  · cases cFor nms s.length (10 * s.length + 20) 0 [] (nxT s) <;> rfl
theorem as_fault (w : World) {fb tb : Nat} (hg : ErrH w) (ht : Blk w tb 131 [.pointer none]) :
    Rt Tryz.prog 82 [.iface 131 (.pointer (some ⟨fb, 0, none⟩)), .iface 133 (.pointer (some ⟨tb, 0, none⟩))].toArray w fun v w' => v = .bool true ∧ Blk w' tb 131 [.pointer (some ⟨fb, 0, none⟩)] ∧ w.grownBy w' (some tb) := by
  have h := as_hit ⟨fb, 0, none⟩ ⟨tb, 0, none⟩ (.pointer none) w hg (ht.cell (o := 0) rfl) (by unfold Blk at ht; simp [World.frozen?, ht])
  refine Calls.mono h ?_
  rintro e w' ⟨rfl, rfl⟩
  refine ⟨_, rfl, rfl, ?_, ?_⟩
  · exact Blk.setCell ((((ht.ext (Ext.alloc _ _)).ext (Ext.alloc _ _)).ext (Ext.alloc _ _)).ext (Ext.alloc _ _))
  · exact grown_tr ((((Ext.alloc w _).trans (Ext.alloc _ _)).trans (Ext.alloc _ _)).trans (Ext.alloc _ _) |>.grw _) (grown_setCell _ _ _)
theorem as_none (w : World) (t : Value) : Rt Tryz.prog 82 [.nilIface, t].toArray w fun v w' => v = .bool false ∧ w' = w := by
  refine Calls.mono (as_nil t w) ?_
  rintro e w' ⟨rfl, rfl⟩
  exact ⟨_, rfl, rfl, rfl⟩
theorem creader_ok {rb : Nat} {s : Bys} {no : Option Addr} {nc : Nat} {nms : List ByteArray} (hs : s.length ≤ 300) : ∀ n, SinOK rb s no nc nms n ∧ ForOK rb s no nc nms n
  | 0 => ⟨fun m hm o st w hr ho h => by omega, fun m hm o st w hr ho h => by omega⟩
  | n + 1 => by
    obtain ⟨h1, h2⟩ := creader_ok (rb := rb) (no := no) (nc := nc) (nms := nms) hs n
    refine ⟨fun m hm o st w hr ho h => ?_, fun m hm o st w hr ho h => ?_⟩
    · by_cases e : m = n + 1
      · subst e
        exact csingle_ok w hr hs ho h1 h2 h
      · exact h1 m (by omega) o st w hr ho h
    · exact cformula_ok w hr hs ho h1 m hm h
instance iCRd13 : IsIf Tryz.prog 20 := ⟨by kernel_rfl⟩
instance iCRd14 : IsZC Tryz.prog 131 [.pointer none] := IsZC.of (z := .pointer none) (by kernel_rfl) rfl
instance iCRd15 : IsC Tryz.prog 131 1 false := IsC.of (by kernel_rfl) Tryz.underlying131 rfl
instance iCRd16 : IsFd Tryz.prog 135 0 0 := IsFd.of (by kernel_rfl)
instance iCRd17 : IsFd Tryz.prog 135 1 1 := IsFd.of (by kernel_rfl)
set_option maxHeartbeats 2000000 in
theorem cparse_ok (w0 : World) (hE : ErrH w0) {s : Bys} {no : Option Addr} {nc : Nat} {nms : List ByteArray} (hn : Sl w0 (Old w0) no nc nms) :
    Rt Tryz.prog 69 [tV s, .slice no nms.length nc].toArray w0 fun v w' => ∃ x, v = .tuple ⟨[x, .int .i64 ((parseC s nms).2.1 : Int), .int .i64 (parseC s nms).2.2]⟩ ∧ GL w0.heap.size w' x (parseC s nms).1 ∧ Ext w0 w' := by
  have h1 := hE.lt
  refine Rt.enter2 Tryz.func69 Tryz.ntmps69 rfl rfl ?_
  rw [parseC_fin]
  (repeat (first | (apply CW.seq) | (apply CW.region)))
  refine WL.alloc rfl rfl (fun w1 hb4 e1 => ?_)
  have l4 := hb4.lt
  (repeat (first | (apply WL.pure; rfl; rfl; rfl) | (apply WL.nil) | (apply EX.thenN) | (apply CW.seq) | (apply CW.region)))
  refine WL.lenB rfl rfl rfl ?_
  (repeat (first | (apply WL.pure; rfl; rfl; rfl) | (apply WL.nil) | (apply EX.thenN)))
  refine CW.cond rfl (fun h => ?_) (fun h => ?_)
  · have h : s.length > 300 := by have : (s.length : Int) > 300 := by simpa using h
                                  omega
    rw [if_pos h]
    (repeat (first | (apply CW.seq) | (apply CW.region)))
    refine WL.build (parts := []) rfl rfl rfl rfl ?_
    skip
    refine WL.st rfl rfl rfl hb4 rfl rfl (ones_of rfl) (fun w2 hb42 hg2 => ?_)
    (repeat (first | (apply WL.pure; rfl; rfl; rfl) | (apply WL.nil) | (apply EX.thenN) | (apply CW.ret) | (apply EX.thenR)))
    exact EX.retC3 rfl rfl rfl rfl hb42 rfl ⟨_, rfl, GL.zero 0 0, e1.grown hg2 e1.size (fun g hg => by cases hg; exact Nat.le_refl _)⟩
  have hs : s.length ≤ 300 := by have : ¬ (s.length : Int) > 300 := by simpa using h
                                 omega
  rw [if_neg (by omega)]
  clear h
  (repeat (first | (apply WL.pure; rfl; rfl; rfl) | (apply EX.thenN) | (apply CW.seq) | (apply CW.region) | (apply CW.skip)))
  refine WL.build rfl rfl rfl rfl ?_
  refine WL.boxB rfl rfl rfl fun w2 hbr e2 => ?_
  have hb4 := hb4.ext e2
  have e12 := e1.trans e2
  have lr := hbr.lt
  have hr2 : Rdr 139 w2 w1.heap.size s no nc nms 0 ([], s) := ⟨by
    have : atT s.length ([], s) = 0 := by simp [atT]
    rw [this, show ([], s).2.length = s.length from rfl, Nat.sub_self]
    exact hbr, hn.mono (fun b hb => e12.block b hb) (fun b hb => by show b < _; have : b < w0.heap.size := hb; omega), by simp, by simp⟩
  generalize hRB : w1.heap.size = rb at *
  have h2 : ErrH w2 := hE.kept (e12.grw none) (by simp)
  (repeat (first | (apply WL.pure; rfl; rfl; rfl) | (apply WL.nil) | (apply EX.thenN) | (apply CW.seq) | (apply CW.region)))
  refine WL.call rfl rfl rfl (cnext_ok w2 hr2 hs) ?_
  rintro _ w3 ⟨hr3, hg3⟩
  have hb4 := hb4.kept hg3 (fun e => by have := Option.some.inj e; omega)
  have hG := hg3
  have z3 := hg3.size
  have hm3 : mT (nxT s) ≤ s.length := nxT_len s
  (repeat (first | (apply WL.pure; rfl; rfl; rfl) | (apply WL.nil) | (apply EX.thenN) | (apply CW.seq) | (apply CW.region)))
  refine WL.call rfl rfl rfl ((creader_ok hs (10 * s.length + 20)).2 (10 * s.length + 20) (Nat.le_refl _) 0 _ w3 hr3 (by omega) (by show 10 * mT (nxT s) + 6 ≤ _; omega)) ?_
  rintro _ w4 ⟨⟨x, e, t, st1, rfl, hx, hr4, hE4⟩, hg4⟩
  have l3 := hb4.lt
  have lr3 := hr3.lt
  have hb4 := hb4.kept hg4 (fun e => by have := Option.some.inj e; omega)
  have hG := grown_tr hG hg4
  have hx : GX w0.heap.size [w0.heap.size] w4 x t := GX.of hx (by omega) (fun r hr => by rw [List.mem_singleton.1 hr]; exact l3)
  have hE4 : ErP w4 w0.heap.size (cFor nms s.length (10 * s.length + 20) 0 [] (nxT s)) e t st1 := hE4.low (by omega)
  generalize cFor nms s.length (10 * s.length + 20) 0 [] (nxT s) = R at *
  obtain ⟨uo, uc, rfl, hk⟩ := Rd.ltl hx
  have z4 := hg4.size
  (repeat (apply WL.pure; rfl; rfl; rfl))
  refine WL.alloc rfl rfl (fun w5 hb8 e5 => ?_)
  have hx := hx.add e5 (Nat.le_refl _)
  have hb4 := hb4.ext e5
  have hr5 := hr4.ext e5
  have hE5 := hE4.ext e5
  have hG := grown_tr hG (e5.grw (some rb))
  have h48 : w0.heap.size < w4.heap.size := by omega
  have hr8 : rb < w4.heap.size := hr4.lt
  have l8 := hb8.lt
  generalize hB8 : w4.heap.size = b8 at *
  skip
  refine WL.st rfl rfl rfl hb8 rfl rfl (ones_of rfl) (fun w6 hb86 hg6 => ?_)
  have hx := hx.st hg6 (.inr (List.mem_cons_self ..))
  have hH := HF.of hb86 hx
  have hb4 := hb4.kept hg6 (fun e => by have := Option.some.inj e; omega)
  have hr6 := hr5.kept hg6 (fun b e => by cases e; omega)
  have hE6 := hE5.stT hg6 hb8 (by decide)
  have hG := grown_row hG hg6 (fun g hg => by cases hg; have := e2.size; omega)
  have hrb := hr6.blk
  have he := hE6.err
  have z6 := hg6.size
  clear hb8 hb86 hx hr5 hr4 hE5 hE4 hr3 hr2 hg6 hk hg3 hg4
  (repeat (first | (apply WL.pure; rfl; rfl; rfl) | (apply WL.nil) | (apply EX.thenN)))
  refine CW.cutI (S := Value) (fun e => [(0, tV s), (4, .pointer (some ⟨w0.heap.size, 0, none⟩)), (8, .pointer (some ⟨b8, 0, none⟩)), (9, e)])
    (fun e w => w2.grownBy w (some rb) ∧ w6.heap.size ≤ w.heap.size ∧ Blk w w0.heap.size 31 [.int .i64 0, .int .i64 0, .slice none 0 0] ∧ HF 31 w b8 w0.heap.size [b8, w0.heap.size] t ∧
      ((e = .nilIface ∧ R = .ok t st1 ∧ st1.1 = []) ∨ ∃ c a, FlV w w0.heap.size c a e ∧ finC s.length R = (.mk 0 0 [], a, c))) ?_ ?_
  · (repeat (first | (apply WL.pure; rfl; rfl; rfl) | (apply CW.seq) | (apply CW.region)))
    refine WL.eqNil rfl rfl rfl he ?_
    rcases hE6 with ⟨rfl, rfl⟩ | ⟨c, a, rfl, hF⟩
    · rw [show nilI Value.nilIface = true from rfl]
      (repeat (first | (apply WL.pure; rfl; rfl; rfl) | (apply WL.nil) | (apply EX.thenN) | (apply WL.fa; rfl; rfl; rfl) | (apply WL.nck; rfl; rfl; rfl) | (apply WL.ld; rfl; rfl; rfl; assumption; rfl)))
      rw [show ((txA st1.1).data.toList == (ByteArray.mk #[]).data.toList) = decide (st1.1 = []) from txA_eqd _ _]
      refine CW.cond rfl (fun h => ?_) (fun h => ?_)
      · have h : ¬ st1.1 = [] := by simpa using h
        (repeat (first | (apply WL.pure; rfl; rfl; rfl) | (apply CW.region)))
        refine WL.call rfl rfl rfl (cwrong_ok w6 hr6 3) ?_
        rintro _ w7 ⟨rfl, hf7, e7⟩
        (repeat (first | (apply WL.pure; rfl; rfl; rfl) | (apply WL.nil)))
        exact EX.cutI _ (by repeat (first | exact trivial | refine ⟨rfl, ?_⟩)) ⟨grown_tr hG (e7.grw _), e7.size, hb4.ext e7, hH.ext e7, .inr ⟨_, _, ⟨_, rfl, by omega, hf7⟩, if_pos h⟩⟩
      · have h : st1.1 = [] := by simpa using h
        (repeat (apply CW.skip))
        exact EX.cutI _ (by repeat (first | exact trivial | refine ⟨rfl, ?_⟩)) ⟨hG, Nat.le_refl _, hb4, hH, .inl ⟨rfl, rfl, h⟩⟩
    · rw [hF.err.2]
      (repeat (first | (apply WL.pure; rfl; rfl; rfl) | (apply WL.nil) | (apply EX.thenN) | (apply WL.pass; rfl; rfl) | (apply CW.condF; rfl) | (apply CW.skip)))
      exact EX.cutI _ (by repeat (first | exact trivial | refine ⟨rfl, ?_⟩)) ⟨hG, Nat.le_refl _, hb4, hH, .inr ⟨c, a, hF, rfl⟩⟩
  clear hG hb4 hH hr6 hrb he hE6
  rintro e w7 ⟨hG, z7, hb4, hH, hI⟩
  have l87 := hH.lt
  have l47 := hb4.lt
  have h7 : ErrH w7 := h2.kept hG (fun e => by have := Option.some.inj e; omega)
  have hX : Ext w0 w7 := e12.grown hG e12.size (fun g hg => by cases hg; have := e1.size; omega)
  (repeat (first | (apply CW.seq) | (apply CW.region)))
  refine WL.alloc rfl rfl (fun w8 hb10 e8 => ?_)
  have hb4 := hb4.ext e8
  have hH := hH.ext e8
  have h8 : ErrH w8 := h7.kept (e8.grw none) (by simp)
  have hX := hX.trans e8
  have l10 := hb10.lt
  have h710 : w0.heap.size < w7.heap.size := by omega
  have h810 : b8 < w7.heap.size := by omega
  (repeat (first | (apply WL.pure; rfl; rfl; rfl) | (apply WL.nil) | (apply EX.thenN) | (apply CW.seq) | (apply CW.region)))
  refine WL.mkIf rfl rfl rfl Tryz.underlying133 rfl ?_
  rcases hI with ⟨rfl, rfl, hst⟩ | ⟨c, a, hF, hR⟩
  · refine WL.call rfl rfl rfl (as_none w8 _) ?_
    rintro _ w9 ⟨rfl, rfl⟩
    dsimp only [finC]
    rw [if_neg (by simp [hst])]
    have hy := hH.gx
    obtain ⟨vo, vc, hb8, hsl⟩ := hH
    (repeat (first | (apply WL.nil) | (apply EX.thenN) | (apply CW.seq) | (apply CW.region) | (apply WL.ldA; rfl; rfl; rfl; assumption; rfl) | (apply CW.condF; rfl) | (apply CW.skip)))
    refine WL.call rfl rfl rfl (ctlCheck w9 (t := t) (F := GXs w0.heap.size [b8, w0.heap.size] w9) hsl (fun b hb => hb.2.1)) ?_
    rintro _ w10 ⟨rfl, e10⟩
    have hb4 := hb4.ext e10
    have hb8 := hb8.ext e10
    have hX := hX.trans e10
    have hy : GX w0.heap.size [b8, w0.heap.size] w9 (ltlV t.k t.n vo t.kids.length vc) t := by
      cases t with
      | mk k n kids => exact Rd.mkLtl hsl
    have hy := hy.ext e10
    (repeat (first | (apply WL.pure; rfl; rfl; rfl) | (apply WL.nil) | (apply EX.thenN) | (apply CW.seq) | (apply CW.region)))
    refine CW.cond rfl (fun h => ?_) (fun h => ?_)
    · have h : (chkC t 1 0).1 ≠ 0 := by simpa using h
      rw [if_pos h]
      (repeat (first | (apply CW.seq) | (apply CW.region)))
      refine WL.build (parts := []) rfl rfl rfl rfl ?_
      (repeat (apply WL.pure; rfl; rfl; rfl))
      refine WL.lenB rfl rfl rfl ?_
      (repeat (apply WL.pure; rfl; rfl; rfl))
      refine WL.st rfl rfl rfl hb4 rfl rfl (ones_of rfl) (fun w11 hb11 hg11 => ?_)
      (repeat (first | (apply WL.pure; rfl; rfl; rfl) | (apply WL.nil) | (apply EX.thenN) | (apply CW.ret) | (apply EX.thenR)))
      exact EX.retC3 rfl rfl rfl rfl hb11 rfl ⟨_, rfl, GL.zero 0 0, hX.grown hg11 hX.size (fun g hg => by cases hg; exact Nat.le_refl _)⟩
    · have h : (chkC t 1 0).1 = 0 := by simpa using h
      rw [if_neg (by simp [h])]
      (repeat (first | (apply EX.thenN) | (apply CW.seq) | (apply CW.region) | (apply WL.ldA; rfl; rfl; rfl; assumption; rfl) | (apply CW.skip)))
      refine WL.st rfl rfl rfl hb4 rfl rfl (ones_of rfl) (fun w11 hb11 hg11 => ?_)
      (repeat (first | (apply WL.pure; rfl; rfl; rfl) | (apply WL.nil) | (apply EX.thenN) | (apply CW.ret)))
      exact EX.retC3 rfl rfl rfl rfl hb11 rfl ⟨_, rfl, (hy.st hg11 (.inr (by simp))).gl, hX.grown hg11 hX.size (fun g hg => by cases hg; exact Nat.le_refl _)⟩
  · obtain ⟨fb, rfl, hfB, hfb⟩ := hF.ext e8
    have lfb : fb < w7.heap.size := by
      obtain ⟨fb', e', _, h'⟩ := hF
      cases e'
      exact h'.lt
    refine WL.call rfl rfl rfl (as_fault w8 h8 hb10) ?_
    rintro _ w9 ⟨rfl, hb109, hg9⟩
    have hb4 := hb4.kept hg9 (fun e => by have := Option.some.inj e; omega)
    have hfb := hfb.kept hg9 (fun e => by have := Option.some.inj e; omega)
    have hX : Ext w0 w9 := hX.grown hg9 hX.size (fun g hg => by cases hg; omega)
    have hD := Ext.drew w9
    have hb4 := hb4.ext hD
    have hfb := hfb.ext hD
    have hb10 := hb109.ext hD
    have hX := hX.trans hD
    generalize hB10 : w7.heap.size = b10 at *
    clear hb109 hg9 h8 h7 hF hH
    rw [hR]
    (repeat (first | (apply WL.nil) | (apply EX.thenN) | (apply CW.seq) | (apply CW.condT; rfl)))
    refine CW.drawH (fun z : World => z.heap[b10]? = (drew w9).heap[b10]? ∧ z.heap[fb]? = (drew w9).heap[fb]?) [(0, true), (1, true), (2, true), (3, true), (4, true), (5, true), (6, true), (7, true), (8, true), (9, false), (10, true), (11, true)] mixed (by kernel_rfl) ⟨rfl, rfl⟩ ?_
    refine HL.build (parts := []) rfl rfl rfl rfl rfl ?_
    refine HL.ldS (fun z hz => hz.1.trans hb10) rfl rfl rfl rfl rfl ?_
    (repeat (first | (refine HL.fa rfl rfl rfl rfl ?_) | (apply HL.nck; rfl; rfl; rfl; rfl)))
    refine HL.ldS (fun z hz => hz.2.trans hfb) rfl rfl rfl rfl rfl ?_
    refine HL.ldS (fun z hz => hz.1.trans hb10) rfl rfl rfl rfl rfl ?_
    (repeat (first | (refine HL.fa rfl rfl rfl rfl ?_) | (apply HL.nck; rfl; rfl; rfl; rfl)))
    refine HL.ldS (fun z hz => hz.2.trans hfb) rfl rfl rfl rfl rfl ?_
    refine HL.mut rfl (WL.st rfl rfl rfl hb4 rfl rfl (ones_of rfl) (fun w11 hb11 hg11 => ?_))
    refine WL.nil (EX.mut ⟨hg11.block _ hb10.lt (fun e => by have := Option.some.inj e; omega), hg11.block _ hfb.lt (fun e => hfb.neT hb4 (by decide) (Option.some.inj e))⟩ ?_)
    (repeat (first | (apply HL.pure; rfl; rfl; rfl; rfl) | (apply HL.nil)))
    (repeat (first | (apply EX.thenN) | (apply CW.ret) | (apply EX.thenR)))
    exact EX.retC3 rfl rfl rfl rfl hb11 rfl ⟨_, rfl, GL.zero 0 0, hX.grown hg11 hX.size (fun g hg => by cases hg; exact Nat.le_refl _)⟩
end Go.Proofs.YtikigaeihdmcaaaGreatDoor

/-
  errors.Is at two sentinels. Began as the worked proofs Nf9IsFacts, Nf9Chain.
-/
set_option linter.unusedVariables false
set_option linter.unusedSimpArgs false
namespace Go.Proofs.YtikigaeihdmcaaaGreatDoor
open Go.RowKit Go.Extern.Stop Go.Stop Go.Extern

theorem fi_typeOf (v : Value) (w : World) : (Extern.ReflectliteType.typeOf #[.iface 205 v]).run Tryz.prog w = .ok (.iface 181 (.agg #[.pointer (some ⟨7, 205, none⟩)])) w := by kernel_rfl
theorem fi_comparable (w : World) : ((Extern.ReflectliteType.method fun t => do Rtype.noPackHeld "Comparable" t; pure (.bool (← typeInfo t).comparable)) #[.agg #[.pointer (some ⟨7, 205, none⟩)]]).run Tryz.prog w = .ok (.bool true) w := by kernel_rfl
theorem fi_comparable2 (w : World) : ((Extern.ReflectliteType.method fun t => Rtype.noPackHeld "Comparable" t >>= fun _ => (fun a => Value.bool a.comparable) <$> typeInfo t) #[.agg #[.pointer (some ⟨7, 205, none⟩)]]).run Tryz.prog w = .ok (.bool true) w := by kernel_rfl
theorem fi_methodComparable (v : Value) (w : World) : (Go.method 335 181 v "Comparable").run Tryz.prog w = .ok (161, v) w := by kernel_rfl
theorem fi_comp : (Tryz.prog.info? 205).map (·.comparable) = some true := by kernel_rfl
theorem fi_size : (Tryz.prog.info? 223).map (·.size) = some 1 := by kernel_rfl
theorem fi_noIs (v : Value) (xT : TypeId) (w : World) : (Instr.typeAssert (.iface 205 v) xT 196 true).run Tryz.prog w = .ok (.tuple #[.nilIface, .bool false]) w := run_typeAssert_lacksB Tryz.underlying196 (by kernel_rfl) (by kernel_rfl) v xT w
theorem fi_noUnwrap (v : Value) (xT : TypeId) (w : World) : (Instr.typeAssert (.iface 205 v) xT 188 true).run Tryz.prog w = .ok (.tuple #[.nilIface, .bool false]) w := run_typeAssert_lacksB Tryz.underlying188 (by kernel_rfl) (by kernel_rfl) v xT w
theorem fi_noUnwraps (v : Value) (xT : TypeId) (w : World) : (Instr.typeAssert (.iface 205 v) xT 190 true).run Tryz.prog w = .ok (.tuple #[.nilIface, .bool false]) w := run_typeAssert_lacksB Tryz.underlying190 (by kernel_rfl) (by kernel_rfl) v xT w
set_option maxRecDepth 1000000 in
theorem is_leaf {W : World} (a b : Addr) (ca cb : Array Value) (ta tb : TypeId) (ha : W.heap[a.block]? = some (.cells ca ta (0, 0))) (hb : W.heap[b.block]? = some (.cells cb tb (0, 0))) :
    Calls Tryz.prog 116 #[.iface 205 (.pointer (some a)), .iface 205 (.pointer (some b)), .bool true] W fun e w' => e = .returned (.bool (decide (a = b))) ∧ w' = W := by
  obtain ⟨i, hi, hcmp⟩ := Option.map_eq_some_iff.1 fi_comp
  obtain ⟨j, hj, hjs⟩ := Option.map_eq_some_iff.1 fi_size
  have nE := fi_noIs
  have uE := fi_noUnwrap
  have vE := fi_noUnwraps
  by_cases hab : a = b
  · subst hab
    have heq := run_eql_iface_ptr_same (P := Tryz.prog) W a Tryz.underlying127 Tryz.underlying205 hi hcmp hj
    go_enter Tryz.func116, Tryz.ntmps116
    go_wp2
    refine wp_loop_rounds 1 ?_
    rw [rounds_succ]
    go_wp2
    go_ret
    exact ⟨by simp, rfl⟩
  · have heq := run_eql_iface_ptr_other (P := Tryz.prog) W Tryz.underlying127 Tryz.underlying205 hi hcmp hj (by rw [hjs]; decide) hab ha hb
    go_enter Tryz.func116, Tryz.ntmps116
    go_wp2
    refine wp_loop_rounds 1 ?_
    rw [rounds_succ]
    go_wp2
    go_ret
    exact ⟨by simp [hab], rfl⟩
set_option maxRecDepth 1000000 in
set_option maxHeartbeats 4000000 in
theorem Is_leaf {W : World} (a b : Addr) (ca cb : Array Value) (ta tb : TypeId) (ha : W.heap[a.block]? = some (.cells ca ta (0, 0))) (hb : W.heap[b.block]? = some (.cells cb tb (0, 0))) :
    Calls Tryz.prog 98 #[.iface 205 (.pointer (some a)), .iface 205 (.pointer (some b))] W fun e w' => e = .returned (.bool (decide (a = b))) ∧ w' = W := by
  have h10 := @run_callFunc_extern Tryz.prog 115 _ ReflectliteType.typeOf Tryz.func115 (by kernel_rfl) (by kernel_rfl) (by kernel_rfl) (by kernel_rfl)
  have hC := @run_callFunc_extern Tryz.prog 161 _ (Extern.ReflectliteType.method fun t => do Rtype.noPackHeld "Comparable" t; pure (.bool (← typeInfo t).comparable)) Tryz.func161 (by kernel_rfl) (by kernel_rfl) (by kernel_rfl) (by kernel_rfl)
  have tO := fi_typeOf
  have mC := fi_methodComparable
  have cC := fi_comparable
  have cC2 := fi_comparable2
  go_enter Tryz.func98, Tryz.ntmps98
  go_wp2_with (first | (go_at_call 116; refine (is_leaf a b ca cb ta tb ha hb).mono ?_; rintro e w' ⟨rfl, rfl⟩))
  go_ret
  exact ⟨rfl, rfl⟩
end Go.Proofs.YtikigaeihdmcaaaGreatDoor

/-
  ltl.Parse, walked: faults from sentinels.
-/
set_option linter.unusedVariables false
set_option linter.unusedSimpArgs false
namespace Go.Proofs.YtikigaeihdmcaaaGreatDoor
open Go.RowKit

/-- the sentinel of an error: 0 that it can't stand there, 1 too much open, 2 no such name -/
structure SenH (w : World) (a : Nat → Addr) : Prop where
  g0 : w.cell? ⟨0, 0, none⟩ = some (.iface 205 (.pointer (some (a 0))))
  g1 : w.cell? ⟨2, 0, none⟩ = some (.iface 205 (.pointer (some (a 1))))
  g2 : w.cell? ⟨3, 0, none⟩ = some (.iface 205 (.pointer (some (a 2))))
  h : ∀ i, i < 3 → ∃ c t, w.heap[(a i).block]? = some (.cells c t (0, 0))
  n01 : a 0 ≠ a 1
  n02 : a 0 ≠ a 2
  n12 : a 1 ≠ a 2
theorem cell_lt {w : World} {p : Addr} {v : Value} (h : w.cell? p = some v) : p.block < w.heap.size := by
  rcases Nat.lt_or_ge p.block w.heap.size with h1 | h1
  · exact h1
  · simp [World.cell?, Array.getElem?_eq_none h1] at h
theorem SenH.kept {w w' : World} {a : Nat → Addr} {r : Option Nat} {B : Nat} (h : SenH w a) (hg : w.grownBy w' r) (hr : ∀ b, r = some b → B ≤ b) (hB : 3 < B ∧ ∀ i, i < 3 → (a i).block < B) : SenH w' a := by
  have hk : ∀ p : Addr, ∀ v, p.block < B → w.cell? p = some v → w'.cell? p = some v := fun p v hp hv => by
    have := hg.block p.block (cell_lt hv) (fun e => by have := hr _ e.symm; omega)
    unfold World.cell? at hv ⊢
    rw [this]; exact hv
  refine ⟨hk _ _ (by show 0 < B; omega) h.g0, hk _ _ (by show 2 < B; omega) h.g1, hk _ _ (by show 3 < B; omega) h.g2, fun i hi => ?_, h.n01, h.n02, h.n12⟩
  obtain ⟨c, t, e⟩ := h.h i hi
  refine ⟨c, t, ?_⟩
  have hl : (a i).block < w.heap.size := by
    rcases Nat.lt_or_ge (a i).block w.heap.size with h1 | h1
    · exact h1
    · rw [Array.getElem?_eq_none h1] at e; cases e
  rw [hg.block _ hl (fun e => by have := hr _ e.symm; have := hB.2 i hi; omega)]
  exact e
def codeS (i : Nat) : Int := if i = 1 then 5 else if i = 2 then 4 else 3
theorem is_sen {w : World} {a : Nat → Addr} (h : SenH w a) {i j : Nat} (hi : i < 3) (hj : j < 3) :
    Rt Tryz.prog 98 [.iface 205 (.pointer (some (a i))), .iface 205 (.pointer (some (a j)))].toArray w fun v w' => v = .bool (decide (i = j)) ∧ w' = w := by
  obtain ⟨ca, ta, ha⟩ := h.h i hi
  obtain ⟨cb, tb, hb⟩ := h.h j hj
  refine Calls.mono (Is_leaf (a i) (a j) ca cb ta tb ha hb) ?_
  rintro e w' ⟨rfl, rfl⟩
  refine ⟨_, rfl, ?_, rfl⟩
  have n01 := h.n01; have n02 := h.n02; have n12 := h.n12
  have e3 : ∀ k, k < 3 → k = 0 ∨ k = 1 ∨ k = 2 := fun k hk => by omega
  congr 1
  rcases e3 i hi with rfl | rfl | rfl <;> rcases e3 j hj with rfl | rfl | rfl <;> simp_all [eq_comm]
section
variable {P : Program} {Q : Exit → Act → World → Prop} {n : Nat} {σ : Sg} {w wc : World} {L rest : List Oper} {S : World → Prop} {ord : List (Nat × Bool)} {i d : Nat} {ty : TypeId} {pos : String} {af : Array Edge} {g : Option (Nat × Bool)} {t : TypeId} {x : Operand} {b o : Nat} {v : Value}
theorem run_ldc (w : World) (hv : w.cell? ⟨b, o, none⟩ = some v) [hc : IsC P t 1 false] : (Instr.loadAt t (.pointer (some ⟨b, o, none⟩))).run P w = .ok v w := by
  obtain ⟨i, dd, h1, h2, h3, h4⟩ := hc.ok
  have hagg : (isAgg t).run P w = .ok false w := by
    unfold isAgg
    rw [Sem.run_bind, run_underlying h3 w, ← h4]
    cases dd <;> rfl
  simp only [Instr.loadAt, Sem.run_bind, Instr.sureAddr, Sem.run_pure, Result.andThen_ok, loadVar, hagg]
  simp [hv]
/-- a variable of the package, read -/
theorem WL.ldG (hg : gd L σ ⟨some d, .load t x, ty, pos, af, g⟩ = some true) (hd : Nat.ble (d + 1) n = true) (hx : ev σ x = some (.pointer (some ⟨b, o, none⟩))) [hc : IsC P t 1 false] (hv : w.cell? ⟨b, o, none⟩ = some v)
    (h : WL P L Q rest n ((d, v) :: σ) w) : WL P L Q (⟨some d, .load t x, ty, pos, af, g⟩ :: rest) n σ w := by
  refine WL.run hg hd (fun a ha => ?_) h
  simp [execOp, ha.ev hx, run_ldc (P := P) (t := t) w hv]
theorem HL.ldG (hK : ∀ w1, S w1 → w1.cell? ⟨b, o, none⟩ = some v) (ho : nthO L i = some ⟨some d, .load t x, ty, pos, af, g⟩) (hg : gd L σ ⟨some d, .load t x, ty, pos, af, g⟩ = some true) (hd : Nat.ble (d + 1) n = true) (hx : ev σ x = some (.pointer (some ⟨b, o, none⟩))) [hc : IsC P t 1 false]
    (h : HL P L S Q ord n ((d, v) :: σ) wc) : HL P L S Q ((i, true) :: ord) n σ wc := by
  refine HL.run ho hg hd (fun a ha w' hsw => ?_) h
  simp [execOp, ha.ev hx, run_ldc (P := P) (t := t) w' (hK w' hsw)]
end
instance iLRd11 : IsC Tryz.prog 127 1 false := IsC.of (by kernel_rfl) Tryz.underlying127 rfl
theorem lfault_ok (w0 : World) {a : Nat → Addr} (hS : SenH w0 a) {i : Nat} (hi : i < 3) (at_ : Nat) :
    Rt Tryz.prog 81 [.iface 205 (.pointer (some (a i))), .int .i64 (at_ : Int)].toArray w0 fun v w' => FlL w' w0.heap.size (codeS i) at_ v ∧ Ext w0 w' := by
  refine Rt.enter2 Tryz.func81 Tryz.ntmps81 rfl rfl ?_
  (repeat (first | (apply WL.pure; rfl; rfl; rfl) | (apply WL.nil) | (apply EX.thenN) | (apply CW.seq) | (apply CW.region) | (apply CW.block)))
  refine WL.ldG rfl rfl rfl hS.g1 ?_
  refine WL.call rfl rfl rfl (is_sen hS hi (by omega : 1 < 3)) ?_
  rintro _ w1 ⟨rfl, rfl⟩
  (repeat (first | (apply WL.pure; rfl; rfl; rfl) | (apply WL.nil) | (apply EX.thenN)))
  refine CW.cond rfl (fun h => ?_) (fun h => ?_)
  · have h1 : i = 1 := of_decide_eq_true h
    subst h1
    (repeat (first | (apply WL.pure; rfl; rfl; rfl) | (apply WL.nil) | (apply EX.thenN) | (apply CW.seq) | (apply CW.region) | (apply EX.inN)))
    refine WL.build rfl rfl rfl rfl ?_
    refine WL.boxB rfl rfl rfl fun w2 hb2 e2 => ?_
    refine WL.mkIf rfl rfl rfl Tryz.underlying131 rfl ?_
    (repeat (first | (apply WL.pure; rfl; rfl; rfl) | (apply WL.nil) | (apply EX.thenN) | (apply CW.ret)))
    exact EX.ret1 rfl rfl ⟨⟨_, _, rfl, Nat.le_refl _, hb2⟩, e2⟩
  have h1 : ¬ i = 1 := of_decide_eq_false h
  clear h
  (repeat (first | (apply WL.pure; rfl; rfl; rfl) | (apply CW.seq) | (apply CW.region)))
  refine WL.ldG rfl rfl rfl hS.g2 ?_
  refine WL.call rfl rfl rfl (is_sen hS hi (by omega : 2 < 3)) ?_
  rintro _ w1 ⟨rfl, rfl⟩
  (repeat (first | (apply WL.pure; rfl; rfl; rfl) | (apply WL.nil) | (apply EX.thenN)))
  refine CW.cond rfl (fun h => ?_) (fun h => ?_)
  · have h2 : i = 2 := of_decide_eq_true h
    subst h2
    (repeat (first | (apply WL.pure; rfl; rfl; rfl) | (apply WL.nil) | (apply EX.thenN) | (apply CW.seq) | (apply CW.region) | (apply EX.inN)))
    refine WL.build rfl rfl rfl rfl ?_
    refine WL.boxB rfl rfl rfl fun w2 hb2 e2 => ?_
    refine WL.mkIf rfl rfl rfl Tryz.underlying131 rfl ?_
    (repeat (first | (apply WL.pure; rfl; rfl; rfl) | (apply WL.nil) | (apply EX.thenN) | (apply CW.ret)))
    exact EX.ret1 rfl rfl ⟨⟨_, _, rfl, Nat.le_refl _, hb2⟩, e2⟩
  · have h2 : ¬ i = 2 := of_decide_eq_false h
    obtain rfl : i = 0 := by omega
    (repeat (first | (apply WL.pure; rfl; rfl; rfl) | (apply EX.thenN) | (apply CW.seq) | (apply CW.region) | (apply EX.inN) | (apply CW.skip)))
    refine WL.build rfl rfl rfl rfl ?_
    refine WL.boxB rfl rfl rfl fun w2 hb2 e2 => ?_
    refine WL.mkIf rfl rfl rfl Tryz.underlying131 rfl ?_
    (repeat (first | (apply WL.pure; rfl; rfl; rfl) | (apply WL.nil) | (apply EX.thenN) | (apply CW.ret)))
    exact EX.ret1 rfl rfl ⟨⟨_, _, rfl, Nat.le_refl _, hb2⟩, e2⟩
end Go.Proofs.YtikigaeihdmcaaaGreatDoor

