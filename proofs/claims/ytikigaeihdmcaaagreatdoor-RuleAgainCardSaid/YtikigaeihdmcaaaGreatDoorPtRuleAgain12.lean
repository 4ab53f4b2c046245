import Derived.WalkKit
import Derived.LaidEql
import Derived.Stop.Asserts
import Derived.RowKitTokens
import Derived.Test.YtikigaeihdmcaaaGreatDoorPtRuleAgain11
/-
  ctl.Parse, walked: ways.
-/
set_option linter.unusedVariables false
set_option linter.unusedSimpArgs false
namespace Go.Proofs.YtikigaeihdmcaaaGreatDoor
open Go.RowKit

theorem txA_eqd (a b : Bys) : ((txA a).data.toList == b) = decide (a = b) := by rw [txA_list, Bool.eq_iff_iff]; simp
/-- what stands behind a U -/
def untC (k : Int) (t : Ltl) (N : Nat) : PR → PR
  | .er c a => .er c a
  | .ok g st2 => if st2.1 = [93] then .ok (.mk k 0 [t, g]) (nxT st2.2) else .er 3 (atT N st2)
instance iCRd12 : IsC Tryz.prog 137 1 false := IsC.of (by kernel_rfl) Tryz.underlying137 rfl
set_option maxHeartbeats 1000000 in
theorem cuntil_ok {rb : Nat} {s : Bys} {no : Option Addr} {nc : Nat} {nms : List ByteArray} {n o : Nat} {st : Bys × Bys} (w0 : World) (hr : Rdr 139 w0 rb s no nc nms o st) (hs : s.length ≤ 300) (ho : o ≤ 20) (hS : ForOK rb s no nc nms n) (hn : 10 * st.2.length + 6 ≤ n) (k : Int) :
    Rt Tryz.prog 135 [.pointer (some ⟨rb, 0, none⟩), .int .i64 k].toArray w0 fun v w' => PRs 139 rb s no nc nms o w0.heap.size (cUnt nms s.length (n + 1) k o st) v w' ∧ w0.grownBy w' (some rb) := by
  have hrl := hr.lt
  refine Rt.enter2 Tryz.func135 Tryz.ntmps135 rfl rfl ?_
  rw [cUnt]
  (repeat (first | (apply CW.seq) | (apply CW.region)))
  refine WL.alloc rfl rfl (fun w1 hb4 e1 => ?_)
  have l4 := hb4.lt
  have hr1 := hr.ext e1
  (repeat (first | (apply WL.pure; rfl; rfl; rfl) | (apply WL.nil) | (apply EX.thenN) | (apply CW.seq) | (apply CW.region)))
  refine WL.call rfl rfl rfl (cnext_ok w1 hr1 hs) ?_
  rintro _ w2 ⟨hr2, hg2⟩
  have hb4 := hb4.kept hg2 (fun e => by have := Option.some.inj e; omega)
  have hG := grown_tr (e1.grw (some rb)) hg2
  have l4 := hb4.lt
  have hmx := mT_nx st
  (repeat (first | (apply WL.pure; rfl; rfl; rfl) | (apply WL.nil) | (apply EX.thenN) | (apply CW.seq) | (apply CW.region)))
  refine WL.call rfl rfl rfl (hS n (Nat.le_refl _) o _ w2 hr2 ho (by omega)) ?_
  rintro _ w3 ⟨⟨x, e, t, st1, rfl, hx, hr3, hE3⟩, hg3⟩
  have hmm : ∀ f st', cFor nms s.length n o [] (nxT st.2) = .ok f st' → mT st' ≤ mT (nxT st.2) := fun f st' h => (c_mono nms s.length n).1 _ _ _ _ _ h
  generalize cFor nms s.length n o [] (nxT st.2) = r1 at *
  have hb4 := hb4.kept hg3 (fun e => by have := Option.some.inj e; omega)
  have hG := grown_tr hG hg3
  have hx : GX w0.heap.size [w0.heap.size] w3 x t := GX.of hx (Nat.le_of_lt l4) (fun r hr => by rw [List.mem_singleton.1 hr]; exact l4)
  have hE3 := hE3.low (B' := w0.heap.size) (Nat.le_of_lt l4)
  have z3 := hg3.size
  obtain ⟨uo, uc, rfl, hk⟩ := Rd.ltl hx
  (repeat (apply WL.pure; rfl; rfl; rfl))
  refine WL.alloc rfl rfl (fun w4 hb6 e4 => ?_)
  have hx := hx.add e4 (Nat.le_refl _)
  have hb4 := hb4.ext e4
  have hr4 := hr3.ext e4
  have hE4 := hE3.ext e4
  have hG := grown_tr hG (e4.grw (some rb))
  skip
  refine WL.st rfl rfl rfl hb6 rfl rfl (ones_of rfl) (fun w5 hb65 hg5 => ?_)
  have hx := hx.st hg5 (.inr (List.mem_cons_self ..))
  have hH := HF.of hb65 hx
  have hb4 := hb4.kept hg5 (fun e => by have := Option.some.inj e; omega)
  have hr5 := hr4.kept hg5 (fun b e => by cases e; omega)
  have hE5 := hE4.stT hg5 hb6 (by decide)
  have hG := grown_new hG hg5 (by omega)
  clear hb6 hb65 hg5 hx hr4 hr3 hr2 hr1 hE3 hE4 hk e4 hg3 hg2 hr
  have l4 := hb4.lt
  have l6 := hH.lt
  have h46 : w0.heap.size < w3.heap.size := by omega
  generalize hB6 : w3.heap.size = b6 at *
  have he := hE5.err
  (repeat (first | (apply WL.pure; rfl; rfl; rfl) | (apply WL.nil) | (apply EX.thenN) | (apply CW.seq) | (apply CW.region)))
  refine WL.eqNil rfl rfl rfl he ?_
  rcases hE5 with ⟨rfl, rfl⟩ | ⟨c, a, rfl, hF⟩
  · rw [show nilI Value.nilIface = true from rfl]
    have hmm := hmm _ _ rfl
    (repeat (apply WL.pure; rfl; rfl; rfl))
    refine WL.call rfl rfl rfl (ctake_ok w5 hr5 hs [85]) ?_
    rintro _ w6 ⟨rfl, hr6, hg6⟩
    have hb4 := hb4.kept hg6 (fun e => by have := Option.some.inj e; omega)
    have hH := hH.st hg6 (.inl hrl) (by omega)
    have hG := grown_tr hG hg6
    dsimp only
    (repeat (first | (apply WL.pure; rfl; rfl; rfl) | (apply WL.nil) | (apply EX.thenN)))
    refine CW.cond rfl (fun h => ?_) (fun h => ?_)
    · have h : ¬ st1.1 = [85] := by simpa using h
      rw [if_neg h] at hr6 ⊢
      (repeat (first | (apply WL.pure; rfl; rfl; rfl) | (apply CW.region)))
      refine WL.call rfl rfl rfl (cwrong_ok w6 hr6 3) ?_
      rintro _ w7 ⟨rfl, hf7, e7⟩
      have hb4 := hb4.ext e7
      have hr7 := hr6.ext e7
      have hH := hH.ext e7
      have hG := grown_tr hG (e7.grw _)
      have l46 := hb4.lt
      have z6 := hg6.size
      (repeat (first | (apply WL.pure; rfl; rfl; rfl) | (apply WL.nil) | (apply EX.thenN) | (apply CW.seq) | (apply CW.region)))
      refine WL.neNil rfl rfl rfl (v := .iface _ _) rfl ?_
      rw [show (!nilI (Value.iface 131 (.pointer (some ⟨w6.heap.size, 0, none⟩)))) = true from rfl]
      obtain ⟨vo, vc, hb6, hy⟩ := hH.gx
      (repeat (first | (apply WL.pure; rfl; rfl; rfl) | (apply WL.nil) | (apply EX.thenN) | (apply CW.seq) | (apply CW.region) | (apply WL.ldA; rfl; rfl; rfl; assumption; rfl) | (apply CW.condT; rfl)))
      refine WL.st rfl rfl rfl hb4 rfl rfl (ones_of rfl) (fun w8 hb8 hg8 => ?_)
      (repeat (first | (apply WL.pure; rfl; rfl; rfl) | (apply WL.nil) | (apply EX.thenN) | (apply CW.ret) | (apply EX.thenR)))
      exact EX.retC2 rfl rfl rfl hb8 rfl ⟨⟨_, _, t, st1, rfl, (hy.st hg8 (.inr (by simp))).gl, hr7.kept hg8 (fun b e => by cases e; omega), .inr ⟨_, _, rfl, _, rfl, by omega, hf7.kept hg8 (fun e => by have := Option.some.inj e; omega)⟩⟩, grown_new hG hg8 (Nat.le_refl _)⟩
    have h : st1.1 = [85] := by simpa using h
    rw [if_pos h] at hr6 ⊢
    have hm1 := mT_nx1 (st := st1) (by rw [h]; decide)
    (repeat (first | (apply WL.pure; rfl; rfl; rfl) | (apply EX.thenN) | (apply CW.seq) | (apply CW.region) | (apply CW.skip)))
    refine WL.neNil rfl rfl rfl (v := .nilIface) rfl ?_
    rw [show (!nilI Value.nilIface) = false from rfl]
    have z6 := hg6.size
    (repeat (first | (apply WL.pure; rfl; rfl; rfl) | (apply WL.nil) | (apply EX.thenN) | (apply CW.seq) | (apply CW.region) | (apply CW.condF; rfl) | (apply CW.skip)))
    refine WL.call rfl rfl rfl (hS n (Nat.le_refl _) o _ w6 hr6 ho (by omega)) ?_
    rintro _ w7 ⟨⟨x, e, g, st2, rfl, hx, hr7, hE7⟩, hg7⟩
    generalize cFor nms s.length n o [] (nxT st1.2) = r2 at *
    have l46 := hb4.lt
    have l66 := hH.lt
    have hb4 := hb4.kept hg7 (fun e => by have := Option.some.inj e; omega)
    have hH := hH.st hg7 (.inl hrl) (by omega)
    have hG := grown_tr hG hg7
    have hx : GX w0.heap.size [b6, w0.heap.size] w7 x g := GX.of hx (by omega) (fun r hr => by
      simp only [List.mem_cons, List.not_mem_nil, or_false] at hr
      rcases hr with rfl | rfl <;> omega)
    have hE7 := hE7.low (B' := w0.heap.size) (by omega)
    have z7 := hg7.size
    obtain ⟨uo, uc, rfl, hk⟩ := Rd.ltl hx
    (repeat (apply WL.pure; rfl; rfl; rfl))
    refine WL.alloc rfl rfl (fun w8 hb8 e8 => ?_)
    have hx := hx.add e8 (Nat.le_refl _)
    have hH := hH.add e8 (Nat.le_refl _)
    have hb4 := hb4.ext e8
    have hr8 := hr7.ext e8
    have hE8 := hE7.ext e8
    have hG := grown_tr hG (e8.grw (some rb))
    skip
    refine WL.st rfl rfl rfl hb8 rfl rfl (ones_of rfl) (fun w9 hb89 hg9 => ?_)
    have hx := hx.st hg9 (.inr (List.mem_cons_self ..))
    have hK := HF.of hb89 hx
    have hH := hH.st hg9 (.inr (List.mem_cons_self ..)) (by omega)
    have hb4 := hb4.kept hg9 (fun e => by have := Option.some.inj e; omega)
    have hr9 := hr8.kept hg9 (fun b e => by cases e; omega)
    have hE9 := hE8.stT hg9 hb8 (by decide)
    have hG := grown_new hG hg9 (by omega)
    have l68 : b6 < w7.heap.size := by omega
    have l48 : w0.heap.size < w7.heap.size := by omega
    have l89 := hK.lt
    clear hb8 hb89 hg9 hx hr8 hr7 hr6 hE7 hE8 hk e8 hg7 hg6
    generalize hB8 : w7.heap.size = b8 at *
    have he := hE9.err
    (repeat (first | (apply WL.pure; rfl; rfl; rfl) | (apply WL.nil) | (apply EX.thenN)))
    refine CW.cutI (S := Value) (fun e => [(1, .int .i64 k), (4, .pointer (some ⟨w0.heap.size, 0, none⟩)), (6, .pointer (some ⟨b6, 0, none⟩)), (8, .pointer (some ⟨b8, 0, none⟩)), (7, e)])
      (fun e w => w0.grownBy w (some rb) ∧ Blk w w0.heap.size 31 [.int .i64 0, .int .i64 0, .slice none 0 0] ∧ HF 31 w b6 w0.heap.size [b8, b6, w0.heap.size] t ∧ HF 31 w b8 w0.heap.size [b8, b6, w0.heap.size] g ∧
        ∃ st', Rdr 139 w rb s no nc nms o st' ∧ ErP w w0.heap.size (untC k t s.length r2) e (.mk k 0 [t, g]) st') ?_ ?_
    · (repeat (first | (apply WL.pure; rfl; rfl; rfl) | (apply CW.seq) | (apply CW.region)))
      refine WL.eqNil rfl rfl rfl he ?_
      rcases hE9 with ⟨rfl, rfl⟩ | ⟨c, a, rfl, hF⟩
      · rw [show nilI Value.nilIface = true from rfl]
        (repeat (apply WL.pure; rfl; rfl; rfl))
        refine WL.call rfl rfl rfl (ctake_ok w9 hr9 hs [93]) ?_
        rintro _ w10 ⟨rfl, hr10, hg10⟩
        have hb4 := hb4.kept hg10 (fun e => by have := Option.some.inj e; omega)
        have hH := hH.st hg10 (.inl hrl) (by omega)
        have hK := hK.st hg10 (.inl hrl) (by omega)
        have hG := grown_tr hG hg10
        have z10 := hg10.size
        dsimp only [untC]
        (repeat (first | (apply WL.pure; rfl; rfl; rfl) | (apply WL.nil) | (apply EX.thenN)))
        refine CW.cond rfl (fun h => ?_) (fun h => ?_)
        · have h : ¬ st2.1 = [93] := by simpa using h
          rw [if_neg h] at hr10 ⊢
          (repeat (first | (apply WL.pure; rfl; rfl; rfl) | (apply CW.region)))
          refine WL.call rfl rfl rfl (cwrong_ok w10 hr10 3) ?_
          rintro _ w11 ⟨rfl, hf11, e11⟩
          (repeat (first | (apply WL.pure; rfl; rfl; rfl) | (apply WL.nil)))
          exact EX.cutI _ (by repeat (first | exact trivial | refine ⟨rfl, ?_⟩)) ⟨grown_tr hG (e11.grw _), hb4.ext e11, hH.ext e11, hK.ext e11, st2, hr10.ext e11, .inr ⟨_, _, rfl, _, rfl, by omega, hf11⟩⟩
        · have h : st2.1 = [93] := by simpa using h
          rw [if_pos h] at hr10 ⊢
          (repeat (apply CW.skip))
          exact EX.cutI _ (by repeat (first | exact trivial | refine ⟨rfl, ?_⟩)) ⟨hG, hb4, hH, hK, _, hr10, .inl ⟨rfl, rfl⟩⟩
      · rw [hF.err.2]
        (repeat (first | (apply WL.pure; rfl; rfl; rfl) | (apply WL.nil) | (apply EX.thenN) | (apply WL.pass; rfl; rfl) | (apply CW.condF; rfl) | (apply CW.skip)))
        exact EX.cutI _ (by repeat (first | exact trivial | refine ⟨rfl, ?_⟩)) ⟨hG, hb4, hH, hK, st2, hr9, .inr ⟨c, a, rfl, hF⟩⟩
    clear hG hb4 hH hK hr9 he hE9 hx
    rintro e w10 ⟨hG, hb4, hH, hK, st', hr10, hE⟩
    obtain ⟨vo, vc, hb6, hy⟩ := hH.gx
    obtain ⟨vo', vc', hb8, hz⟩ := hK.gx
    have l8 := hb8.lt
    (repeat (first | (apply WL.pure; rfl; rfl; rfl) | (apply CW.seq) | (apply CW.region) | (apply WL.ldA; rfl; rfl; rfl; assumption; rfl)))
    refine WL.call rfl rfl rfl (ctwo_ok w10 (F := GXs w0.heap.size [b8, b6, w0.heap.size] w10) (fun b hb => hb.2.1) k hy hz) ?_
    rintro _ w11 ⟨hv, e11⟩
    have hv : GX w0.heap.size [b8, b6, w0.heap.size] w11 _ (.mk k 0 [t, g]) := GX.plus hv e11 (by omega) (fun r hr => by
      simp only [List.mem_cons, List.not_mem_nil, or_false] at hr
      rcases hr with rfl | rfl | rfl <;> omega)
    obtain ⟨uo', uc', rfl, hk'⟩ := Rd.ltl hv
    have hb4 := hb4.ext e11
    have hr11 := hr10.ext e11
    have hE := hE.ext e11
    have hG := grown_tr hG (e11.grw (some rb))
    (repeat (apply WL.pure; rfl; rfl; rfl))
    refine WL.st rfl rfl rfl hb4 rfl rfl (ones_of rfl) (fun w12 hb412 hg12 => ?_)
    (repeat (first | (apply WL.pure; rfl; rfl; rfl) | (apply WL.nil) | (apply EX.thenN) | (apply CW.ret)))
    exact EX.retC2 rfl rfl rfl hb412 rfl ⟨⟨_, _, _, st', rfl, (hv.st hg12 (.inr (by simp))).gl, hr11.kept hg12 (fun b e => by cases e; omega), hE.stT hg12 hb4 (by decide)⟩, grown_new hG hg12 (Nat.le_refl _)⟩
  · rw [hF.err.2]
    (repeat (first | (apply WL.pure; rfl; rfl; rfl) | (apply WL.nil) | (apply EX.thenN) | (apply CW.seq) | (apply CW.region) | (apply WL.pass; rfl; rfl) | (apply CW.condF; rfl) | (apply CW.skip)))
    refine WL.neNil rfl rfl rfl he ?_
    rw [hF.err.2]
    obtain ⟨vo, vc, hb6, hy⟩ := hH.gx
    (repeat (first | (apply WL.pure; rfl; rfl; rfl) | (apply WL.nil) | (apply EX.thenN) | (apply CW.seq) | (apply CW.region) | (apply WL.ldA; rfl; rfl; rfl; assumption; rfl) | (apply CW.condT; rfl)))
    refine WL.st rfl rfl rfl hb4 rfl rfl (ones_of rfl) (fun w8 hb8 hg8 => ?_)
    (repeat (first | (apply WL.pure; rfl; rfl; rfl) | (apply WL.nil) | (apply EX.thenN) | (apply CW.ret) | (apply EX.thenR)))
    exact EX.retC2 rfl rfl rfl hb8 rfl ⟨⟨_, _, t, st1, rfl, (hy.st hg8 (.inr (by simp))).gl, hr5.kept hg8 (fun b e => by cases e; omega), .inr ⟨_, _, rfl, hF.stT hg8 hb4 (by decide)⟩⟩, grown_new hG hg8 (Nat.le_refl _)⟩
set_option maxHeartbeats 1000000 in
theorem cways_ok (a : Bool) {rb : Nat} {s : Bys} {no : Option Addr} {nc : Nat} {nms : List ByteArray} {n o : Nat} {st : Bys × Bys} (w0 : World) (hr : Rdr 139 w0 rb s no nc nms o st) (hs : s.length ≤ 300) (ho : o ≤ 20) (hS : SinOK rb s no nc nms n) (hF : ForOK rb s no nc nms n) (hn : 10 * mT st + 1 ≤ n + 1) :
    Rt Tryz.prog 129 [.pointer (some ⟨rb, 0, none⟩), .int .i64 (allC a 7), .int .i64 (allC a 8), .int .i64 (allC a 9), .int .i64 (allC a 10)].toArray w0 fun v w' => PRs 139 rb s no nc nms o w0.heap.size (cWays nms s.length (n + 1) a o st) v w' ∧ w0.grownBy w' (some rb) := by
  have hrl := hr.lt
  refine Rt.enter5 Tryz.func129 Tryz.ntmps129 rfl rfl ?_
  rw [cWays]
  (repeat (first | (apply CW.seq) | (apply CW.region)))
  refine WL.alloc rfl rfl (fun w1 hb10 e1 => ?_)
  have l10 := hb10.lt
  have hr1 := hr.ext e1
  have hb1 := hr1.blk
  have hG := e1.grw (some rb)
  clear hr
  (repeat (first | (apply WL.pure; rfl; rfl; rfl) | (apply WL.nil) | (apply EX.thenN) | (apply CW.seq) | (apply CW.region) | (apply WL.fa; rfl; rfl; rfl) | (apply WL.nck; rfl; rfl; rfl) | (apply WL.ld; rfl; rfl; rfl; assumption; rfl) | (apply CW.block)))
  rw [txA_eqd]
  refine CW.cond rfl (fun h => ?_) (fun h => ?_)
  · have h1 : st.1 = [88] := of_decide_eq_true h
    have h91 : ¬ st.1 = [91] := by rw [h1]; decide
    have hkw : wayK st.1 = 7 := by rw [h1]; rfl
    rw [if_neg h91, if_neg (by rw [hkw]; decide), hkw]
    have hm1 := mT_nx1 (st := st) (by rw [h1]; decide)
    (repeat (first | (apply WL.pure; rfl; rfl; rfl) | (apply WL.nil) | (apply EX.thenN) | (apply CW.seq) | (apply CW.region) | (apply EX.inN)))
    refine WL.call rfl rfl rfl (cnext_ok w1 hr1 hs) ?_
    rintro _ w2 ⟨hr2, hg2⟩
    have hb10 := hb10.kept hg2 (fun e => by have := Option.some.inj e; omega)
    have hG := grown_tr hG hg2
    have l4 := hb10.lt
    (repeat (first | (apply WL.pure; rfl; rfl; rfl) | (apply WL.nil) | (apply EX.thenN) | (apply CW.seq) | (apply CW.region)))
    refine WL.call rfl rfl rfl (hS n (Nat.le_refl _) o _ w2 hr2 ho (by omega)) ?_
    rintro _ w3 ⟨⟨x, e, t, st1, rfl, hx, hr3, hE3⟩, hg3⟩
    generalize cSin nms s.length n o (nxT st.2) = r1 at *
    have hb10 := hb10.kept hg3 (fun e => by have := Option.some.inj e; omega)
    have hG := grown_tr hG hg3
    have hx : GX w0.heap.size [w0.heap.size] w3 x t := GX.of hx (Nat.le_of_lt l4) (fun r hr => by rw [List.mem_singleton.1 hr]; exact l4)
    have hE3 := hE3.low (B' := w0.heap.size) (Nat.le_of_lt l4)
    have z3 := hg3.size
    obtain ⟨uo, uc, rfl, hk⟩ := Rd.ltl hx
    (repeat (apply WL.pure; rfl; rfl; rfl))
    refine WL.alloc rfl rfl (fun w4 hb13 e4 => ?_)
    have hx := hx.add e4 (Nat.le_refl _)
    have hb10 := hb10.ext e4
    have hr4 := hr3.ext e4
    have hE4 := hE3.ext e4
    have hG := grown_tr hG (e4.grw (some rb))
    have h46 : w0.heap.size < w3.heap.size := by omega
    have l13 := hb13.lt
    generalize hB6 : w3.heap.size = b13 at *
    skip
    refine WL.st rfl rfl rfl hb13 rfl rfl (ones_of rfl) (fun w5 hb135 hg5 => ?_)
    have hx := hx.st hg5 (.inr (List.mem_cons_self ..))
    have hb10 := hb10.kept hg5 (fun e => by have := Option.some.inj e; omega)
    have hr5 := hr4.kept hg5 (fun b e => by cases e; omega)
    have hE5 := hE4.stT hg5 hb13 (by decide)
    have hG := grown_new hG hg5 (by omega)
    have z5 := hg5.size
    (repeat (first | (apply WL.pure; rfl; rfl; rfl) | (apply WL.nil) | (apply EX.thenN) | (apply CW.seq) | (apply CW.region) | (apply WL.ldA; rfl; rfl; rfl; assumption; rfl)))
    refine WL.call rfl rfl rfl (cone_ok w5 (F := GXs w0.heap.size [b13, w0.heap.size] w5) (fun b hb => hb.2.1) (allC a 7) hx) ?_
    rintro _ w11 ⟨hv, e11⟩
    have hv : GX w0.heap.size [b13, w0.heap.size] w11 _ (.mk (allC a 7) 0 [t]) := GX.plus hv e11 (by omega) (fun r hr => by
      simp only [List.mem_cons, List.not_mem_nil, or_false] at hr
      rcases hr with rfl | rfl <;> omega)
    obtain ⟨uo', uc', rfl, hk'⟩ := Rd.ltl hv
    have hb10 := hb10.ext e11
    have hr11 := hr5.ext e11
    have hE := hE5.ext e11
    have hG := grown_tr hG (e11.grw (some rb))
    (repeat (apply WL.pure; rfl; rfl; rfl))
    refine WL.st rfl rfl rfl hb10 rfl rfl (ones_of rfl) (fun w12 hb1012 hg12 => ?_)
    (repeat (first | (apply WL.pure; rfl; rfl; rfl) | (apply WL.nil) | (apply EX.thenN) | (apply CW.ret)))
    refine EX.retC2 rfl rfl rfl hb1012 rfl ⟨⟨_, _, _, st1, rfl, (hv.st hg12 (.inr (by simp))).gl, hr11.kept hg12 (fun b e => by cases e; omega), ?_⟩, grown_new hG hg12 (Nat.le_refl _)⟩
    have hE := hE.stT hg12 hb10 (by decide)
    rcases hE with ⟨h1, h2⟩ | ⟨c, d, h1, h2⟩
    · exact .inl ⟨h1, by rw [h2]⟩
    · exact .inr ⟨c, d, by rw [h1], h2⟩
  have n88 : ¬ st.1 = [88] := of_decide_eq_false h
  clear h
  (repeat (first | (apply WL.pure; rfl; rfl; rfl) | (apply WL.nil) | (apply EX.thenN) | (apply CW.seq) | (apply CW.region)))
  rw [txA_eqd]
  refine CW.cond rfl (fun h => ?_) (fun h => ?_)
  · have h1 : st.1 = [70] := of_decide_eq_true h
    have h91 : ¬ st.1 = [91] := by rw [h1]; decide
    have hkw : wayK st.1 = 8 := by rw [h1]; rfl
    rw [if_neg h91, if_neg (by rw [hkw]; decide), hkw]
    have hm1 := mT_nx1 (st := st) (by rw [h1]; decide)
    (repeat (first | (apply WL.pure; rfl; rfl; rfl) | (apply WL.nil) | (apply EX.thenN) | (apply CW.seq) | (apply CW.region) | (apply EX.inN)))
    refine WL.call rfl rfl rfl (cnext_ok w1 hr1 hs) ?_
    rintro _ w2 ⟨hr2, hg2⟩
    have hb10 := hb10.kept hg2 (fun e => by have := Option.some.inj e; omega)
    have hG := grown_tr hG hg2
    have l4 := hb10.lt
    (repeat (first | (apply WL.pure; rfl; rfl; rfl) | (apply WL.nil) | (apply EX.thenN) | (apply CW.seq) | (apply CW.region)))
    refine WL.call rfl rfl rfl (hS n (Nat.le_refl _) o _ w2 hr2 ho (by omega)) ?_
    rintro _ w3 ⟨⟨x, e, t, st1, rfl, hx, hr3, hE3⟩, hg3⟩
    generalize cSin nms s.length n o (nxT st.2) = r1 at *
    have hb10 := hb10.kept hg3 (fun e => by have := Option.some.inj e; omega)
    have hG := grown_tr hG hg3
    have hx : GX w0.heap.size [w0.heap.size] w3 x t := GX.of hx (Nat.le_of_lt l4) (fun r hr => by rw [List.mem_singleton.1 hr]; exact l4)
    have hE3 := hE3.low (B' := w0.heap.size) (Nat.le_of_lt l4)
    have z3 := hg3.size
    obtain ⟨uo, uc, rfl, hk⟩ := Rd.ltl hx
    (repeat (apply WL.pure; rfl; rfl; rfl))
    refine WL.alloc rfl rfl (fun w4 hb13 e4 => ?_)
    have hx := hx.add e4 (Nat.le_refl _)
    have hb10 := hb10.ext e4
    have hr4 := hr3.ext e4
    have hE4 := hE3.ext e4
    have hG := grown_tr hG (e4.grw (some rb))
    have h46 : w0.heap.size < w3.heap.size := by omega
    have l13 := hb13.lt
    generalize hB6 : w3.heap.size = b13 at *
    skip
    refine WL.st rfl rfl rfl hb13 rfl rfl (ones_of rfl) (fun w5 hb135 hg5 => ?_)
    have hx := hx.st hg5 (.inr (List.mem_cons_self ..))
    have hb10 := hb10.kept hg5 (fun e => by have := Option.some.inj e; omega)
    have hr5 := hr4.kept hg5 (fun b e => by cases e; omega)
    have hE5 := hE4.stT hg5 hb13 (by decide)
    have hG := grown_new hG hg5 (by omega)
    have z5 := hg5.size
    (repeat (first | (apply WL.pure; rfl; rfl; rfl) | (apply WL.nil) | (apply EX.thenN) | (apply CW.seq) | (apply CW.region) | (apply WL.ldA; rfl; rfl; rfl; assumption; rfl)))
    refine WL.call rfl rfl rfl (cone_ok w5 (F := GXs w0.heap.size [b13, w0.heap.size] w5) (fun b hb => hb.2.1) (allC a 8) hx) ?_
    rintro _ w11 ⟨hv, e11⟩
    have hv : GX w0.heap.size [b13, w0.heap.size] w11 _ (.mk (allC a 8) 0 [t]) := GX.plus hv e11 (by omega) (fun r hr => by
      simp only [List.mem_cons, List.not_mem_nil, or_false] at hr
      rcases hr with rfl | rfl <;> omega)
    obtain ⟨uo', uc', rfl, hk'⟩ := Rd.ltl hv
    have hb10 := hb10.ext e11
    have hr11 := hr5.ext e11
    have hE := hE5.ext e11
    have hG := grown_tr hG (e11.grw (some rb))
    (repeat (apply WL.pure; rfl; rfl; rfl))
    refine WL.st rfl rfl rfl hb10 rfl rfl (ones_of rfl) (fun w12 hb1012 hg12 => ?_)
    (repeat (first | (apply WL.pure; rfl; rfl; rfl) | (apply WL.nil) | (apply EX.thenN) | (apply CW.ret)))
    refine EX.retC2 rfl rfl rfl hb1012 rfl ⟨⟨_, _, _, st1, rfl, (hv.st hg12 (.inr (by simp))).gl, hr11.kept hg12 (fun b e => by cases e; omega), ?_⟩, grown_new hG hg12 (Nat.le_refl _)⟩
    have hE := hE.stT hg12 hb10 (by decide)
    rcases hE with ⟨h1, h2⟩ | ⟨c, d, h1, h2⟩
    · exact .inl ⟨h1, by rw [h2]⟩
    · exact .inr ⟨c, d, by rw [h1], h2⟩
  have n70 : ¬ st.1 = [70] := of_decide_eq_false h
  clear h
  (repeat (first | (apply WL.pure; rfl; rfl; rfl) | (apply WL.nil) | (apply EX.thenN) | (apply CW.seq) | (apply CW.region)))
  rw [txA_eqd]
  refine CW.cond rfl (fun h => ?_) (fun h => ?_)
  · have h1 : st.1 = [71] := of_decide_eq_true h
    have h91 : ¬ st.1 = [91] := by rw [h1]; decide
    have hkw : wayK st.1 = 9 := by rw [h1]; rfl
    rw [if_neg h91, if_neg (by rw [hkw]; decide), hkw]
    have hm1 := mT_nx1 (st := st) (by rw [h1]; decide)
    (repeat (first | (apply WL.pure; rfl; rfl; rfl) | (apply WL.nil) | (apply EX.thenN) | (apply CW.seq) | (apply CW.region) | (apply EX.inN)))
    refine WL.call rfl rfl rfl (cnext_ok w1 hr1 hs) ?_
    rintro _ w2 ⟨hr2, hg2⟩
    have hb10 := hb10.kept hg2 (fun e => by have := Option.some.inj e; omega)
    have hG := grown_tr hG hg2
    have l4 := hb10.lt
    (repeat (first | (apply WL.pure; rfl; rfl; rfl) | (apply WL.nil) | (apply EX.thenN) | (apply CW.seq) | (apply CW.region)))
    refine WL.call rfl rfl rfl (hS n (Nat.le_refl _) o _ w2 hr2 ho (by omega)) ?_
    rintro _ w3 ⟨⟨x, e, t, st1, rfl, hx, hr3, hE3⟩, hg3⟩
    generalize cSin nms s.length n o (nxT st.2) = r1 at *
    have hb10 := hb10.kept hg3 (fun e => by have := Option.some.inj e; omega)
    have hG := grown_tr hG hg3
    have hx : GX w0.heap.size [w0.heap.size] w3 x t := GX.of hx (Nat.le_of_lt l4) (fun r hr => by rw [List.mem_singleton.1 hr]; exact l4)
    have hE3 := hE3.low (B' := w0.heap.size) (Nat.le_of_lt l4)
    have z3 := hg3.size
    obtain ⟨uo, uc, rfl, hk⟩ := Rd.ltl hx
    (repeat (apply WL.pure; rfl; rfl; rfl))
    refine WL.alloc rfl rfl (fun w4 hb13 e4 => ?_)
    have hx := hx.add e4 (Nat.le_refl _)
    have hb10 := hb10.ext e4
    have hr4 := hr3.ext e4
    have hE4 := hE3.ext e4
    have hG := grown_tr hG (e4.grw (some rb))
    have h46 : w0.heap.size < w3.heap.size := by omega
    have l13 := hb13.lt
    generalize hB6 : w3.heap.size = b13 at *
    skip
    refine WL.st rfl rfl rfl hb13 rfl rfl (ones_of rfl) (fun w5 hb135 hg5 => ?_)
    have hx := hx.st hg5 (.inr (List.mem_cons_self ..))
    have hb10 := hb10.kept hg5 (fun e => by have := Option.some.inj e; omega)
    have hr5 := hr4.kept hg5 (fun b e => by cases e; omega)
    have hE5 := hE4.stT hg5 hb13 (by decide)
    have hG := grown_new hG hg5 (by omega)
    have z5 := hg5.size
    (repeat (first | (apply WL.pure; rfl; rfl; rfl) | (apply WL.nil) | (apply EX.thenN) | (apply CW.seq) | (apply CW.region) | (apply WL.ldA; rfl; rfl; rfl; assumption; rfl)))
    refine WL.call rfl rfl rfl (cone_ok w5 (F := GXs w0.heap.size [b13, w0.heap.size] w5) (fun b hb => hb.2.1) (allC a 9) hx) ?_
    rintro _ w11 ⟨hv, e11⟩
    have hv : GX w0.heap.size [b13, w0.heap.size] w11 _ (.mk (allC a 9) 0 [t]) := GX.plus hv e11 (by omega) (fun r hr => by
      simp only [List.mem_cons, List.not_mem_nil, or_false] at hr
      rcases hr with rfl | rfl <;> omega)
    obtain ⟨uo', uc', rfl, hk'⟩ := Rd.ltl hv
    have hb10 := hb10.ext e11
    have hr11 := hr5.ext e11
    have hE := hE5.ext e11
    have hG := grown_tr hG (e11.grw (some rb))
    (repeat (apply WL.pure; rfl; rfl; rfl))
    refine WL.st rfl rfl rfl hb10 rfl rfl (ones_of rfl) (fun w12 hb1012 hg12 => ?_)
    (repeat (first | (apply WL.pure; rfl; rfl; rfl) | (apply WL.nil) | (apply EX.thenN) | (apply CW.ret)))
    refine EX.retC2 rfl rfl rfl hb1012 rfl ⟨⟨_, _, _, st1, rfl, (hv.st hg12 (.inr (by simp))).gl, hr11.kept hg12 (fun b e => by cases e; omega), ?_⟩, grown_new hG hg12 (Nat.le_refl _)⟩
    have hE := hE.stT hg12 hb10 (by decide)
    rcases hE with ⟨h1, h2⟩ | ⟨c, d, h1, h2⟩
    · exact .inl ⟨h1, by rw [h2]⟩
    · exact .inr ⟨c, d, by rw [h1], h2⟩
  have n71 : ¬ st.1 = [71] := of_decide_eq_false h
  clear h
  (repeat (first | (apply WL.pure; rfl; rfl; rfl) | (apply WL.nil) | (apply EX.thenN) | (apply CW.seq) | (apply CW.region)))
  rw [txA_eqd]
  refine CW.cond rfl (fun h => ?_) (fun h => ?_)
  · have h91 : st.1 = [91] := of_decide_eq_true h
    rw [if_pos h91]
    have hlt : st.2.length + 1 = mT st := by unfold mT; rw [h91]; simp; omega
    obtain ⟨n, rfl⟩ : ∃ k, n = k + 1 := ⟨n - 1, by omega⟩
    (repeat (first | (apply WL.pure; rfl; rfl; rfl) | (apply CW.seq) | (apply CW.region)))
    refine WL.call rfl rfl rfl (cuntil_ok (n := n) w1 hr1 hs ho (fun m hm => hF m (by omega)) (by omega) (allC a 10)) ?_
    rintro _ w3 ⟨⟨x, e, t, st1, rfl, hx, hr3, hE3⟩, hg3⟩
    have hb10 := hb10.kept hg3 (fun e => by have := Option.some.inj e; omega)
    have hG := grown_tr hG hg3
    have hx : GX w0.heap.size [w0.heap.size] w3 x t := GX.of hx (Nat.le_of_lt l10) (fun r hr => by rw [List.mem_singleton.1 hr]; exact l10)
    have hE3 := hE3.low (B' := w0.heap.size) (Nat.le_of_lt l10)
    obtain ⟨uo, uc, rfl, hk⟩ := Rd.ltl hx
    (repeat (apply WL.pure; rfl; rfl; rfl))
    refine WL.st rfl rfl rfl hb10 rfl rfl (ones_of rfl) (fun w4 hb4 hg4 => ?_)
    (repeat (first | (apply WL.pure; rfl; rfl; rfl) | (apply WL.nil) | (apply EX.thenN) | (apply CW.ret) | (apply EX.thenR) | (apply EX.inR)))
    exact EX.retC2 rfl rfl rfl hb4 rfl ⟨⟨_, _, t, st1, rfl, (hx.st hg4 (.inr (by simp))).gl, hr3.kept hg4 (fun b e => by cases e; omega), hE3.stT hg4 hb10 (by decide)⟩, grown_new hG hg4 (Nat.le_refl _)⟩
  have n91 : ¬ st.1 = [91] := of_decide_eq_false h
  rw [if_neg n91, if_pos (by unfold wayK; rw [if_neg n88, if_neg n70, if_neg n71])]
  clear h
  (repeat (first | (apply CW.seq) | (apply CW.region)))
  refine WL.build (parts := []) rfl rfl rfl rfl ?_
  (repeat (apply WL.pure; rfl; rfl; rfl))
  refine WL.call rfl rfl rfl (cwrong_ok w1 hr1 3) ?_
  rintro _ w6 ⟨rfl, hf6, e6⟩
  have hb106 := hb10.ext e6
  have hr6 := hr1.ext e6
  have hG := grown_tr hG (e6.grw _)
  skip
  refine WL.st rfl rfl rfl hb106 rfl rfl (ones_of rfl) (fun w7 hb7 hg7 => ?_)
  (repeat (first | (apply WL.pure; rfl; rfl; rfl) | (apply WL.nil) | (apply EX.thenN) | (apply CW.ret) | (apply EX.thenR) | (apply EX.inR)))
  refine EX.retC2 rfl rfl rfl hb7 rfl ⟨?_, grown_new hG hg7 (Nat.le_refl _)⟩
  exact ⟨_, _, _, st, rfl, GL.zero 0 0, hr6.kept hg7 (fun b e => by cases e; omega), .inr ⟨_, _, rfl, _, rfl, Nat.le_of_lt l10, hf6.kept hg7 (fun e => by have := Option.some.inj e; omega)⟩⟩
theorem csin1_ok {rb : Nat} {s : Bys} {no : Option Addr} {nc : Nat} {nms : List ByteArray} {n o : Nat} {st : Bys × Bys} (w0 : World) (hr : Rdr 139 w0 rb s no nc nms o st) (hs : s.length ≤ 300) (ho : o ≤ 20) (hS : SinOK rb s no nc nms n) (hF : ForOK rb s no nc nms n) (hn : 10 * mT st + 1 ≤ n + 1) {b : Nat} (hb : Blk w0 b 137 [.pointer (some ⟨rb, 0, none⟩)]) :
    Rt Tryz.prog 128 [.pointer (some ⟨b, 0, none⟩)].toArray w0 fun v w' => PRs 139 rb s no nc nms o w0.heap.size (cWays nms s.length (n + 1) false o st) v w' ∧ w0.grownBy w' (some rb) := by
  have hrl := hr.lt
  refine Rt.enter1 Tryz.func128 Tryz.ntmps128 rfl rfl ?_
  (repeat (first | (apply CW.seq) | (apply CW.region)))
  refine WL.alloc rfl rfl (fun w1 hb10 e1 => ?_)
  have l10 := hb10.lt
  have hr1 := hr.ext e1
  have hb1 := hb.ext e1
  have hG := e1.grw (some rb)
  (repeat (first | (apply WL.pure; rfl; rfl; rfl) | (apply WL.nil) | (apply EX.thenN) | (apply CW.seq) | (apply CW.region) | (apply WL.ld; rfl; rfl; rfl; assumption; rfl)))
  have hw := cways_ok false w1 hr1 hs ho hS hF hn
  rw [show allC false 7 = 7 from rfl, show allC false 8 = 8 from rfl, show allC false 9 = 9 from rfl, show allC false 10 = 10 from rfl] at hw
  refine WL.call rfl rfl rfl hw ?_
  rintro _ w3 ⟨⟨x, e, t, st1, rfl, hx, hr3, hE3⟩, hg3⟩
  have hb10 := hb10.kept hg3 (fun e => by have := Option.some.inj e; omega)
  have hG := grown_tr hG hg3
  have hx : GX w0.heap.size [w0.heap.size] w3 x t := GX.of hx (Nat.le_of_lt l10) (fun r hr => by rw [List.mem_singleton.1 hr]; exact l10)
  have hE3 := hE3.low (B' := w0.heap.size) (Nat.le_of_lt l10)
  obtain ⟨uo, uc, rfl, hk⟩ := Rd.ltl hx
  (repeat (apply WL.pure; rfl; rfl; rfl))
  refine WL.st rfl rfl rfl hb10 rfl rfl (ones_of rfl) (fun w4 hb4 hg4 => ?_)
  (repeat (first | (apply WL.pure; rfl; rfl; rfl) | (apply WL.nil) | (apply EX.thenN) | (apply CW.ret)))
  exact EX.retC2 rfl rfl rfl hb4 rfl ⟨⟨_, _, t, st1, rfl, (hx.st hg4 (.inr (by simp))).gl, hr3.kept hg4 (fun b e => by cases e; omega), hE3.stT hg4 hb10 (by decide)⟩, grown_new hG hg4 (Nat.le_refl _)⟩
theorem csin2_ok {rb : Nat} {s : Bys} {no : Option Addr} {nc : Nat} {nms : List ByteArray} {n o : Nat} {st : Bys × Bys} (w0 : World) (hr : Rdr 139 w0 rb s no nc nms o st) (hs : s.length ≤ 300) (ho : o ≤ 20) (hS : SinOK rb s no nc nms n) (hF : ForOK rb s no nc nms n) (hn : 10 * mT st + 1 ≤ n + 1) {b : Nat} (hb : Blk w0 b 137 [.pointer (some ⟨rb, 0, none⟩)]) :
    Rt Tryz.prog 130 [.pointer (some ⟨b, 0, none⟩)].toArray w0 fun v w' => PRs 139 rb s no nc nms o w0.heap.size (cWays nms s.length (n + 1) true o st) v w' ∧ w0.grownBy w' (some rb) := by
  have hrl := hr.lt
  refine Rt.enter1 Tryz.func130 Tryz.ntmps130 rfl rfl ?_
  (repeat (first | (apply CW.seq) | (apply CW.region)))
  refine WL.alloc rfl rfl (fun w1 hb10 e1 => ?_)
  have l10 := hb10.lt
  have hr1 := hr.ext e1
  have hb1 := hb.ext e1
  have hG := e1.grw (some rb)
  (repeat (first | (apply WL.pure; rfl; rfl; rfl) | (apply WL.nil) | (apply EX.thenN) | (apply CW.seq) | (apply CW.region) | (apply WL.ld; rfl; rfl; rfl; assumption; rfl)))
  have hw := cways_ok true w1 hr1 hs ho hS hF hn
  rw [show allC true 7 = 11 from rfl, show allC true 8 = 12 from rfl, show allC true 9 = 13 from rfl, show allC true 10 = 14 from rfl] at hw
  refine WL.call rfl rfl rfl hw ?_
  rintro _ w3 ⟨⟨x, e, t, st1, rfl, hx, hr3, hE3⟩, hg3⟩
  have hb10 := hb10.kept hg3 (fun e => by have := Option.some.inj e; omega)
  have hG := grown_tr hG hg3
  have hx : GX w0.heap.size [w0.heap.size] w3 x t := GX.of hx (Nat.le_of_lt l10) (fun r hr => by rw [List.mem_singleton.1 hr]; exact l10)
  have hE3 := hE3.low (B' := w0.heap.size) (Nat.le_of_lt l10)
  obtain ⟨uo, uc, rfl, hk⟩ := Rd.ltl hx
  (repeat (apply WL.pure; rfl; rfl; rfl))
  refine WL.st rfl rfl rfl hb10 rfl rfl (ones_of rfl) (fun w4 hb4 hg4 => ?_)
  (repeat (first | (apply WL.pure; rfl; rfl; rfl) | (apply WL.nil) | (apply EX.thenN) | (apply CW.ret)))
  exact EX.retC2 rfl rfl rfl hb4 rfl ⟨⟨_, _, t, st1, rfl, (hx.st hg4 (.inr (by simp))).gl, hr3.kept hg4 (fun b e => by cases e; omega), hE3.stT hg4 hb10 (by decide)⟩, grown_new hG hg4 (Nat.le_refl _)⟩
end Go.Proofs.YtikigaeihdmcaaaGreatDoor

/-
  ctl.Parse, walked: one part.
-/
set_option linter.unusedVariables false
set_option linter.unusedSimpArgs false
namespace Go.Proofs.YtikigaeihdmcaaaGreatDoor
open Go.RowKit

theorem headD_0 {l : Bys} (h : 0 < l.length) : l.headD 0 = l[0] := by
  cases l with
  | nil => simp at h
  | cons c r => rfl
/-- what stands behind a ( -/
def braC (N : Nat) : PR → PR
  | .er c a => .er c a
  | .ok g st2 => if st2.1 = [41] then .ok g (nxT st2.2) else .er 3 (atT N st2)
set_option maxHeartbeats 2000000 in
theorem csingle_ok {rb : Nat} {s : Bys} {no : Option Addr} {nc : Nat} {nms : List ByteArray} {n o : Nat} {st : Bys × Bys} (w0 : World) (hr : Rdr 139 w0 rb s no nc nms o st) (hs : s.length ≤ 300) (ho : o ≤ 20) (hS : SinOK rb s no nc nms n) (hF : ForOK rb s no nc nms n) (hn : 10 * mT st + 1 ≤ n + 1) :
    Rt Tryz.prog 121 [.pointer (some ⟨rb, 0, none⟩)].toArray w0 fun v w' => PRs 139 rb s no nc nms o w0.heap.size (cSin nms s.length (n + 1) o st) v w' ∧ w0.grownBy w' (some rb) := by
  have hrl := hr.lt
  refine Rt.enter1 Tryz.func121 Tryz.ntmps121 rfl rfl ?_
  rw [cSin]
  (repeat (first | (apply CW.seq) | (apply CW.region)))
  refine WL.boxB rfl rfl rfl fun w1 hb1 e1 => ?_
  have l1 := hb1.lt
  refine WL.alloc rfl rfl (fun w2 hb2 e2 => ?_)
  have l2 := hb2.lt
  have hb1 := hb1.ext e2
  have hE2 := e1.trans e2
  have hr2 := hr.ext hE2
  have hrb := hr2.blk
  have hG := hE2.grw (some rb)
  have hXX : ∀ r ∈ [w1.heap.size, w0.heap.size], r < w2.heap.size := fun r hr => by
    simp only [List.mem_cons, List.not_mem_nil, or_false] at hr
    rcases hr with rfl | rfl <;> omega
  clear hr
  generalize hB2 : w1.heap.size = b2 at *
  (repeat (first | (apply WL.pure; rfl; rfl; rfl) | (apply WL.nil) | (apply EX.thenN) | (apply CW.seq) | (apply CW.region) | (apply WL.fa; rfl; rfl; rfl) | (apply WL.nck; rfl; rfl; rfl) | (apply WL.ld; rfl; rfl; rfl; assumption; rfl) | (apply CW.block)))
  rw [txA_eqd]
  refine CW.cond rfl (fun h => ?_) (fun h => ?_)
  · have h1 : st.1 = [33] := of_decide_eq_true h
    rw [if_pos h1]
    have hm1 := mT_nx1 (st := st) (by rw [h1]; decide)
    (repeat (first | (apply CW.seq) | (apply CW.region) | (apply WL.makeFunc; rfl; rfl; rfl; rfl) | (apply WL.ld; rfl; rfl; rfl; assumption; rfl)))
    refine WL.call rfl rfl rfl (cwithin_ok w2 hr2 hs ho (r := cSin nms s.length n (o + 1) (nxT st.2)) (fun ho' w hr hg => FnV.mkM (fs := [_]) (hS n (Nat.le_refl _) (o + 1) _ w hr (by omega) (by omega)))) ?_
    rintro _ w3 ⟨⟨x, e, t, st1, rfl, hx, hr3, hE3⟩, hg3⟩
    have hb1 := hb1.kept hg3 (fun e => by have := Option.some.inj e; omega)
    have hb2 := hb2.kept hg3 (fun e => by have := Option.some.inj e; omega)
    have hG := grown_tr hG hg3
    have hx : GX w0.heap.size [b2, w0.heap.size] w3 x t := GX.of hx hE2.size hXX
    have hE3 := hE3.low (B' := w0.heap.size) hE2.size
    have z3 := hg3.size
    obtain ⟨uo, uc, rfl, hk⟩ := Rd.ltl hx
    (repeat (apply WL.pure; rfl; rfl; rfl))
    refine WL.alloc rfl rfl (fun w4 hb4 e4 => ?_)
    have hx := hx.add e4 (Nat.le_refl _)
    have hb2 := hb2.ext e4
    have hr4 := hr3.ext e4
    have hE4 := hE3.ext e4
    have hG := grown_tr hG (e4.grw (some rb))
    have h46 : b2 < w3.heap.size := by omega
    have h47 : w0.heap.size < w3.heap.size := by omega
    have l13 := hb4.lt
    generalize hB6 : w3.heap.size = b4 at *
    skip
    refine WL.st rfl rfl rfl hb4 rfl rfl (ones_of rfl) (fun w5 hb45 hg5 => ?_)
    have hx := hx.st hg5 (.inr (List.mem_cons_self ..))
    have hb2 := hb2.kept hg5 (fun e => by have := Option.some.inj e; omega)
    have hr5 := hr4.kept hg5 (fun b e => by cases e; omega)
    have hE5 := hE4.stT hg5 hb4 (by decide)
    have hG := grown_new hG hg5 (by omega)
    have z5 := hg5.size
    (repeat (first | (apply WL.pure; rfl; rfl; rfl) | (apply WL.nil) | (apply EX.thenN) | (apply CW.seq) | (apply CW.region) | (apply WL.ldA; rfl; rfl; rfl; assumption; rfl)))
    refine WL.call rfl rfl rfl (cone_ok w5 (F := GXs w0.heap.size [b4, b2, w0.heap.size] w5) (fun b hb => hb.2.1) 4 hx) ?_
    rintro _ w11 ⟨hv, e11⟩
    have hv : GX w0.heap.size [b4, b2, w0.heap.size] w11 _ (.mk 4 0 [t]) := GX.plus hv e11 (by omega) (fun r hr => by
      simp only [List.mem_cons, List.not_mem_nil, or_false] at hr
      rcases hr with rfl | rfl | rfl <;> omega)
    obtain ⟨uo', uc', rfl, hk'⟩ := Rd.ltl hv
    have hb2 := hb2.ext e11
    have hr11 := hr5.ext e11
    have hE := hE5.ext e11
    have hG := grown_tr hG (e11.grw (some rb))
    (repeat (apply WL.pure; rfl; rfl; rfl))
    refine WL.st rfl rfl rfl hb2 rfl rfl (ones_of rfl) (fun w12 hb212 hg12 => ?_)
    (repeat (first | (apply WL.pure; rfl; rfl; rfl) | (apply WL.nil) | (apply EX.thenN) | (apply CW.ret) | (apply EX.thenR) | (apply EX.inR)))
    refine EX.retC2 rfl rfl rfl hb212 rfl ⟨⟨_, _, _, st1, rfl, (hv.st hg12 (.inr (by simp))).gl, hr11.kept hg12 (fun b e => by cases e; omega), ?_⟩, grown_new hG hg12 (by omega)⟩
    have hE := hE.stT hg12 hb2 (by decide)
    by_cases h20 : o = 20
    · rw [if_pos h20] at hE ⊢
      rcases hE with ⟨h1, h2⟩ | ⟨c, d, h1, h2⟩
      · cases h2
      · exact .inr ⟨c, d, h1, h2⟩
    · rw [if_neg h20] at hE ⊢
      rcases hE with ⟨h1, h2⟩ | ⟨c, d, h1, h2⟩
      · exact .inl ⟨h1, by rw [h2]⟩
      · exact .inr ⟨c, d, by rw [h1], h2⟩
  have n33 : ¬ st.1 = [33] := of_decide_eq_false h
  rw [if_neg n33]
  clear h
  (repeat (first | (apply WL.pure; rfl; rfl; rfl) | (apply WL.nil) | (apply EX.thenN) | (apply CW.seq) | (apply CW.region)))
  rw [txA_eqd]
  refine CW.cond rfl (fun h => ?_) (fun h => ?_)
  · have h1 : st.1 = [69] := of_decide_eq_true h
    rw [if_pos h1]
    have hm1 := mT_nx1 (st := st) (by rw [h1]; decide)
    obtain ⟨n, rfl⟩ : ∃ k, n = k + 1 := ⟨n - 1, by omega⟩
    (repeat (first | (apply CW.seq) | (apply CW.region) | (apply WL.makeFunc; rfl; rfl; rfl; rfl) | (apply WL.ld; rfl; rfl; rfl; assumption; rfl)))
    refine WL.call rfl rfl rfl (cwithin_ok w2 hr2 hs ho (r := cWays nms s.length (n + 1) false (o + 1) (nxT st.2)) (fun ho' w hr hg => FnV.mk (cs := [_]) (csin1_ok w hr hs (by omega) (fun m hm => hS m (by omega)) (fun m hm => hF m (by omega)) (by omega) (hb1.kept hg (fun e => by have := Option.some.inj e; omega))))) ?_
    rintro _ w3 ⟨⟨x, e, t, st1, rfl, hx, hr3, hE3⟩, hg3⟩
    have hb2 := hb2.kept hg3 (fun e => by have := Option.some.inj e; omega)
    have hG := grown_tr hG hg3
    have hx : GX w0.heap.size [b2, w0.heap.size] w3 x t := GX.of hx hE2.size hXX
    have hE3 := hE3.low (B' := w0.heap.size) hE2.size
    obtain ⟨uo, uc, rfl, hk⟩ := Rd.ltl hx
    (repeat (apply WL.pure; rfl; rfl; rfl))
    refine WL.st rfl rfl rfl hb2 rfl rfl (ones_of rfl) (fun w4 hb24 hg4 => ?_)
    (repeat (first | (apply WL.pure; rfl; rfl; rfl) | (apply WL.nil) | (apply EX.thenN) | (apply CW.ret) | (apply EX.thenR) | (apply EX.inR)))
    exact EX.retC2 rfl rfl rfl hb24 rfl ⟨⟨_, _, t, st1, rfl, (hx.st hg4 (.inr (by simp))).gl, hr3.kept hg4 (fun b e => by cases e; omega), hE3.stT hg4 hb2 (by decide)⟩, grown_new hG hg4 (by omega)⟩
  have n69 : ¬ st.1 = [69] := of_decide_eq_false h
  rw [if_neg n69]
  clear h
  (repeat (first | (apply WL.pure; rfl; rfl; rfl) | (apply WL.nil) | (apply EX.thenN) | (apply CW.seq) | (apply CW.region)))
  rw [txA_eqd]
  refine CW.cond rfl (fun h => ?_) (fun h => ?_)
  · have h1 : st.1 = [65] := of_decide_eq_true h
    rw [if_pos h1]
    have hm1 := mT_nx1 (st := st) (by rw [h1]; decide)
    obtain ⟨n, rfl⟩ : ∃ k, n = k + 1 := ⟨n - 1, by omega⟩
    (repeat (first | (apply CW.seq) | (apply CW.region) | (apply WL.makeFunc; rfl; rfl; rfl; rfl) | (apply WL.ld; rfl; rfl; rfl; assumption; rfl)))
    refine WL.call rfl rfl rfl (cwithin_ok w2 hr2 hs ho (r := cWays nms s.length (n + 1) true (o + 1) (nxT st.2)) (fun ho' w hr hg => FnV.mk (cs := [_]) (csin2_ok w hr hs (by omega) (fun m hm => hS m (by omega)) (fun m hm => hF m (by omega)) (by omega) (hb1.kept hg (fun e => by have := Option.some.inj e; omega))))) ?_
    rintro _ w3 ⟨⟨x, e, t, st1, rfl, hx, hr3, hE3⟩, hg3⟩
    have hb2 := hb2.kept hg3 (fun e => by have := Option.some.inj e; omega)
    have hG := grown_tr hG hg3
    have hx : GX w0.heap.size [b2, w0.heap.size] w3 x t := GX.of hx hE2.size hXX
    have hE3 := hE3.low (B' := w0.heap.size) hE2.size
    obtain ⟨uo, uc, rfl, hk⟩ := Rd.ltl hx
    (repeat (apply WL.pure; rfl; rfl; rfl))
    refine WL.st rfl rfl rfl hb2 rfl rfl (ones_of rfl) (fun w4 hb24 hg4 => ?_)
    (repeat (first | (apply WL.pure; rfl; rfl; rfl) | (apply WL.nil) | (apply EX.thenN) | (apply CW.ret) | (apply EX.thenR) | (apply EX.inR)))
    exact EX.retC2 rfl rfl rfl hb24 rfl ⟨⟨_, _, t, st1, rfl, (hx.st hg4 (.inr (by simp))).gl, hr3.kept hg4 (fun b e => by cases e; omega), hE3.stT hg4 hb2 (by decide)⟩, grown_new hG hg4 (by omega)⟩
  have n65 : ¬ st.1 = [65] := of_decide_eq_false h
  rw [if_neg n65]
  clear h
  (repeat (first | (apply WL.pure; rfl; rfl; rfl) | (apply WL.nil) | (apply EX.thenN) | (apply CW.seq) | (apply CW.region)))
  rw [txA_eqd]
  refine CW.cond rfl (fun h => ?_) (fun h => ?_)
  · have h1 : st.1 = [40] := of_decide_eq_true h
    rw [if_pos h1]
    have hm1 := mT_nx1 (st := st) (by rw [h1]; decide)
    (repeat (first | (apply CW.seq) | (apply CW.region) | (apply WL.makeFunc; rfl; rfl; rfl; rfl) | (apply WL.ld; rfl; rfl; rfl; assumption; rfl)))
    refine WL.call rfl rfl rfl (cwithin_ok w2 hr2 hs ho (r := cFor nms s.length n (o + 1) [] (nxT st.2)) (fun ho' w hr hg => FnV.mkM (fs := [_]) (hF n (Nat.le_refl _) (o + 1) _ w hr (by omega) (by omega)))) ?_
    rintro _ w3 ⟨⟨x, e, t, st1, rfl, hx, hr3, hE3⟩, hg3⟩
    have hb1 := hb1.kept hg3 (fun e => by have := Option.some.inj e; omega)
    have hb2 := hb2.kept hg3 (fun e => by have := Option.some.inj e; omega)
    have hG := grown_tr hG hg3
    have hx : GX w0.heap.size [b2, w0.heap.size] w3 x t := GX.of hx hE2.size hXX
    have hE3 := hE3.low (B' := w0.heap.size) hE2.size
    have z3 := hg3.size
    obtain ⟨uo, uc, rfl, hk⟩ := Rd.ltl hx
    (repeat (apply WL.pure; rfl; rfl; rfl))
    refine WL.alloc rfl rfl (fun w4 hb6 e4 => ?_)
    have hx := hx.add e4 (Nat.le_refl _)
    have hb1 := hb1.ext e4
    have hb2 := hb2.ext e4
    have hr4 := hr3.ext e4
    have hE4 := hE3.ext e4
    have hG := grown_tr hG (e4.grw (some rb))
    have h46 : b2 < w3.heap.size := by omega
    have h47 : w0.heap.size < w3.heap.size := by omega
    have l13 := hb6.lt
    generalize hB6 : w3.heap.size = b6 at *
    skip
    refine WL.st rfl rfl rfl hb6 rfl rfl (ones_of rfl) (fun w5 hb65 hg5 => ?_)
    have hx := hx.st hg5 (.inr (List.mem_cons_self ..))
    have hb1 := hb1.kept hg5 (fun e => by have := Option.some.inj e; omega)
    have hb2 := hb2.kept hg5 (fun e => by have := Option.some.inj e; omega)
    have hr5 := hr4.kept hg5 (fun b e => by cases e; omega)
    have hE5 := hE4.stT hg5 hb6 (by decide)
    have hG := grown_new hG hg5 (by omega)
    have hH := HF.of hb65 hx
    have l25 := hb2.lt
    have l65 := hb65.lt
    clear hr2 hrb hr3 hr4 hE3 hE4 hk hb6 hb65 hx
    have he := hE5.err
    (repeat (first | (apply WL.pure; rfl; rfl; rfl) | (apply WL.nil) | (apply EX.thenN)))
    refine CW.cutI (S := Value) (fun e => [(1, .pointer (some ⟨w0.heap.size, 0, none⟩)), (2, .pointer (some ⟨b2, 0, none⟩)), (6, .pointer (some ⟨b6, 0, none⟩)), (7, e)])
      (fun e w => w0.grownBy w (some rb) ∧ Blk w b2 31 [.int .i64 0, .int .i64 0, .slice none 0 0] ∧ HF 31 w b6 w0.heap.size [b6, b2, w0.heap.size] t ∧
        ∃ st', Rdr 139 w rb s no nc nms o st' ∧ ErP w w0.heap.size (braC s.length (if o = 20 then .er 5 (atT s.length st) else cFor nms s.length n (o + 1) [] (nxT st.2))) e t st') ?_ ?_
    · generalize (if o = 20 then PR.er 5 (atT s.length st) else cFor nms s.length n (o + 1) [] (nxT st.2)) = r1 at *
      (repeat (first | (apply WL.pure; rfl; rfl; rfl) | (apply CW.seq) | (apply CW.region)))
      refine WL.eqNil rfl rfl rfl he ?_
      rcases hE5 with ⟨rfl, rfl⟩ | ⟨c, a, rfl, hF⟩
      · rw [show nilI Value.nilIface = true from rfl]
        (repeat (first | (apply WL.pure; rfl; rfl; rfl) | (apply WL.ld; rfl; rfl; rfl; assumption; rfl)))
        refine WL.call rfl rfl rfl (ctake_ok w5 hr5 hs [41]) ?_
        rintro _ w10 ⟨rfl, hr10, hg10⟩
        have hb1 := hb1.kept hg10 (fun e => by have := Option.some.inj e; omega)
        have hb2 := hb2.kept hg10 (fun e => by have := Option.some.inj e; omega)
        have hH := hH.st hg10 (.inl hrl) (by omega)
        have hG := grown_tr hG hg10
        have z10 := hg10.size
        dsimp only [braC]
        (repeat (first | (apply WL.pure; rfl; rfl; rfl) | (apply WL.nil) | (apply EX.thenN)))
        refine CW.cond rfl (fun h => ?_) (fun h => ?_)
        · have h : ¬ st1.1 = [41] := by simpa using h
          rw [if_neg h] at hr10 ⊢
          (repeat (first | (apply CW.region) | (apply WL.ld; rfl; rfl; rfl; assumption; rfl)))
          refine WL.call rfl rfl rfl (cwrong_ok w10 hr10 3) ?_
          rintro _ w11 ⟨rfl, hf11, e11⟩
          (repeat (first | (apply WL.pure; rfl; rfl; rfl) | (apply WL.nil)))
          exact EX.cutI _ (by repeat (first | exact trivial | refine ⟨rfl, ?_⟩)) ⟨grown_tr hG (e11.grw _), hb2.ext e11, hH.ext e11, st1, hr10.ext e11, .inr ⟨_, _, rfl, _, rfl, by omega, hf11⟩⟩
        · have h : st1.1 = [41] := by simpa using h
          rw [if_pos h] at hr10 ⊢
          (repeat (apply CW.skip))
          exact EX.cutI _ (by repeat (first | exact trivial | refine ⟨rfl, ?_⟩)) ⟨hG, hb2, hH, _, hr10, .inl ⟨rfl, rfl⟩⟩
      · rw [hF.err.2]
        (repeat (first | (apply WL.pure; rfl; rfl; rfl) | (apply WL.nil) | (apply EX.thenN) | (apply WL.pass; rfl; rfl) | (apply CW.condF; rfl) | (apply CW.skip)))
        exact EX.cutI _ (by repeat (first | exact trivial | refine ⟨rfl, ?_⟩)) ⟨hG, hb2, hH, st1, hr5, .inr ⟨c, a, rfl, hF⟩⟩
    clear hG hb2 hH hr5 he hE5
    rintro e w10 ⟨hG, hb2, hH, st', hr10, hE⟩
    obtain ⟨vo, vc, hb6, hy⟩ := hH.gx
    (repeat (first | (apply WL.pure; rfl; rfl; rfl) | (apply CW.seq) | (apply CW.region) | (apply WL.ldA; rfl; rfl; rfl; assumption; rfl)))
    refine WL.st rfl rfl rfl hb2 rfl rfl (ones_of rfl) (fun w12 hb212 hg12 => ?_)
    (repeat (first | (apply WL.pure; rfl; rfl; rfl) | (apply WL.nil) | (apply EX.thenN) | (apply CW.ret) | (apply EX.thenR) | (apply EX.inR)))
    refine EX.retC2 rfl rfl rfl hb212 rfl ⟨⟨_, _, _, st', rfl, (hy.st hg12 (.inr (by simp))).gl, hr10.kept hg12 (fun b e => by cases e; omega), ?_⟩, grown_new hG hg12 (by omega)⟩
    have hE := hE.stT hg12 hb2 (by decide)
    by_cases h20 : o = 20
    · rw [if_pos h20] at hE ⊢
      exact hE
    · rw [if_neg h20] at hE ⊢
      exact hE
  have n40 : ¬ st.1 = [40] := of_decide_eq_false h
  rw [if_neg n40]
  clear h
  (repeat (first | (apply WL.pure; rfl; rfl; rfl) | (apply WL.nil) | (apply EX.thenN) | (apply CW.skip) | (apply EX.inN)))
  apply CW.seq
  refine CW.cutE [(1, .pointer (some ⟨w0.heap.size, 0, none⟩)), (2, .pointer (some ⟨b2, 0, none⟩)), (71, .bool (decide (st.1 = [] ∨ lowB (st.1.headD 0) = false)))] ?_ ?_
  · (repeat (first | (apply WL.pure; rfl; rfl; rfl) | (apply CW.region) | (apply WL.fa; rfl; rfl; rfl) | (apply WL.nck; rfl; rfl; rfl) | (apply WL.ld; rfl; rfl; rfl; assumption; rfl)))
    rw [show ((txA st.1).data.toList == (ByteArray.mk #[]).data.toList) = decide (st.1 = []) from txA_eqd _ _]
    (refine WL.lookG rfl rfl (fun h => ?_) (fun h => ?_))
    · have h : st.1 = [] := of_decide_eq_true h
      (repeat (first | (apply WL.pure; rfl; rfl; rfl) | (apply WL.nil) | (apply WL.pass; rfl; rfl)))
      exact EX.cutE ⟨rfl, rfl, congrArg (fun b => some (Value.bool b)) (show true = _ from (decide_eq_true (Or.inl h)).symm), trivial⟩ (Ext.refl _)
    have h4 : ¬ st.1 = [] := of_decide_eq_false h
    have h5 : 0 < st.1.length := List.length_pos_iff.2 h4
    clear h
    (repeat (first | (apply WL.fa; rfl; rfl; rfl) | (apply WL.nck; rfl; rfl; rfl) | (apply WL.ld; rfl; rfl; rfl; assumption; rfl)))
    refine WL.byteL (i := 0) rfl rfl rfl rfl h5 ?_
    skip
    refine WL.call rfl rfl rfl (cletter_ok w2 _) ?_
    rintro _ w5 ⟨rfl, e5⟩
    (repeat (first | (apply WL.pure; rfl; rfl; rfl) | (apply WL.nil)))
    refine EX.cutE ⟨rfl, rfl, ?_, trivial⟩ e5
    refine congrArg (fun b => some (Value.bool b)) ?_
    rw [Bool.eq_iff_iff]
    rw [headD_0 h5]
    simp [h4]
  rintro w3 e3
  have hr3 := hr2.ext e3
  have hb1 := hb1.ext e3
  have hb2 := hb2.ext e3
  have hG := grown_tr hG (e3.grw _)
  clear hr2 hrb
  have l3 : w2.heap.size ≤ w3.heap.size := e3.size
  refine CW.cond rfl (fun h => ?_) (fun h => ?_)
  · rw [if_pos (of_decide_eq_true h)]
    (repeat (first | (apply CW.seq) | (apply CW.region)))
    refine WL.build (parts := []) rfl rfl rfl rfl ?_
    (repeat (apply WL.ld; rfl; rfl; rfl; assumption; rfl))
    refine WL.call rfl rfl rfl (cwrong_ok w3 hr3 3) ?_
    rintro _ w6 ⟨rfl, hf6, e6⟩
    have hb2 := hb2.ext e6
    have hr6 := hr3.ext e6
    have hG := grown_tr hG (e6.grw _)
    skip
    refine WL.st rfl rfl rfl hb2 rfl rfl (ones_of rfl) (fun w7 hb27 hg7 => ?_)
    (repeat (first | (apply WL.pure; rfl; rfl; rfl) | (apply WL.nil) | (apply EX.thenN) | (apply CW.ret) | (apply EX.thenR)))
    refine EX.retC2 rfl rfl rfl hb27 rfl ⟨?_, grown_new hG hg7 (by omega)⟩
    exact ⟨_, _, _, st, rfl, GL.zero 0 0, hr6.kept hg7 (fun b e => by cases e; omega), .inr ⟨_, _, rfl, _, rfl, by omega, hf6.kept hg7 (fun e => by have := Option.some.inj e; omega)⟩⟩
  · rw [if_neg (of_decide_eq_false h)]
    (repeat (first | (apply EX.thenN) | (apply CW.seq) | (apply CW.region) | (apply WL.ld; rfl; rfl; rfl; assumption; rfl) | (apply CW.skip)))
    refine WL.call rfl rfl rfl (cword_ok w3 hr3 hs) ?_
    rintro _ w4 ⟨⟨x, e, t, st1, rfl, hx, hr4, hE4⟩, hg4⟩
    have hb2 := hb2.kept hg4 (fun e => by have := Option.some.inj e; omega)
    have hG := grown_tr hG hg4
    have hx : GX w0.heap.size [b2, w0.heap.size] w4 x t := GX.of hx (by omega) (fun r hr => Nat.lt_of_lt_of_le (hXX r hr) l3)
    have hE4 := hE4.low (B' := w0.heap.size) (by omega)
    obtain ⟨uo, uc, rfl, hk⟩ := Rd.ltl hx
    (repeat (apply WL.pure; rfl; rfl; rfl))
    refine WL.st rfl rfl rfl hb2 rfl rfl (ones_of rfl) (fun w5 hb25 hg5 => ?_)
    (repeat (first | (apply WL.pure; rfl; rfl; rfl) | (apply WL.nil) | (apply EX.thenN) | (apply CW.ret)))
    exact EX.retC2 rfl rfl rfl hb25 rfl ⟨⟨_, _, t, st1, rfl, (hx.st hg5 (.inr (by simp))).gl, hr4.kept hg5 (fun b e => by cases e; omega), hE4.stT hg5 hb2 (by decide)⟩, grown_new hG hg5 (by omega)⟩
end Go.Proofs.YtikigaeihdmcaaaGreatDoor

/-
  ctl.Parse, walked: formulas.
-/
set_option linter.unusedVariables false
set_option linter.unusedSimpArgs false
namespace Go.Proofs.YtikigaeihdmcaaaGreatDoor
open Go.RowKit

theorem arrows_drop {left : List Ltl} {t : Ltl} {i : Nat} (h : i < left.length) : arrows (left.drop i) t = .mk 6 0 [.mk 4 0 [left[i]], arrows (left.drop (i + 1)) t] := by
  rw [List.drop_eq_getElem_cons h]; rfl
theorem grown_row {w w1 w2 : World} {r row : Option Nat} (h1 : w.grownBy w1 r) (h2 : w1.grownBy w2 row) (hb : ∀ g, row = some g → w.heap.size ≤ g) : w.grownBy w2 r :=
  ⟨h2.os.trans h1.os, h2.tape.trans h1.tape, h2.output.trans h1.output, Nat.le_trans h1.size h2.size, fun k hk hne => (h2.block k (Nat.lt_of_lt_of_le hk h1.size) (fun e => by have := hb k e.symm; omega)).trans (h1.block k hk hne)⟩
set_option maxHeartbeats 2000000 in
theorem cformula_ok {rb : Nat} {s : Bys} {no : Option Addr} {nc : Nat} {nms : List ByteArray} {n o : Nat} {st : Bys × Bys} (w0 : World) (hr : Rdr 139 w0 rb s no nc nms o st) (hs : s.length ≤ 300) (ho : o ≤ 20) (hS : SinOK rb s no nc nms n) (m0 : Nat) (hm0 : m0 ≤ n + 1) (hn : 10 * mT st + 6 ≤ m0) :
    Rt Tryz.prog 85 [.pointer (some ⟨rb, 0, none⟩)].toArray w0 fun v w' => PRs 139 rb s no nc nms o w0.heap.size (cFor nms s.length m0 o [] st) v w' ∧ w0.grownBy w' (some rb) := by
  have hrl := hr.lt
  have hst : mT st ≤ 300 := by have := hr.len; unfold mT; omega
  refine Rt.enter1 Tryz.func85 Tryz.ntmps85 rfl rfl ?_
  (repeat (first | (apply CW.seq) | (apply CW.region)))
  refine WL.alloc rfl rfl (fun w1 hb2 e1 => ?_)
  have l2 := hb2.lt
  have hr1 := hr.ext e1
  have hG := e1.grw (some rb)
  generalize hR : cFor nms s.length m0 o [] st = R
  generalize hB2 : w0.heap.size = b2 at *
  (repeat (first | (apply WL.pure; rfl; rfl; rfl) | (apply WL.nil) | (apply EX.thenN) | (apply CW.seq) | (apply CW.region) | (apply CW.block)))
  refine CW.loop (S := Nat × List Ltl × (Bys × Bys) × Value) (fun p => [(0, .pointer (some ⟨rb, 0, none⟩)), (2, .pointer (some ⟨b2, 0, none⟩)), (4, p.2.2.2)])
    (fun p w => w0.grownBy w (some rb) ∧ Blk w b2 31 [.int .i64 0, .int .i64 0, .slice none 0 0] ∧ Rdr 139 w rb s no nc nms o p.2.2.1 ∧ R = cFor nms s.length p.1 o p.2.1 p.2.2.1 ∧ 10 * mT p.2.2.1 + 6 ≤ p.1 ∧ p.1 ≤ m0 ∧ p.2.1.length + mT p.2.2.1 ≤ 300 ∧
      ∃ F : Nat → Prop, (∀ b, F b → b2 < b ∧ b < w.heap.size) ∧ Own w (b2 + 1) 31 F p.2.2.2 p.2.1)
    (fun p => mT p.2.2.1) (m0, [], st, .slice none 0 0) (by repeat (first | exact trivial | refine ⟨rfl, ?_⟩)) ⟨hG, hb2, hr1, hR.symm, hn, Nat.le_refl _, by simpa using hst, Non, fun _ h => h.elim, Own.nil⟩ ?_
  clear hb2 hr1 hG hr l2 e1 hR
  rintro ⟨m, left, st, lv⟩ w2 ⟨hG, hb2, hr2, hR, hm, hmm, hlen, F, hF, hO⟩
  dsimp only at hG hb2 hr2 hR hm hmm hlen hO ⊢
  have l2 := hb2.lt
  have hrb2 : rb < b2 := by omega
  have hsz2 : b2 ≤ w2.heap.size := by omega
  obtain ⟨k, rfl⟩ : ∃ k, m = k + 5 := ⟨m - 5, by omega⟩
  rw [cFor] at hR
  have hlo : ∀ g, lv.ownBlock = some g → b2 < g ∧ g < w2.heap.size := fun g hg => by have := hO.lt g hg; omega
  (repeat (first | (apply WL.pure; rfl; rfl; rfl) | (apply CW.seq) | (apply CW.region) | (apply WL.makeFunc; rfl; rfl; rfl; rfl) | (apply CW.block)))
  refine WL.call rfl rfl rfl (crow_ok true (k + 3) w2 hr2 hs (part_and hs ho (fun j hj => hS j (by omega))) (by simp only [cl]; omega)) ?_
  rintro _ w3 ⟨⟨x, e, t, st1, rfl, hx, hr3, hE3⟩, hg3⟩
  have hmr : ∀ f st', cRow nms s.length (k + 4) true o st = .ok f st' → mT st' ≤ mT st := fun f st' h => (c_mono nms s.length (k + 4)).2.1 _ _ _ _ _ h
  have hE3 : ErP w3 b2 (cRow nms s.length (k + 4) true o st) e t st1 := hE3.low hsz2
  generalize cRow nms s.length (k + 4) true o st = r1 at *
  have hb2 := hb2.kept hg3 (fun e => by have := Option.some.inj e; omega)
  have hO := hO.kept hg3 (fun g hg e => by have := Option.some.inj e; have := hlo g hg; omega) (fun b hb => ⟨(hF b hb).2, fun e => by have := Option.some.inj e; have := hF b hb; omega⟩)
  have hG := grown_tr hG hg3
  have z3 := hg3.size
  have hx : Rd w3 (fun b => w2.heap.size ≤ b ∧ b < w3.heap.size) x t := hx
  obtain ⟨uo, uc, rfl, hk⟩ := Rd.ltl hx
  (repeat (apply WL.pure; rfl; rfl; rfl))
  refine WL.alloc rfl rfl (fun w4 hb5 e4 => ?_)
  have l5 := hb5.lt
  have hx := hx.up0 e4 (fun b hb => hb.2)
  have hb2 := hb2.ext e4
  have hr4 := hr3.ext e4
  have hE4 := hE3.ext e4
  have hO := hO.ext e4 (fun b hb => by have := hF b hb; omega)
  have hG := grown_tr hG (e4.grw (some rb))
  have h25 : w2.heap.size ≤ w3.heap.size := z3
  have z4 := e4.size
  clear hr3 hE3 hr2 hg3 hk
  generalize hB5 : w3.heap.size = b5 at *
  skip
  refine WL.st rfl rfl rfl hb5 rfl rfl (ones_of rfl) (fun w5 hb55 hg5 => ?_)
  have hx := hx.kept hg5 (fun b hb => ⟨by omega, fun e => by have := Option.some.inj e; omega⟩)
  have hb2 := hb2.kept hg5 (fun e => by have := Option.some.inj e; omega)
  have hr5 := hr4.kept hg5 (fun b e => by cases e; omega)
  have hE5 := hE4.stT hg5 hb5 (by decide)
  have hO := hO.kept hg5 (fun g hg e => by have := Option.some.inj e; have := hlo g hg; omega) (fun b hb => ⟨by have := hF b hb; omega, fun e => by have := Option.some.inj e; have := hF b hb; omega⟩)
  have hG := grown_new hG hg5 (by omega)
  have z5 := hg5.size
  have hx5 : GX b2 [b5, b2] w5 (ltlV t.k t.n uo t.kids.length uc) t := hx.wk (fun b hb => ⟨by omega, by omega, fun hm => by
    simp only [List.mem_cons, List.not_mem_nil, or_false] at hm
    rcases hm with rfl | rfl <;> omega⟩)
  have hH := HF.of hb55 hx5
  clear hb5 hg5 hr4 hE4
  have he := hE5.err
  (repeat (first | (apply WL.pure; rfl; rfl; rfl) | (apply WL.nil) | (apply EX.thenN) | (apply CW.seq) | (apply CW.region)))
  refine WL.neNil rfl rfl rfl he ?_
  rcases hE5 with ⟨rfl, rfl⟩ | ⟨c, a, rfl, hFl⟩
  rotate_left
  · rw [hFl.err.2]
    dsimp only at hR
    subst hR
    (repeat (first | (apply WL.pure; rfl; rfl; rfl) | (apply WL.nil) | (apply EX.thenN) | (apply CW.seq) | (apply CW.region) | (apply WL.ldA; rfl; rfl; rfl; assumption; rfl) | (apply CW.condT; rfl)))
    refine WL.st rfl rfl rfl hb2 rfl rfl (ones_of rfl) (fun w8 hb8 hg8 => ?_)
    (repeat (first | (apply WL.pure; rfl; rfl; rfl) | (apply WL.nil) | (apply EX.thenN) | (apply CW.ret) | (apply EX.thenR) | (apply EX.inR)))
    exact EX.retC2 rfl rfl rfl hb8 rfl ⟨⟨_, _, t, st1, rfl, (hx5.st hg8 (.inr (by simp))).gl, hr5.kept hg8 (fun b e => by cases e; omega), .inr ⟨_, _, rfl, hFl.stT hg8 hb2 (by decide)⟩⟩, grown_new hG hg8 (by omega)⟩
  rw [show (!nilI Value.nilIface) = false from rfl]
  dsimp only at hR
  have hmr := hmr _ _ rfl
  clear hH hx5
  (repeat (first | (apply WL.pure; rfl; rfl; rfl) | (apply WL.nil) | (apply EX.thenN) | (apply CW.seq) | (apply CW.region) | (apply CW.condF; rfl) | (apply CW.skip)))
  refine WL.call rfl rfl rfl (ctake_ok w5 hr5 hs [45, 62]) ?_
  rintro _ w6 ⟨rfl, hr6, hg6⟩
  have hx := hx.kept hg6 (fun b hb => ⟨by omega, fun e => by have := Option.some.inj e; omega⟩)
  have hb2 := hb2.kept hg6 (fun e => by have := Option.some.inj e; omega)
  have hb5 := hb55.kept hg6 (fun e => by have := Option.some.inj e; omega)
  have hO := hO.kept hg6 (fun g hg e => by have := Option.some.inj e; have := hlo g hg; omega) (fun b hb => ⟨by have := hF b hb; omega, fun e => by have := Option.some.inj e; have := hF b hb; omega⟩)
  have hG := grown_tr hG hg6
  have z6 := hg6.size
  clear hb55 hg6 hr5
  (repeat (first | (apply WL.pure; rfl; rfl; rfl) | (apply WL.nil) | (apply EX.thenN)))
  refine CW.cond rfl (fun h => ?_) (fun h => ?_)
  · have h : ¬ st1.1 = [45, 62] := by simpa using h
    rw [if_neg h] at hr6 hR
    subst hR
    obtain ⟨lo, lc, rfl⟩ := hO.val
    obtain ⟨lo', lc', he', hsl⟩ := hO.sl
    obtain ⟨rfl, _, rfl⟩ := Value.slice.inj he'
    have hFO : ∀ b, (F b ∨ (Value.slice lo left.length lc).ownBlock = some b) → b2 < b ∧ b < b5 := fun b hb => by
      rcases hb with hb | hb
      · have := hF b hb; omega
      · have := hlo b hb; omega
    have hH : HF 31 w6 b5 b2 [b5, b2] (arrows (left.drop left.length) t) := by
      rw [List.drop_length]
      exact HF.of hb5 (hx.wk (fun b hb => ⟨by omega, by omega, fun hm => by
        simp only [List.mem_cons, List.not_mem_nil, or_false] at hm
        rcases hm with rfl | rfl <;> omega⟩))
    clear hx hb5
    (repeat (first | (apply WL.sub'; rfl; rfl; rfl; rfl; omega; omega) | (apply WL.pure; rfl; rfl; rfl) | (apply WL.nil) | (apply EX.thenN) | (apply CW.seq) | (apply CW.region) | (apply WL.lenS; rfl; rfl; rfl) | (apply CW.block)))
    have hll : left.length ≤ 300 := by omega
    refine CW.loop (S := Nat) (fun j => [(0, .pointer (some ⟨rb, 0, none⟩)), (2, .pointer (some ⟨b2, 0, none⟩)), (4, .slice lo left.length lc), (5, .pointer (some ⟨b5, 0, none⟩)), (7, .int .i64 ((j : Int) - 1))])
      (fun j w => j ≤ left.length ∧ w0.grownBy w (some rb) ∧ Blk w b2 31 [.int .i64 0, .int .i64 0, .slice none 0 0] ∧ Rdr 139 w rb s no nc nms o st1 ∧ HF 31 w b5 b2 [b5, b2] (arrows (left.drop j) t) ∧
        Sl w (fun b => F b ∨ (Value.slice lo left.length lc).ownBlock = some b) lo lc left)
      (fun j => j) left.length (by repeat (first | exact trivial | refine ⟨rfl, ?_⟩)) ⟨Nat.le_refl _, hG, hb2, hr6, hH, hsl⟩ ?_
    clear hG hb2 hr6 hH hsl hO
    rintro j w7 ⟨hj, hG, hb2, hr7, hH, hsl⟩
    have l57 := hH.lt
    obtain ⟨vo, vc, hb5, hy⟩ := hH.gx
    (repeat (first | (apply WL.pure; rfl; rfl; rfl) | (apply WL.nil) | (apply EX.thenN) | (apply CW.seq) | (apply CW.region)))
    refine CW.cond rfl (fun h => ?_) (fun h => ?_)
    · have hj1 : 1 ≤ j := by have : (0 : Int) ≤ (j : Int) - 1 := by simpa using h
                             omega
      obtain ⟨i, rfl⟩ : ∃ i, j = i + 1 := ⟨j - 1, by omega⟩
      have hi : i < left.length := by omega
      have hD := Ext.drew w7
      have hb2 := hb2.ext hD
      have hb5d := hb5.ext hD
      have hr8 := hr7.ext hD
      have hyd := hy.ext hD
      have hsld := hsl.up0 hD (fun b hb => by have := hFO b hb; omega)
      have hG := grown_tr hG (hD.grw (some rb))
      have l57d : b5 < (drew w7).heap.size := hb5d.lt
      obtain ⟨kb, koff, rfl, hFk, es, hcl, hrd⟩ := hsld.el i hi
      have hkb := hFO kb hFk
      have hli : ∀ w, Ext (drew w7) w → Cells w kb (koff + i * sz Ltl) es ∧ rd w (fun b => F b ∨ (Value.slice (some ⟨kb, koff, none⟩) left.length lc).ownBlock = some b) es left[i] := fun w hw =>
        ⟨hcl.mono (hw.block kb (by omega)), Rep.mono hrd (fun b hb => hw.block b (by have := hFO b hb; omega)) fun _ h => h⟩
      clear hb5 hr7 hy hsl hH
      (repeat (first | (apply EX.thenN) | (apply CW.seq) | (apply CW.block) | (apply CW.skip)))
      refine CW.drawM 7 mixed (by kernel_rfl) ?_
      (repeat (refine ML.q rfl rfl rfl (fun γ' w' hw' => WL.pure rfl rfl rfl (WL.nil (EX.mm rfl (Ext.refl _) rfl))) ?_))
      refine ML.q rfl rfl rfl (fun γ w hw => WL.idx (α := Ltl) rfl rfl rfl rfl (by omega) (by omega) (WL.nil (EX.mm rfl (Ext.refl _) rfl))) ?_
      refine ML.q rfl rfl rfl (fun γ w hw => WL.load (α := Ltl) rfl rfl rfl (by rw [show ((((i + 1 : Nat) : Int) - 1).toNat) = i by omega]; exact (hli w hw).1) (hli w hw).2 (WL.nil (EX.mm rfl (Ext.refl _) rfl))) ?_
      refine ML.fc (fun v γ w => GX b2 [b5, b2] w v (.mk 4 0 [left[i]])) rfl rfl rfl (fun v γ γ' w w' h e _ => h.ext e) (fun γ w hw => WL.call rfl rfl rfl (cone_ok w (F := GXs b2 [b5, b2] w) (fun b hb => hb.2.1) 4 (show Rd w _ (vOf Ltl es) left[i] from ⟨es, rfl, Rep.mono (hli w hw).2 (fun _ _ => rfl) (fun b hb => ⟨by have := hFO b hb; omega, by have := hFO b hb; have := hw.size; omega, fun hm => by
        simp only [List.mem_cons, List.not_mem_nil, or_false] at hm
        have := hFO b hb
        rcases hm with rfl | rfl <;> omega⟩)⟩)) (fun v w' h => WL.nil (EX.mm rfl h.2 (GX.plus h.1 h.2 (by have := hw.size; omega) (fun r hr => by
        simp only [List.mem_cons, List.not_mem_nil, or_false] at hr
        have := hw.size
        rcases hr with rfl | rfl <;> omega))))) ?_
      (repeat (apply ML.q; rfl; rfl; rfl; (intro γ' w' hw'; apply WL.ldA; rfl; rfl; rfl; apply Blk.ext; assumption; exact hw'; rfl; exact WL.nil (EX.mm rfl (Ext.refl _) rfl))))
      refine ML.fc (fun v γ w => GX b2 [b5, b2] w v (.mk 6 0 [.mk 4 0 [left[i]], arrows (left.drop (i + 1)) t])) rfl rfl rfl (fun v γ γ' w w' h e _ => h.ext e) (fun γ w hw v33 g33 => WL.call rfl rfl rfl (ctwo_ok w (F := GXs b2 [b5, b2] w) (fun b hb => hb.2.1) 6 g33 (hyd.ext hw)) (fun v w' h => WL.nil (EX.mm rfl h.2 (GX.plus h.1 h.2 (by have := hw.size; omega) (fun r hr => by
        simp only [List.mem_cons, List.not_mem_nil, or_false] at hr
        have := hw.size
        rcases hr with rfl | rfl <;> omega))))) ?_
      refine ML.nil fun γ w8 hw8 v35 g35 v33 g33 => ?_
      change WL _ _ _ _ _ _ _
      obtain ⟨uo, uc, rfl, hku⟩ := Rd.ltl g35
      have hb5 := hb5d.ext hw8
      refine WL.st rfl rfl rfl hb5 rfl rfl (ones_of rfl) (fun w9 hb59 hg9 => WL.nil (EX.tailE ?_))
      have z8 := hw8.size
      have g35 := g35.st hg9 (.inr (List.mem_cons_self ..))
      (repeat (first | (apply WL.sub'; rfl; rfl; rfl; rfl; omega; omega) | (apply WL.pure; rfl; rfl; rfl) | (apply WL.nil) | (apply EX.thenN) | (apply CW.region) | (apply EX.inN)))
      rw [show (((i + 1 : Nat) : Int) - 1 - 1) = (i : Int) - 1 by omega]
      refine EX.back i (by repeat (first | exact trivial | refine ⟨rfl, ?_⟩)) ⟨by omega, grown_new (grown_tr hG (hw8.grw _)) hg9 (by omega), (hb2.ext hw8).kept hg9 (fun e => by have := Option.some.inj e; omega), (hr8.ext hw8).kept hg9 (fun b e => by cases e; omega), ?_, ?_⟩ (by omega)
      · rw [arrows_drop hi]
        exact HF.of hb59 g35
      · exact (hsld.up0 hw8 (fun b hb => by have := hFO b hb; omega)).mono (fun b hb => hg9.block b (by have := hFO b hb; omega) (fun e => by have := Option.some.inj e; have := hFO b hb; omega)) fun _ h => h
    · obtain rfl : j = 0 := by have : ¬ (0 : Int) ≤ (j : Int) - 1 := by simpa using h
                               omega
      rw [List.drop_zero] at hy hb5 hH
      (repeat (first | (apply EX.thenN) | (apply CW.seq) | (apply CW.region) | (apply WL.ldA; rfl; rfl; rfl; assumption; rfl) | (apply CW.exit) | (apply EX.thenX) | (apply EX.inX)))
      refine WL.st rfl rfl rfl hb2 rfl rfl (ones_of rfl) (fun w8 hb8 hg8 => ?_)
      (repeat (first | (apply WL.pure; rfl; rfl; rfl) | (apply WL.nil) | (apply EX.thenN) | (apply CW.ret) | (apply EX.thenR) | (apply EX.inR)))
      exact EX.retC2 rfl rfl rfl hb8 rfl ⟨⟨_, _, _, st1, rfl, (hy.st hg8 (.inr (by simp))).gl, hr7.kept hg8 (fun b e => by cases e; omega), .inl ⟨rfl, rfl⟩⟩, grown_new hG hg8 (by omega)⟩
  · have h : st1.1 = [45, 62] := by simpa using h
    rw [if_pos h] at hr6 hR
    have hm1 := mT_nx1 (st := st1) (by rw [h]; decide)
    have hO : Own w6 (b2 + 1) 31 (fun b => F b ∨ (w2.heap.size ≤ b ∧ b < b5)) lv left := hO.wk (fun b hb => .inl hb) (fun g hg hh => by
      rcases hh with hh | hh
      · exact (hO.lt g hg).2.2 hh
      · have := hlo g hg; omega)
    (repeat (first | (apply WL.pure; rfl; rfl; rfl) | (apply EX.thenN) | (apply CW.region) | (apply WL.ldA; rfl; rfl; rfl; assumption; rfl) | (apply CW.skip)))
    refine WL.app1 (α := Ltl) (F := fun b => F b ∨ (w2.heap.size ≤ b ∧ b < b5)) rfl rfl (fun _ => rfl) rfl rfl (fun _ => rfl) hO (hx.wk (fun b hb => .inr hb)) (by omega) (fun b hb => by
      rcases hb with hb | hb
      · have := hF b hb; omega
      · omega) (by decide) (by unfold maxLen; omega) (by omega) (fun v' w7 p hO7 hg7 hv7 => ?_)
    have z7 := hg7.size
    (repeat (first | (apply WL.pure; rfl; rfl; rfl) | (apply WL.nil) | (apply EX.inN)))
    refine EX.back (k + 4, left ++ [t], nxT st1.2, v') (by repeat (first | exact trivial | refine ⟨rfl, ?_⟩)) ⟨grown_row hG hg7 (fun g hg => by have := hlo g hg; omega), hb2.kept hg7 (fun e => by have := hlo b2 e.symm; omega), hr6.kept hg7 (fun g hg => by have := hlo g hg; omega), hR, ?_, ?_, ?_, _, ?_, hO7⟩ ?_
    · dsimp only; omega
    · dsimp only; omega
    · dsimp only; rw [List.length_append]; simp only [List.length_cons, List.length_nil]; omega
    · intro b hb
      rcases hb with hb | hb
      · have := hF b hb; omega
      · omega
    · dsimp only; omega
end Go.Proofs.YtikigaeihdmcaaaGreatDoor

/-
  errors.As, walked at a fault and at none. Began as the worked proof ToyasAs.
-/
set_option linter.unusedVariables false
set_option linter.unusedSimpArgs false
namespace Go.Proofs.YtikigaeihdmcaaaGreatDoor
open Go.RowKit Go.Extern.Stop Go.Stop Go.Extern
theorem as_nil (t : Value) (w : World) :
    Calls Tryz.prog 82 #[.nilIface, t] w fun e w' => e = .returned (.bool false) ∧ w' = w := by
  go_enter Tryz.func82, Tryz.ntmps82
  go_wp2
  go_ret
  exact ⟨rfl, rfl⟩

theorem fa_valueOf27 (t : Addr) (w : World) : (ReflectliteValue.unpack (.iface 133 (.pointer (some t)))).run Tryz.prog w
    = .ok (.agg #[.pointer (some ⟨7, 133, none⟩), .pointer (some ⟨w.heap.size, 0, none⟩), .int .u64 150]) (w.alloc (.cells #[.pointer (some t)] 133)) := by kernel_rfl
theorem fa_type27 (a : Addr) (w : World) : (ReflectliteValue.methodAny (ReflectliteValue.valueError "reflectlite.Value.Type" 0) (fun t _ _ _ => ReflectliteType.toType t) #[.agg #[.pointer (some ⟨7, 133, none⟩), .pointer (some a), .int .u64 150]]).run Tryz.prog w
    = .ok (.iface 181 (.agg #[.pointer (some ⟨7, 133, none⟩)])) w := by kernel_rfl
theorem fa_methodKind (h : Value) (w : World) : (Go.method 335 181 (.agg #[h]) "Kind").run Tryz.prog w = .ok (150, h) w := by kernel_rfl
theorem fa_kind27 (w : World) : ((ReflectliteType.abiMethod fun t => (fun a : Nat => Value.int IntKind.u8 (a : Int)) <$> Rtype.kind t) #[.pointer (some ⟨7, 133, none⟩)]).run Tryz.prog w = .ok (.int .u8 22) w := by kernel_rfl
theorem fa_kind25 (w : World) : ((ReflectliteType.abiMethod fun t => (fun a : Nat => Value.int IntKind.u8 (a : Int)) <$> Rtype.kind t) #[.pointer (some ⟨7, 131, none⟩)]).run Tryz.prog w = .ok (.int .u8 22) w := by kernel_rfl

theorem rlm (z : Sem Value) (f : TypeId → Addr → Nat → Nat → Sem Value) (v : Value) :
    ReflectliteValue.method z f #[v] = (do match ← ReflectliteValue.parts v with | none => z | some (t, a, fl) => f t a fl (fl % 32)) := rfl
theorem fa_parts27 (a : Addr) (w : World) : (ReflectliteValue.parts (.agg #[.pointer (some ⟨7, 133, none⟩), .pointer (some a), .int .u64 150])).run Tryz.prog w = .ok (some (133, a, 150)) w := by kernel_rfl
theorem fa_isNil27 (a p : Addr) (W : World) (ha : W.cell? a = some (.pointer (some p))) :
    (ReflectliteValue.method (ReflectliteValue.valueError "reflectlite.Value.IsNil" 0) ReflectliteValue.isNil #[.agg #[.pointer (some ⟨7, 133, none⟩), .pointer (some a), .int .u64 150]]).run Tryz.prog W = .ok (.bool false) W := by
  rw [rlm]
  simp only [Sem.run_bind, fa_parts27, Result.andThen]
  simp [ReflectliteValue.isNil, loadVar, isAgg, underlying, Tryz.underlying133, ha, Result.andThen]

theorem fa_methodElem (h : Value) (w : World) : (Go.method 335 181 (.agg #[h]) "Elem").run Tryz.prog w = .ok (162, .agg #[h]) w := by kernel_rfl
theorem fa_methodImplements (h : Value) (w : World) : (Go.method 335 181 (.agg #[h]) "Implements").run Tryz.prog w = .ok (163, .agg #[h]) w := by kernel_rfl
theorem fa_methodAssignableTo (h : Value) (w : World) : (Go.method 335 181 (.agg #[h]) "AssignableTo").run Tryz.prog w = .ok (160, .agg #[h]) w := by kernel_rfl
theorem fa_elem27 (w : World) : (ReflectliteType.method ReflectliteType.elem #[.agg #[.pointer (some ⟨7, 133, none⟩)]]).run Tryz.prog w = .ok (.iface 181 (.agg #[.pointer (some ⟨7, 131, none⟩)])) w := by kernel_rfl
theorem fa_implements25 (w : World) : (ReflectliteType.relation "Implements" ReflectliteType.implements_ #[.agg #[.pointer (some ⟨7, 131, none⟩)], .iface 181 (.agg #[.pointer (some ⟨7, 127, none⟩)])]).run Tryz.prog w = .ok (.bool true) w := by kernel_rfl
theorem fa_typeOf25 (v : Value) (w : World) : (ReflectliteType.typeOf #[.iface 131 v]).run Tryz.prog w = .ok (.iface 181 (.agg #[.pointer (some ⟨7, 131, none⟩)])) w := by kernel_rfl
theorem fa_assignable25 (w : World) : (ReflectliteType.relation "AssignableTo" ReflectliteType.assignableTo #[.agg #[.pointer (some ⟨7, 131, none⟩)], .iface 181 (.agg #[.pointer (some ⟨7, 131, none⟩)])]).run Tryz.prog w = .ok (.bool true) w := by kernel_rfl
theorem fa_valueOf25 (e : Addr) (w : World) : (ReflectliteValue.unpack (.iface 131 (.pointer (some e)))).run Tryz.prog w
    = .ok (.agg #[.pointer (some ⟨7, 131, none⟩), .pointer (some ⟨w.heap.size, 0, none⟩), .int .u64 150]) (w.alloc (.cells #[.pointer (some e)] 131)) := by kernel_rfl

theorem fa_elemOf27 (w : World) : (Rtype.elem? 133).run Tryz.prog w = .ok (some 131) w := by kernel_rfl
theorem fa_mk25 (p : Addr) (w : World) : (ReflectliteValue.mk 131 p ReflectliteValue.flagAddr).run Tryz.prog w = .ok (.agg #[.pointer (some ⟨7, 131, none⟩), .pointer (some p), .int .u64 406]) w := by kernel_rfl
theorem fa_elemV27 (a p : Addr) (W : World) (ha : W.cell? a = some (.pointer (some p))) :
    (ReflectliteValue.method (ReflectliteValue.valueError "reflectlite.Value.Elem" 0) ReflectliteValue.elem #[.agg #[.pointer (some ⟨7, 133, none⟩), .pointer (some a), .int .u64 150]]).run Tryz.prog W
      = .ok (.agg #[.pointer (some ⟨7, 131, none⟩), .pointer (some p), .int .u64 406]) W := by
  rw [rlm]
  simp only [Sem.run_bind, fa_parts27, Result.andThen]
  simp [ReflectliteValue.elem, loadVar, isAgg, underlying, Tryz.underlying133, ha, Result.andThen, fa_elemOf27, fa_mk25]
theorem rls (v x : Value) : ReflectliteValue.set #[v, x] = (do
    let (some (dst, a, fl), some (src, b, _)) := (← ReflectliteValue.parts v, ← ReflectliteValue.parts x)
      | unsupported (.noEntry "extern/(internal/reflectlite.Value).Set.zeroValue")
    if fl / ReflectliteValue.flagAddr % 2 == 0 then unsupported (.noEntry "extern/(internal/reflectlite.Value).Set.unaddressable")
    let val ← loadVar src b
    if ← Rtype.directlyAssignable dst src then storeVar dst a val
    else if ← Rtype.implements dst src then
      if (← Rtype.kind src) == 20 then
        match val with
        | .nilIface => unsupported (.noEntry "extern/reflectlite: a nil value of one interface type handed on as a value of another")
        | _ => storeVar dst a val
      else storeVar dst a (.iface src val)
    else panicString ("reflectlite.Set: value of type " ++ (← Rtype.spelt src) ++ " is not assignable to type " ++ (← Rtype.spelt dst))
    pure (.tuple #[])) := rfl
theorem fa_parts25a (a : Addr) (w : World) : (ReflectliteValue.parts (.agg #[.pointer (some ⟨7, 131, none⟩), .pointer (some a), .int .u64 406])).run Tryz.prog w = .ok (some (131, a, 406)) w := by kernel_rfl
theorem fa_parts25 (a : Addr) (w : World) : (ReflectliteValue.parts (.agg #[.pointer (some ⟨7, 131, none⟩), .pointer (some a), .int .u64 150])).run Tryz.prog w = .ok (some (131, a, 150)) w := by kernel_rfl
theorem fa_direct25 (w : World) : (Rtype.directlyAssignable 131 131).run Tryz.prog w = .ok true w := by kernel_rfl
theorem fa_set25 (ta b e : Addr) (old : Value) (W : World) (hb : W.cell? b = some (.pointer (some e))) (ht : W.cell? ta = some old) (hf : W.frozen? ta = false) :
    (ReflectliteValue.set #[.agg #[.pointer (some ⟨7, 131, none⟩), .pointer (some ta), .int .u64 406], .agg #[.pointer (some ⟨7, 131, none⟩), .pointer (some b), .int .u64 150]]).run Tryz.prog W
      = .ok (.tuple #[]) (W.setCell ta (.pointer (some e))) := by
  rw [rls]
  simp only [Sem.run_bind, fa_parts25a, fa_parts25, Result.andThen]
  simp [ReflectliteValue.flagAddr, loadVar, isAgg, underlying, Tryz.underlying131, hb, Result.andThen, fa_direct25, storeVar, Value.cells, storeCells, Addr.add]
  rw [run_store Tryz.prog W ta _ _ (by rfl)]
  simp [ht, hf]

set_option maxHeartbeats 4000000 in
set_option maxRecDepth 100000 in
theorem as_hit (e t : Addr) (old : Value) (w : World) (hg : w.cell? ⟨4, 0, none⟩ = some (.iface 181 (.agg #[.pointer (some ⟨7, 127, none⟩)]))) (ht0 : w.cell? t = some old) (hf0 : w.frozen? t = false) :
    Calls Tryz.prog 82 #[.iface 131 (.pointer (some e)), .iface 133 (.pointer (some t))] w fun ev w' => ev = .returned (.bool true) ∧ w' = ((((w.alloc (.cells #[.pointer (some t)] 133)).alloc (.cells #[.pointer (some ⟨7, 133, none⟩), .pointer (some ⟨w.heap.size, 0, none⟩), .int .u64 150] 152)).alloc (.cells #[.pointer (some ⟨7, 133, none⟩), .pointer (some ⟨w.heap.size, 0, none⟩), .int .u64 150] 152)).alloc (.cells #[.pointer (some e)] 131)).setCell t (.pointer (some e)) := by
  have h6 := @run_callFunc_extern Tryz.prog 99 _ (fun args => ReflectliteValue.unpack (args.getD 0 (.tuple #[]))) Tryz.func99 (by kernel_rfl) (by kernel_rfl) (by kernel_rfl) (by kernel_rfl)
  have h7 := @run_callFunc_extern Tryz.prog 100 _ (ReflectliteValue.methodAny (ReflectliteValue.valueError "reflectlite.Value.Type" 0) (fun t _ _ _ => ReflectliteType.toType t)) Tryz.func100 (by kernel_rfl) (by kernel_rfl) (by kernel_rfl) (by kernel_rfl)
  have h8 := @run_callFunc_extern Tryz.prog 101 _ (ReflectliteValue.method (ReflectliteValue.valueError "reflectlite.Value.IsNil" 0) ReflectliteValue.isNil) Tryz.func101 (by kernel_rfl) (by kernel_rfl) (by kernel_rfl) (by kernel_rfl)
  have h27 := @run_callFunc_extern Tryz.prog 150 _ (ReflectliteType.abiMethod fun t => do pure (.int .u8 (← Rtype.kind t))) Tryz.func150 (by kernel_rfl) (by kernel_rfl) (by kernel_rfl) (by kernel_rfl)
  have h37 := @run_callFunc_extern Tryz.prog 162 _ (ReflectliteType.method ReflectliteType.elem) Tryz.func162 (by kernel_rfl) (by kernel_rfl) (by kernel_rfl) (by kernel_rfl)
  have h38 := @run_callFunc_extern Tryz.prog 163 _ (ReflectliteType.relation "Implements" ReflectliteType.implements_) Tryz.func163 (by kernel_rfl) (by kernel_rfl) (by kernel_rfl) (by kernel_rfl)
  have h10 := @run_callFunc_extern Tryz.prog 115 _ ReflectliteType.typeOf Tryz.func115 (by kernel_rfl) (by kernel_rfl) (by kernel_rfl) (by kernel_rfl)
  have h35 := @run_callFunc_extern Tryz.prog 160 _ (ReflectliteType.relation "AssignableTo" ReflectliteType.assignableTo) Tryz.func160 (by kernel_rfl) (by kernel_rfl) (by kernel_rfl) (by kernel_rfl)
  have h11 := @run_callFunc_extern Tryz.prog 117 _ (ReflectliteValue.method (ReflectliteValue.valueError "reflectlite.Value.Elem" 0) ReflectliteValue.elem) Tryz.func117 (by kernel_rfl) (by kernel_rfl) (by kernel_rfl) (by kernel_rfl)
  have h12 := @run_callFunc_extern Tryz.prog 118 _ ReflectliteValue.set Tryz.func118 (by kernel_rfl) (by kernel_rfl) (by kernel_rfl) (by kernel_rfl)
  have tO := fa_typeOf25
  have mA := fa_methodAssignableTo
  have a25 := fa_assignable25
  have v25 := fa_valueOf25
  have f6 := fa_valueOf27
  have f7 := fa_type27
  have mK := fa_methodKind
  have mE := fa_methodElem
  have mI := fa_methodImplements
  have k27 := fa_kind27
  have k25 := fa_kind25
  have e27 := fa_elem27
  have i25 := fa_implements25
  have n8 := fa_isNil27 ⟨w.heap.size, 0, none⟩ t ((w.alloc (.cells #[.pointer (some t)] 133)).alloc (.cells #[.pointer (some ⟨7, 133, none⟩), .pointer (some ⟨w.heap.size, 0, none⟩), .int .u64 150] 152)) (by simp)
  have hlt : 4 < w.heap.size := by
    rcases Nat.lt_or_ge 4 w.heap.size with h | h
    · exact h
    · simp [World.cell?, Array.getElem?_eq_none h] at hg
  have hg2 : ((w.alloc (.cells #[.pointer (some t)] 133)).alloc (.cells #[.pointer (some ⟨7, 133, none⟩), .pointer (some ⟨w.heap.size, 0, none⟩), .int .u64 150] 152)).cell? ⟨4, 0, none⟩ = some (.iface 181 (.agg #[.pointer (some ⟨7, 127, none⟩)])) := by
    rw [World.cell?_alloc_lt _ _ ⟨4, 0, none⟩ (by simp; omega), World.cell?_alloc_lt _ _ ⟨4, 0, none⟩ hlt]; exact hg
  have htl : t.block < w.heap.size := by
    rcases Nat.lt_or_ge t.block w.heap.size with h | h
    · exact h
    · simp [World.cell?, Array.getElem?_eq_none h] at ht0
  have el := fa_elemV27 ⟨w.heap.size, 0, none⟩ t (((w.alloc (.cells #[.pointer (some t)] 133)).alloc (.cells #[.pointer (some ⟨7, 133, none⟩), .pointer (some ⟨w.heap.size, 0, none⟩), .int .u64 150] 152)).alloc (.cells #[.pointer (some ⟨7, 133, none⟩), .pointer (some ⟨w.heap.size, 0, none⟩), .int .u64 150] 152)) (by rw [World.cell?_alloc_lt _ _ ⟨w.heap.size, 0, none⟩ (by simp; omega)]; simp)
  have st := fa_set25 t ⟨w.heap.size + 1 + 1 + 1, 0, none⟩ e old ((((w.alloc (.cells #[.pointer (some t)] 133)).alloc (.cells #[.pointer (some ⟨7, 133, none⟩), .pointer (some ⟨w.heap.size, 0, none⟩), .int .u64 150] 152)).alloc (.cells #[.pointer (some ⟨7, 133, none⟩), .pointer (some ⟨w.heap.size, 0, none⟩), .int .u64 150] 152)).alloc (.cells #[.pointer (some e)] 131))
    (by rw [World.cell?_alloc_at _ _ _ _ (by simp)]; rfl)
    (by rw [World.cell?_alloc_lt _ _ t (by simp; omega), World.cell?_alloc_lt _ _ t (by simp; omega), World.cell?_alloc_lt _ _ t (by simp; omega), World.cell?_alloc_lt _ _ t htl]; exact ht0)
    (by rw [World.frozen?_alloc_old _ _ t (by simp; omega), World.frozen?_alloc_old _ _ t (by simp; omega), World.frozen?_alloc_old _ _ t (by simp; omega), World.frozen?_alloc_old _ _ t (Nat.ne_of_lt htl)]; exact hf0)
  go_enter Tryz.func82, Tryz.ntmps82
  go_wp2
  refine wp_loop_rounds 1 ?_
  rw [rounds_succ]
  go_wp2
  go_ret
  exact ⟨rfl, rfl⟩
end Go.Proofs.YtikigaeihdmcaaaGreatDoor

