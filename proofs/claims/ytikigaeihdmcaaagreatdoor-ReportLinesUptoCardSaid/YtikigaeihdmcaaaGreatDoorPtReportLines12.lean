import Derived.Test.YtikigaeihdmcaaaGreatDoorPtReportLines11
/-
  ctl.Parse, walked: a word.
-/
set_option linter.unusedVariables false
set_option linter.unusedSimpArgs false
namespace Go.Proofs.YtikigaeihdmcaaaGreatDoor
open Go.RowKit

theorem GL.zero {B : Nat} {w : World} (k n : Int) : GL B w (ltlV k n none 0 0) (.mk k n []) := Rd.mkLtl (kids := []) (Sl.zero _ _)
set_option maxHeartbeats 1000000 in
theorem cword_ok (w0 : World) {rb : Nat} {s : Bys} {no : Option Addr} {nc : Nat} {nms : List ByteArray} {o : Nat} {st : Bys × Bys} (hr : Rdr 139 w0 rb s no nc nms o st) (hs : s.length ≤ 300) :
    Rt Tryz.prog 131 [.pointer (some ⟨rb, 0, none⟩)].toArray w0 fun v w' => PRs 139 rb s no nc nms o w0.heap.size (wordR nms s.length st) v w' ∧ w0.grownBy w' (some rb) := by
  have hrl := hr.lt
  refine Rt.enter1 Tryz.func131 Tryz.ntmps131 rfl rfl ?_
  (repeat (first | (apply CW.seq) | (apply CW.region)))
  refine WL.alloc rfl rfl (fun w1 hb2 e1 => ?_)
  (repeat (first | (apply WL.pure; rfl; rfl; rfl) | (apply WL.nil) | (apply EX.thenN) | (apply CW.seq) | (apply CW.region)))
  refine WL.build rfl rfl rfl rfl ?_
  refine WL.alloc rfl rfl (fun w2 hb4 e2 => ?_)
  have h24 := hb2.lt
  have hb2 := hb2.ext e2
  have hE2 := e1.trans e2
  have l4 := hb4.lt
  generalize hB4 : w1.heap.size = b4 at *
  skip
  refine WL.st rfl rfl rfl hb4 rfl rfl (ones_of rfl) (fun w3 hb43 hg3 => ?_)
  have hb2 := hb2.kept hg3 (fun e => by have := Option.some.inj e; omega)
  have hG := grown_new (hE2.grw (some rb)) hg3 (by omega)
  have hr3 := (hr.ext hE2).kept hg3 (fun b e => by cases e; omega)
  have hrb := hr3.blk
  clear hb4 hg3 e1 e2 hr
  have e1 : ∀ l : Bys, ((txA st.1).data.toList == l) = decide (st.1 = l) := fun l => by rw [txA_list, Bool.eq_iff_iff]; simp
  have tT : (ByteArray.mk #[116, 114, 117, 101]).data.toList = tTrue := rfl
  have tF : (ByteArray.mk #[102, 97, 108, 115, 101]).data.toList = tFalse := rfl
  have tS : (ByteArray.mk #[115, 105, 108, 101, 110, 116]).data.toList = tSil := rfl
  (repeat (first | (apply WL.pure; rfl; rfl; rfl) | (apply WL.nil) | (apply EX.thenN) | (apply CW.seq) | (apply CW.region) | (apply WL.fa; rfl; rfl; rfl) | (apply WL.nck; rfl; rfl; rfl) | (apply WL.ld; rfl; rfl; rfl; assumption; rfl) | (apply CW.block)))
  rw [e1, tT]
  refine CW.cond rfl (fun h => ?_) (fun h => ?_)
  · have h1 : st.1 = tTrue := of_decide_eq_true h
    (repeat (first | (apply CW.region) | (apply WL.fa; rfl; rfl; rfl)))
    refine WL.st rfl rfl rfl hb43 rfl rfl (ones_of rfl) (fun w4 hb44 hg4 => ?_)
    have hb2 := hb2.kept hg4 (fun e => by have := Option.some.inj e; omega)
    have hG := grown_new hG hg4 (by omega)
    have hr4 := hr3.kept hg4 (fun b e => by cases e; omega)
    (repeat (first | (apply WL.pure; rfl; rfl; rfl) | (apply WL.nil) | (apply EX.thenN) | (apply CW.seq) | (apply CW.region) | (apply EX.inN)))
    refine WL.call rfl rfl rfl (cnext_ok w4 hr4 hs) ?_
    rintro _ w5 ⟨hr5, hg5⟩
    have hb2 := hb2.kept hg5 (fun e => by have := Option.some.inj e; omega)
    have hb45 := hb44.kept hg5 (fun e => by have := Option.some.inj e; omega)
    have hG := grown_tr hG hg5
    (repeat (first | (apply WL.nil) | (apply EX.thenN) | (apply CW.seq) | (apply CW.region) | (apply WL.ldA; rfl; rfl; rfl; assumption; rfl)))
    refine WL.st rfl rfl rfl hb2 rfl rfl (ones_of rfl) (fun w6 hb26 hg6 => ?_)
    (repeat (first | (apply WL.pure; rfl; rfl; rfl) | (apply WL.nil) | (apply EX.thenN) | (apply CW.ret)))
    refine EX.retC2 rfl rfl rfl hb26 rfl ⟨?_, grown_new hG hg6 (Nat.le_refl _)⟩
    unfold wordR
    rw [if_pos h1]
    exact ⟨_, _, _, _, rfl, GL.zero 1 0, hr5.kept hg6 (fun b e => by cases e; omega), .inl ⟨rfl, rfl⟩⟩
  have h1 : ¬ st.1 = tTrue := of_decide_eq_false h
  clear h
  (repeat (first | (apply WL.pure; rfl; rfl; rfl) | (apply WL.nil) | (apply EX.thenN) | (apply CW.seq) | (apply CW.region)))
  rw [e1, tF]
  refine CW.cond rfl (fun h => ?_) (fun h => ?_)
  · have h2 : st.1 = tFalse := of_decide_eq_true h
    (repeat (first | (apply CW.region) | (apply WL.fa; rfl; rfl; rfl)))
    refine WL.st rfl rfl rfl hb43 rfl rfl (ones_of rfl) (fun w4 hb44 hg4 => ?_)
    have hb2 := hb2.kept hg4 (fun e => by have := Option.some.inj e; omega)
    have hG := grown_new hG hg4 (by omega)
    have hr4 := hr3.kept hg4 (fun b e => by cases e; omega)
    (repeat (first | (apply WL.pure; rfl; rfl; rfl) | (apply WL.nil) | (apply EX.thenN) | (apply CW.seq) | (apply CW.region) | (apply EX.inN)))
    refine WL.call rfl rfl rfl (cnext_ok w4 hr4 hs) ?_
    rintro _ w5 ⟨hr5, hg5⟩
    have hb2 := hb2.kept hg5 (fun e => by have := Option.some.inj e; omega)
    have hb45 := hb44.kept hg5 (fun e => by have := Option.some.inj e; omega)
    have hG := grown_tr hG hg5
    (repeat (first | (apply WL.nil) | (apply EX.thenN) | (apply CW.seq) | (apply CW.region) | (apply WL.ldA; rfl; rfl; rfl; assumption; rfl)))
    refine WL.st rfl rfl rfl hb2 rfl rfl (ones_of rfl) (fun w6 hb26 hg6 => ?_)
    (repeat (first | (apply WL.pure; rfl; rfl; rfl) | (apply WL.nil) | (apply EX.thenN) | (apply CW.ret)))
    refine EX.retC2 rfl rfl rfl hb26 rfl ⟨?_, grown_new hG hg6 (Nat.le_refl _)⟩
    unfold wordR
    rw [if_neg h1, if_pos h2]
    exact ⟨_, _, _, _, rfl, GL.zero 2 0, hr5.kept hg6 (fun b e => by cases e; omega), .inl ⟨rfl, rfl⟩⟩
  have h2 : ¬ st.1 = tFalse := of_decide_eq_false h
  clear h
  (repeat (first | (apply WL.pure; rfl; rfl; rfl) | (apply WL.nil) | (apply EX.thenN) | (apply CW.seq) | (apply CW.region)))
  rw [e1, tS]
  refine CW.cond rfl (fun h => ?_) (fun h => ?_)
  · have h3 : st.1 = tSil := of_decide_eq_true h
    (repeat (first | (apply CW.region) | (apply WL.fa; rfl; rfl; rfl)))
    refine WL.st rfl rfl rfl hb43 rfl rfl (ones_of rfl) (fun w4 hb44 hg4 => ?_)
    have hb2 := hb2.kept hg4 (fun e => by have := Option.some.inj e; omega)
    have hG := grown_new hG hg4 (by omega)
    have hr4 := hr3.kept hg4 (fun b e => by cases e; omega)
    (repeat (first | (apply WL.pure; rfl; rfl; rfl) | (apply WL.nil) | (apply EX.thenN) | (apply CW.seq) | (apply CW.region) | (apply EX.inN)))
    refine WL.call rfl rfl rfl (cnext_ok w4 hr4 hs) ?_
    rintro _ w5 ⟨hr5, hg5⟩
    have hb2 := hb2.kept hg5 (fun e => by have := Option.some.inj e; omega)
    have hb45 := hb44.kept hg5 (fun e => by have := Option.some.inj e; omega)
    have hG := grown_tr hG hg5
    (repeat (first | (apply WL.nil) | (apply EX.thenN) | (apply CW.seq) | (apply CW.region) | (apply WL.ldA; rfl; rfl; rfl; assumption; rfl)))
    refine WL.st rfl rfl rfl hb2 rfl rfl (ones_of rfl) (fun w6 hb26 hg6 => ?_)
    (repeat (first | (apply WL.pure; rfl; rfl; rfl) | (apply WL.nil) | (apply EX.thenN) | (apply CW.ret)))
    refine EX.retC2 rfl rfl rfl hb26 rfl ⟨?_, grown_new hG hg6 (Nat.le_refl _)⟩
    unfold wordR
    rw [if_neg h1, if_neg h2, if_pos h3]
    exact ⟨_, _, _, _, rfl, GL.zero 3 63, hr5.kept hg6 (fun b e => by cases e; omega), .inl ⟨rfl, rfl⟩⟩
  have h3 : ¬ st.1 = tSil := of_decide_eq_false h
  clear h e1 tT tF tS
  (repeat (apply CW.seq))
  have hD := Ext.drew w3
  have hrd := hr3.ext hD
  have hrbd := hrd.blk
  have hb2d := hb2.ext hD
  have hb4d := hb43.ext hD
  have hGd := grown_tr hG (hD.grw _)
  refine CW.drawH (fun z : World => Blk z rb 139 [tV s, .slice no nms.length nc, tV st.1, .int .i64 (atT s.length st : Int), .int .i64 ((s.length - st.2.length : Nat) : Int), .int .i64 (o : Int)]) [(0, true), (1, true), (2, true), (3, true), (4, true), (5, true), (6, true), (7, true), (8, false), (9, true), (10, false)] mixed (by kernel_rfl) hrbd ?_
  clear hr3 hrb hb2 hb43 hG
  (repeat (first | (apply HL.pure; rfl; rfl; rfl; rfl) | (refine HL.fa rfl rfl rfl rfl ?_) | (apply HL.nck; rfl; rfl; rfl; rfl)))
  refine HL.ldS (fun z hz => hz) rfl rfl rfl rfl rfl ?_
  (repeat (first | (apply HL.pure; rfl; rfl; rfl; rfl) | (refine HL.fa rfl rfl rfl rfl ?_) | (apply HL.nck; rfl; rfl; rfl; rfl)))
  refine HL.ldS (fun z hz => hz) rfl rfl rfl rfl rfl ?_
  refine HL.mut rfl (WL.call rfl rfl rfl (index_str (drew w3) (txA st.1) (hrd.nm.mono (fun _ _ => rfl) fun b hb => by have := hrd.lt; show b < _; omega)) ?_)
  rintro _ w4 ⟨rfl, rfl⟩
  rw [idxB_of, txA_list]
  refine WL.nil (EX.mut hrbd ?_)
  (repeat (refine HL.fa rfl rfl rfl rfl ?_))
  refine HL.mut rfl (WL.st rfl rfl rfl hb4d rfl rfl (ones_of rfl) (fun w4 hb44 hg4 => ?_))
  have hr4 := hrd.kept hg4 (fun b e => by cases e; omega)
  have hrb := hr4.blk
  refine WL.nil (EX.mut hrb ?_)
  have hb2 := hb2d.kept hg4 (fun e => by have := Option.some.inj e; omega)
  have hG := grown_new hGd hg4 (by omega)
  clear hb4d hb2d hGd hrbd hrd hg4 hD
  (repeat (first | (apply HL.nil) | (apply EX.thenN)))
  refine CW.cutE [(0, .pointer (some ⟨rb, 0, none⟩)), (2, .pointer (some ⟨w0.heap.size, 0, none⟩)), (4, .pointer (some ⟨b4, 0, none⟩)), (35, .bool (decide (idxB nms st.1 < 0 ∨ idxB nms st.1 ≥ 63 ∨ namedL st.1 = false)))] ?_ ?_
  · (repeat (first | (apply WL.pure; rfl; rfl; rfl) | (apply CW.region) | (apply WL.fa; rfl; rfl; rfl) | (apply WL.ld; rfl; rfl; rfl; assumption; rfl)))
    (refine WL.lookG rfl rfl (fun h => ?_) (fun h => ?_))
    · have h : idxB nms st.1 < 0 := by simpa using h
      (repeat (first | (apply WL.pure; rfl; rfl; rfl) | (apply WL.nil) | (apply WL.pass; rfl; rfl)))
      exact EX.cutE ⟨rfl, rfl, rfl, congrArg (fun b => some (Value.bool b)) (show true = _ from (decide_eq_true (Or.inl h)).symm), trivial⟩ (Ext.refl _)
    have h4 : ¬ idxB nms st.1 < 0 := by simpa using h
    clear h
    (repeat (first | (apply WL.pure; rfl; rfl; rfl) | (apply WL.fa; rfl; rfl; rfl) | (apply WL.ld; rfl; rfl; rfl; assumption; rfl)))
    (refine WL.lookG rfl rfl (fun h => ?_) (fun h => ?_))
    · have h : idxB nms st.1 ≥ 63 := by simpa using h
      (repeat (first | (apply WL.pure; rfl; rfl; rfl) | (apply WL.nil) | (apply WL.pass; rfl; rfl)))
      exact EX.cutE ⟨rfl, rfl, rfl, congrArg (fun b => some (Value.bool b)) (show true = _ from (decide_eq_true (Or.inr (Or.inl h))).symm), trivial⟩ (Ext.refl _)
    have h5 : ¬ idxB nms st.1 ≥ 63 := by simpa using h
    clear h
    (repeat (first | (apply WL.pure; rfl; rfl; rfl) | (apply WL.fa; rfl; rfl; rfl) | (apply WL.nck; rfl; rfl; rfl) | (apply WL.ld; rfl; rfl; rfl; assumption; rfl)))
    refine WL.call rfl rfl rfl (Named_ok w4 (txA st.1)) ?_
    rintro _ w5 ⟨rfl, e5⟩
    (repeat (first | (apply WL.pure; rfl; rfl; rfl) | (apply WL.nil)))
    refine EX.cutE ⟨rfl, rfl, rfl, ?_, trivial⟩ e5
    refine congrArg (fun b => some (Value.bool b)) ?_
    have : namedB (txA st.1) = namedL st.1 := by unfold namedB; rw [txA_list]
    rw [this, Bool.eq_iff_iff]
    simp [h4, h5]
  rintro w5 e5
  have hr5 := hr4.ext e5
  have hb45 := hb44.ext e5
  have hb2 := hb2.ext e5
  have hG := grown_tr hG (e5.grw _)
  clear hr4 hb44
  have hw : wordR nms s.length st = if idxB nms st.1 < 0 ∨ idxB nms st.1 ≥ 63 ∨ namedL st.1 = false then .er 4 (atT s.length st) else .ok (.mk 3 (idxB nms st.1) []) (nxT st.2) := by
    unfold wordR
    rw [if_neg h1, if_neg h2, if_neg h3]
  rw [hw]
  refine CW.cond rfl (fun h => ?_) (fun h => ?_)
  · rw [if_pos (of_decide_eq_true h)]
    (repeat (first | (apply CW.seq) | (apply CW.region)))
    refine WL.build (parts := []) rfl rfl rfl rfl ?_
    (repeat (apply WL.pure; rfl; rfl; rfl))
    refine WL.call rfl rfl rfl (cwrong_ok w5 hr5 4) ?_
    rintro _ w6 ⟨rfl, hf6, e6⟩
    have hb2 := hb2.ext e6
    have hr6 := hr5.ext e6
    have hG := grown_tr hG (e6.grw _)
    have l5 : w0.heap.size ≤ w5.heap.size := by have := hb45.lt; omega
    have l5' : w0.heap.size < w5.heap.size := by have := hb45.lt; omega
    skip
    refine WL.st rfl rfl rfl hb2 rfl rfl (ones_of rfl) (fun w7 hb27 hg7 => ?_)
    (repeat (first | (apply WL.pure; rfl; rfl; rfl) | (apply WL.nil) | (apply EX.thenN) | (apply CW.ret) | (apply EX.thenR) | (apply EX.inR)))
    refine EX.retC2 rfl rfl rfl hb27 rfl ⟨?_, grown_new hG hg7 (Nat.le_refl _)⟩
    exact ⟨_, _, _, st, rfl, GL.zero 0 0, hr6.kept hg7 (fun b e => by cases e; omega), .inr ⟨_, _, rfl, _, rfl, l5, hf6.kept hg7 (fun e => by have := Option.some.inj e; omega)⟩⟩
  · rw [if_neg (of_decide_eq_false h)]
    (repeat (first | (apply WL.pure; rfl; rfl; rfl) | (apply EX.thenN) | (apply CW.seq) | (apply CW.region) | (apply EX.inN) | (apply CW.skip)))
    refine WL.call rfl rfl rfl (cnext_ok w5 hr5 hs) ?_
    rintro _ w6 ⟨hr6, hg6⟩
    have hb2 := hb2.kept hg6 (fun e => by have := Option.some.inj e; omega)
    have hb46 := hb45.kept hg6 (fun e => by have := Option.some.inj e; omega)
    have hG := grown_tr hG hg6
    (repeat (first | (apply WL.nil) | (apply EX.thenN) | (apply CW.seq) | (apply CW.region) | (apply WL.ldA; rfl; rfl; rfl; assumption; rfl)))
    refine WL.st rfl rfl rfl hb2 rfl rfl (ones_of rfl) (fun w7 hb27 hg7 => ?_)
    (repeat (first | (apply WL.pure; rfl; rfl; rfl) | (apply WL.nil) | (apply EX.thenN) | (apply CW.ret)))
    refine EX.retC2 rfl rfl rfl hb27 rfl ⟨?_, grown_new hG hg7 (Nat.le_refl _)⟩
    exact ⟨_, _, _, _, rfl, GL.zero 3 _, hr6.kept hg7 (fun b e => by cases e; omega), .inl ⟨rfl, rfl⟩⟩
end Go.Proofs.YtikigaeihdmcaaaGreatDoor

/-
  ctl.Parse, walked: rows of parts.
-/
set_option linter.unusedVariables false
set_option linter.unusedSimpArgs false
namespace Go.Proofs.YtikigaeihdmcaaaGreatDoor
open Go.RowKit

def mT (st : Bys × Bys) : Nat := st.1.length + st.2.length
theorem mT_nx (st : Bys × Bys) : mT (nxT st.2) ≤ st.2.length := nxT_len st.2
theorem mT_nx1 {st : Bys × Bys} (h : st.1 ≠ []) : mT (nxT st.2) + 1 ≤ mT st := by
  have := mT_nx st
  have : 0 < st.1.length := List.length_pos_iff.2 h
  unfold mT at *
  omega
theorem word_mono {nms : List ByteArray} {N : Nat} {st st' : Bys × Bys} {f : Ltl} (h : wordR nms N st = .ok f st') : mT st' ≤ mT st := by
  have h1 := mT_nx st
  have h2 : st.2.length ≤ mT st := by unfold mT; omega
  unfold wordR at h
  split at h
  · cases h; omega
  split at h
  · cases h; omega
  split at h
  · cases h; omega
  split at h
  · cases h
  · cases h; omega
theorem c_mono (nms : List ByteArray) (N : Nat) : ∀ n,
    (∀ o left st f st', cFor nms N n o left st = .ok f st' → mT st' ≤ mT st) ∧ (∀ lv o st f st', cRow nms N n lv o st = .ok f st' → mT st' ≤ mT st) ∧
    (∀ lv o g st f st', cRowL nms N n lv o g st = .ok f st' → mT st' ≤ mT st) ∧ (∀ lv o st f st', cPart nms N n lv o st = .ok f st' → mT st' ≤ mT st) ∧
    (∀ a o st f st', cWays nms N n a o st = .ok f st' → mT st' ≤ mT st) ∧ (∀ k o st f st', cUnt nms N n k o st = .ok f st' → mT st' ≤ mT st) ∧ (∀ o st f st', cSin nms N n o st = .ok f st' → mT st' ≤ mT st)
  | 0 => by refine ⟨?_, ?_, ?_, ?_, ?_, ?_, ?_⟩ <;> (intros; rename_i h; first | (unfold cFor at h; cases h) | (unfold cRow at h; cases h) | (unfold cRowL at h; cases h) | (unfold cPart at h; cases h) | (unfold cWays at h; cases h) | (unfold cUnt at h; cases h) | (unfold cSin at h; cases h))
  | n + 1 => by
    obtain ⟨i1, i2, i3, i4, i5, i6, i7⟩ := c_mono nms N n
    have hn : ∀ st : Bys × Bys, mT (nxT st.2) ≤ mT st := fun st => by have := mT_nx st; have : st.2.length ≤ mT st := by (unfold mT; omega)
                                                                      omega
    refine ⟨fun o left st f st' h => ?_, fun lv o st f st' h => ?_, fun lv o g st f st' h => ?_, fun lv o st f st' h => ?_, fun a o st f st' h => ?_, fun k o st f st' h => ?_, fun o st f st' h => ?_⟩
    · unfold cFor at h
      split at h
      · cases h
      · rename_i g s1 e
        have h1 := i2 _ _ _ _ _ e
        split at h
        · exact Nat.le_trans (i1 _ _ _ _ _ h) (Nat.le_trans (hn _) h1)
        · cases h; exact h1
    · unfold cRow at h
      split at h
      · cases h
      · rename_i g s1 e
        exact Nat.le_trans (i3 _ _ _ _ _ _ h) (i4 _ _ _ _ _ e)
    · unfold cRowL at h
      split at h
      · split at h
        · cases h
        · rename_i g s1 e
          exact Nat.le_trans (i3 _ _ _ _ _ _ h) (Nat.le_trans (i4 _ _ _ _ _ e) (hn _))
      · cases h; exact Nat.le_refl _
    · cases lv
      · unfold cPart at h; exact i7 _ _ _ _ h
      · unfold cPart at h; exact i2 _ _ _ _ _ h
    · unfold cWays at h
      split at h
      · exact i6 _ _ _ _ _ h
      split at h
      · cases h
      split at h
      · cases h
      · rename_i g s1 e
        cases h
        exact Nat.le_trans (i7 _ _ _ _ e) (hn _)
    · unfold cUnt at h
      split at h
      · cases h
      · rename_i g s1 e
        have h1 := Nat.le_trans (i1 _ _ _ _ _ e) (hn _)
        split at h
        · split at h
          · cases h
          · rename_i g2 s2 e2
            split at h
            · cases h
              exact Nat.le_trans (hn _) (Nat.le_trans (i1 _ _ _ _ _ e2) (Nat.le_trans (hn _) h1))
            · cases h
        · cases h
    · unfold cSin at h
      split at h
      · split at h
        · cases h
        split at h
        · cases h
        · rename_i g s1 e
          cases h
          exact Nat.le_trans (i7 _ _ _ _ e) (hn _)
      split at h
      · split at h
        · cases h
        · exact Nat.le_trans (i5 _ _ _ _ _ h) (hn _)
      split at h
      · split at h
        · cases h
        · exact Nat.le_trans (i5 _ _ _ _ _ h) (hn _)
      split at h
      · split at h
        · cases h
        split at h
        · cases h
        · rename_i g s1 e
          have h1 := Nat.le_trans (i1 _ _ _ _ _ e) (hn _)
          split at h
          · cases h; exact Nat.le_trans (hn _) h1
          · cases h
      split at h
      · cases h
      · exact word_mono h
def cl : Bool → Nat | true => 4 | false => 2
theorem sgR_ne (lv : Bool) : sgR lv ≠ [] := by cases lv <;> decide
theorem GX.wk {B r : Nat} {X : List Nat} {w : World} {v : Value} {t : Ltl} (h : GX B (r :: X) w v t) : GX B X w v t := Rd.wk h (fun b hb => ⟨hb.1, hb.2.1, fun hm => hb.2.2 (List.mem_cons_of_mem _ hm)⟩)
theorem HF.wk {T : TypeId} {w : World} {b B r : Nat} {X : List Nat} {t : Ltl} (h : HF T w b B (r :: X) t) : HF T w b B X t := by
  obtain ⟨uo, uc, h1, h2⟩ := h.gx
  exact HF.of h1 h2.wk
instance iCRd11 : IsIf Tryz.prog 127 := ⟨by kernel_rfl⟩
/-- a function that reads a part -/
def PartF (rb : Nat) (s : Bys) (no : Option Addr) (nc : Nat) (nms : List ByteArray) (o : Nat) (fv : Value) (c : Nat) (rd : Nat → Bys × Bys → PR) (n : Nat) : Prop :=
  ∀ m, m ≤ n → ∀ (st : Bys × Bys) (w : World), Rdr 139 w rb s no nc nms o st → 10 * mT st + c ≤ m → FnV Tryz.prog fv [] w fun v w' => PRs 139 rb s no nc nms o w.heap.size (rd m st) v w' ∧ w.grownBy w' (some rb)
set_option maxHeartbeats 1000000 in
theorem crow_ok (lv : Bool) (n : Nat) (w0 : World) {rb : Nat} {s : Bys} {no : Option Addr} {nc : Nat} {nms : List ByteArray} {o : Nat} {st : Bys × Bys} (hr : Rdr 139 w0 rb s no nc nms o st) (hs : s.length ≤ 300) {fv : Value}
    (hf : PartF rb s no nc nms o fv (cl lv) (fun m st => cPart nms s.length m lv o st) n) (hn : 10 * mT st + cl lv ≤ n) :
    Rt Tryz.prog 107 [.pointer (some ⟨rb, 0, none⟩), .int .i64 (knR lv), tV (sgR lv), fv].toArray w0 fun v w' => PRs 139 rb s no nc nms o w0.heap.size (cRow nms s.length (n + 1) lv o st) v w' ∧ w0.grownBy w' (some rb) := by
  have hrl := hr.lt
  refine Rt.enter4 Tryz.func107 Tryz.ntmps107 rfl rfl ?_
  (repeat (first | (apply CW.seq) | (apply CW.region)))
  refine WL.alloc rfl rfl (fun w1 hb8 e1 => ?_)
  have l8 := hb8.lt
  have hr1 := hr.ext e1
  (repeat (first | (apply WL.pure; rfl; rfl; rfl) | (apply WL.nil) | (apply EX.thenN) | (apply CW.seq) | (apply CW.region)))
  refine WL.callF (xs := []) (vs := []) rfl rfl rfl rfl (hf n (Nat.le_refl _) st w1 hr1 hn) ?_
  rintro _ w2 ⟨⟨x, e, t, st1, rfl, hx, hr2, hE2⟩, hg2⟩
  have hm2 : ∀ f st', cPart nms s.length n lv o st = .ok f st' → mT st' ≤ mT st := fun f st' h => (c_mono nms s.length n).2.2.2.1 _ _ _ _ _ h
  have hb8 := hb8.kept hg2 (fun e => by have := Option.some.inj e; omega)
  have hG := grown_tr (e1.grw (some rb)) hg2
  have z2 := hg2.size
  have hx : GX w0.heap.size [w0.heap.size] w2 x t := GX.of hx (Nat.le_of_lt l8) (fun r hr => by rw [List.mem_singleton.1 hr]; exact l8)
  have hE2 : ErP w2 w0.heap.size (cPart nms s.length n lv o st) e t st1 := hE2.low (Nat.le_of_lt l8)
  obtain ⟨uo, uc, rfl, hk⟩ := Rd.ltl hx
  (repeat (apply WL.pure; rfl; rfl; rfl))
  refine WL.alloc rfl rfl (fun w3 hb10 e3 => ?_)
  have hx := hx.add e3 (Nat.le_refl _)
  have hb8 := hb8.ext e3
  have hr3 := hr2.ext e3
  have hE3 := hE2.ext e3
  have hG := grown_tr hG (e3.grw (some rb))
  skip
  refine WL.st rfl rfl rfl hb10 rfl rfl (ones_of rfl) (fun w4 hb104 hg4 => ?_)
  have hx := hx.st hg4 (.inr (List.mem_cons_self ..))
  have hH := HF.of hb104 hx
  have hb8 := hb8.kept hg4 (fun e => by have := Option.some.inj e; omega)
  have hr4 := hr3.kept hg4 (fun b e => by cases e; omega)
  have hE4 := hE3.stT hg4 hb10 (by decide)
  have hG := grown_new hG hg4 (by omega)
  clear hb10 hb104 hg4 hx hr3 hr2 hr1 hE2 hE3 hk e3 hg2
  generalize hB10 : w2.heap.size = b10 at *
  have hI0 : (e = .nilIface ∧ cRow nms s.length (n + 1) lv o st = cRowL nms s.length n lv o t st1 ∧ 10 * mT st1 + 1 ≤ n) ∨ ∃ c a, cRow nms s.length (n + 1) lv o st = .er c a ∧ FlV w4 w0.heap.size c a e := by
    rcases hE4 with ⟨h1, h2⟩ | ⟨c, a, h1, h2⟩
    · left
      refine ⟨h1, by rw [cRow, h2], ?_⟩
      have := hm2 _ _ h2
      cases lv <;> simp only [cl] at hn <;> omega
    · right
      exact ⟨c, a, by rw [cRow, h1], h2⟩
  clear hE4 hm2
  generalize cRow nms s.length (n + 1) lv o st = R at *
  (repeat (first | (apply WL.pure; rfl; rfl; rfl) | (apply WL.nil) | (apply EX.thenN)))
  refine CW.cutI (S := Value × Ltl) (fun p => [(8, .pointer (some ⟨w0.heap.size, 0, none⟩)), (10, .pointer (some ⟨b10, 0, none⟩)), (11, p.1)])
    (fun p w => w0.grownBy w (some rb) ∧ Blk w w0.heap.size 31 [.int .i64 0, .int .i64 0, .slice none 0 0] ∧ HF 31 w b10 w0.heap.size [b10, w0.heap.size] p.2 ∧ ∃ st', Rdr 139 w rb s no nc nms o st' ∧ ErP w w0.heap.size R p.1 p.2 st') ?_ ?_
  · apply CW.block
    refine CW.loop (S := Nat × Ltl × (Bys × Bys) × Value) (fun p => [(0, .pointer (some ⟨rb, 0, none⟩)), (1, .int .i64 (knR lv)), (2, tV (sgR lv)), (3, fv), (8, .pointer (some ⟨w0.heap.size, 0, none⟩)), (10, .pointer (some ⟨b10, 0, none⟩)), (11, p.2.2.2)])
      (fun p w => w0.grownBy w (some rb) ∧ Blk w w0.heap.size 31 [.int .i64 0, .int .i64 0, .slice none 0 0] ∧ HF 31 w b10 w0.heap.size [b10, w0.heap.size] p.2.1 ∧ Rdr 139 w rb s no nc nms o p.2.2.1 ∧
        ((p.2.2.2 = .nilIface ∧ R = cRowL nms s.length p.1 lv o p.2.1 p.2.2.1 ∧ 10 * mT p.2.2.1 + 1 ≤ p.1 ∧ p.1 ≤ n) ∨ ∃ c a, R = .er c a ∧ FlV w w0.heap.size c a p.2.2.2))
      (fun p => if nilI p.2.2.2 = true then mT p.2.2.1 + 1 else 0) (n, t, st1, e) (by repeat (first | exact trivial | refine ⟨rfl, ?_⟩)) ⟨hG, hb8, hH, hr4, by rcases hI0 with ⟨h1, h2, h3⟩ | h; exact .inl ⟨h1, h2, h3, Nat.le_refl _⟩; exact .inr h⟩ ?_
    clear hG hb8 hH hr4 hI0 hr
    rintro ⟨m, t, st1, e⟩ w5 ⟨hG, hb8, hH, hr5, hI⟩
    dsimp only at hG hb8 hH hr5 hI ⊢
    have he : errI e = true := by
      rcases hI with ⟨rfl, _⟩ | ⟨c, a, _, h⟩
      · rfl
      · exact h.err.1
    (repeat (first | (apply WL.pure; rfl; rfl; rfl) | (apply CW.seq) | (apply CW.region)))
    refine WL.eqNil rfl rfl rfl he ?_
    rcases hI with ⟨rfl, hR, hm, hmn⟩ | ⟨c, a, hR, hF⟩
    · rw [show nilI Value.nilIface = true from rfl]
      (repeat (apply WL.pure; rfl; rfl; rfl))
      refine WL.call rfl rfl rfl (ctake_ok w5 hr5 hs (sgR lv)) ?_
      rintro _ w6 ⟨rfl, hr6, hg6⟩
      have l8' := hb8.lt
      have l10 := hH.lt
      have hrl5 := hr5.lt
      have hb8 := hb8.kept hg6 (fun e => by have := Option.some.inj e; omega)
      have hH := hH.st hg6 (.inl hrl) (by omega)
      have hG := grown_tr hG hg6
      obtain ⟨m, rfl⟩ : ∃ k, m = k + 1 := ⟨m - 1, by omega⟩
      rw [cRowL] at hR
      (repeat (first | (apply WL.pure; rfl; rfl; rfl) | (apply WL.nil) | (apply EX.thenN)))
      refine CW.cond rfl (fun h => ?_) (fun h => ?_)
      · have h : st1.1 = sgR lv := of_decide_eq_true h
        rw [if_pos h] at hR hr6
        have hmx := mT_nx1 (st := st1) (by rw [h]; exact sgR_ne lv)
        (repeat (first | (apply EX.thenN) | (apply CW.seq) | (apply CW.region) | (apply CW.block) | (apply CW.skip)))
        refine WL.alloc rfl rfl (fun w7 hb12 e7 => ?_)
        have hH := hH.add e7 (Nat.le_refl _)
        have hb8 := hb8.ext e7
        have hr7 := hr6.ext e7
        have hG := grown_tr hG (e7.grw (some rb))
        have l12 := hb12.lt
        have z6 := hg6.size
        generalize hB12 : w6.heap.size = b12 at *
        (repeat (first | (apply WL.pure; rfl; rfl; rfl) | (apply WL.nil) | (apply EX.thenN) | (apply CW.seq) | (apply CW.region)))
        refine WL.callF (xs := []) (vs := []) rfl rfl rfl rfl (hf m (by omega) _ w7 hr7 (by cases lv <;> simp only [cl] <;> omega)) ?_
        rintro _ w8 ⟨⟨x, e, t2, st2, rfl, hx, hr8, hE8⟩, hg8⟩
        have z7 := e7.size
        have z8 := hg8.size
        have hH := hH.st hg8 (.inl hrl) (by omega)
        have hb8 := hb8.kept hg8 (fun e => by have := Option.some.inj e; omega)
        have hb12 := hb12.kept hg8 (fun e => by have := Option.some.inj e; omega)
        have hG := grown_tr hG hg8
        have hx : GX w0.heap.size [b12, b10, w0.heap.size] w8 x t2 := GX.of hx (by omega) (fun r hr => by
          simp only [List.mem_cons, List.not_mem_nil, or_false] at hr
          rcases hr with rfl | rfl | rfl <;> omega)
        have hE8 : ErP w8 w0.heap.size (cPart nms s.length m lv o (nxT st1.2)) e t2 st2 := hE8.low (by omega)
        obtain ⟨uo, uc, rfl, hk⟩ := Rd.ltl hx
        (repeat (apply WL.pure; rfl; rfl; rfl))
        refine WL.st rfl rfl rfl hb12 rfl rfl (ones_of rfl) (fun w9 hb129 hg9 => ?_)
        have hx := hx.st hg9 (.inr (List.mem_cons_self ..))
        have hH := hH.st hg9 (.inr (List.mem_cons_self ..)) (by omega)
        have hb8 := hb8.kept hg9 (fun e => by have := Option.some.inj e; omega)
        have hr9 := hr8.kept hg9 (fun b e => by cases e; omega)
        have hE9 := hE8.stT hg9 hb12 (by decide)
        have hG := grown_new hG hg9 (by omega)
        obtain ⟨vo, vc, hb10, hy⟩ := hH.gx
        have z9 := hg9.size
        clear hb12 hg9 hr8 hE8 hk
        (repeat (first | (apply WL.pure; rfl; rfl; rfl) | (apply WL.nil) | (apply EX.thenN) | (apply CW.region) | (apply WL.ldA; rfl; rfl; rfl; assumption; rfl)))
        refine WL.call rfl rfl rfl (ctwo_ok w9 (F := GXs w0.heap.size [b12, b10, w0.heap.size] w9) (fun b hb => hb.2.1) (knR lv) hy hx) ?_
        rintro _ w10 ⟨hv, e10⟩
        have hv : GX w0.heap.size [b12, b10, w0.heap.size] w10 _ (.mk (knR lv) 0 [t, t2]) := GX.plus hv e10 (by omega) (fun r hr => by
          simp only [List.mem_cons, List.not_mem_nil, or_false] at hr
          rcases hr with rfl | rfl | rfl <;> omega)
        have hv := hv.wk
        obtain ⟨uo', uc', rfl, hk'⟩ := Rd.ltl hv
        have hb10 := hb10.ext e10
        have hr10 := hr9.ext e10
        have hE10 := hE9.ext e10
        have hb8 := hb8.ext e10
        have hG := grown_tr hG (e10.grw (some rb))
        skip
        refine WL.st rfl rfl rfl hb10 rfl rfl (ones_of rfl) (fun w11 hb1011 hg11 => ?_)
        have hv := hv.st hg11 (.inr (List.mem_cons_self ..))
        have hH := HF.of hb1011 hv
        have hb8 := hb8.kept hg11 (fun e => by have := Option.some.inj e; omega)
        have hr11 := hr10.kept hg11 (fun b e => by cases e; omega)
        have hE11 := hE10.stT hg11 hb10 (by decide)
        have hG := grown_new hG hg11 (by omega)
        have hmm : ∀ f st', cPart nms s.length m lv o (nxT st1.2) = .ok f st' → mT st' ≤ mT (nxT st1.2) := fun f st' h => (c_mono nms s.length m).2.2.2.1 _ _ _ _ _ h
        (repeat (first | (apply WL.nil) | (apply EX.inN)))
        refine EX.back (m, .mk (knR lv) 0 [t, t2], st2, e) (by repeat (first | exact trivial | refine ⟨rfl, ?_⟩)) ⟨hG, hb8, hH, hr11, ?_⟩ ?_
        · dsimp only
          rcases hE11 with ⟨h1, h2⟩ | ⟨c, a, h1, h2⟩
          · left
            rw [h2] at hR
            have := hmm _ _ h2
            exact ⟨h1, hR, by omega, by omega⟩
          · right
            rw [h1] at hR
            exact ⟨c, a, hR, h2⟩
        · dsimp only
          rw [show nilI Value.nilIface = true from rfl, if_pos rfl]
          rcases hE11 with ⟨h1, h2⟩ | ⟨c, a, h1, h2⟩
          · have := hmm _ _ h2
            split <;> omega
          · rw [h2.err.2]; simp
      · have h : ¬ st1.1 = sgR lv := of_decide_eq_false h
        rw [if_neg h] at hR hr6
        (repeat (first | (apply CW.exit) | (apply EX.thenX) | (apply EX.inX)))
        exact EX.cutI (.nilIface, t) (by repeat (first | exact trivial | refine ⟨rfl, ?_⟩)) ⟨hG, hb8, hH, st1, hr6, .inl ⟨rfl, hR⟩⟩
    · rw [hF.err.2]
      (repeat (first | (apply WL.pure; rfl; rfl; rfl) | (apply WL.nil) | (apply EX.thenN) | (apply WL.pass; rfl; rfl) | (apply CW.condF; rfl) | (apply CW.exit) | (apply EX.thenX) | (apply EX.inX)))
      exact EX.cutI (e, t) (by repeat (first | exact trivial | refine ⟨rfl, ?_⟩)) ⟨hG, hb8, hH, st1, hr5, .inr ⟨c, a, hR, hF⟩⟩
  clear hG hb8 hH hr4 hI0
  rintro ⟨e, t⟩ w5 ⟨hG, hb8, hH, st', hr5, hE⟩
  dsimp only at hH hE ⊢
  obtain ⟨vo, vc, hb10, hy⟩ := hH.gx
  have l10 := hb10.lt
  (repeat (first | (apply WL.pure; rfl; rfl; rfl) | (apply CW.seq) | (apply CW.region) | (apply WL.ldA; rfl; rfl; rfl; assumption; rfl)))
  refine WL.st rfl rfl rfl hb8 rfl rfl (ones_of rfl) (fun w6 hb86 hg6 => ?_)
  (repeat (first | (apply WL.pure; rfl; rfl; rfl) | (apply WL.nil) | (apply EX.thenN) | (apply CW.ret)))
  refine EX.retC2 rfl rfl rfl hb86 rfl ⟨⟨_, _, t, st', rfl, (hy.st hg6 (.inr (by simp))).gl, hr5.kept hg6 (fun b e => by cases e; omega), hE.stT hg6 hb8 (by decide)⟩, grown_new hG hg6 (Nat.le_refl _)⟩
end Go.Proofs.YtikigaeihdmcaaaGreatDoor

/-
  ctl.Parse, walked: within brackets, rows of ands, ways.
-/
set_option linter.unusedVariables false
set_option linter.unusedSimpArgs false
namespace Go.Proofs.YtikigaeihdmcaaaGreatDoor
open Go.RowKit

/-- a store of the reader's own: how many brackets are open -/
theorem Rdr.open' {w w' : World} {rb : Nat} {s : Bys} {no : Option Addr} {nc : Nat} {nms : List ByteArray} {o o' : Nat} {st : Bys × Bys} (h : Rdr 139 w rb s no nc nms o st) (hg : w.grownBy w' (some rb))
    (hb : Blk w' rb 139 [tV s, .slice no nms.length nc, tV st.1, .int .i64 (atT s.length st : Int), .int .i64 ((s.length - st.2.length : Nat) : Int), .int .i64 (o' : Int)]) : Rdr 139 w' rb s no nc nms o' st :=
  ⟨hb, h.nm.mono (fun b hb => hg.block b (by have := h.lt; omega) (by simp; omega)) fun _ h => h, h.drp, h.len⟩
theorem cwithin_ok (w0 : World) {rb : Nat} {s : Bys} {no : Option Addr} {nc : Nat} {nms : List ByteArray} {o : Nat} {st : Bys × Bys} (hr : Rdr 139 w0 rb s no nc nms o st) (hs : s.length ≤ 300) (ho : o ≤ 20) {fv : Value} {r : PR}
    (hf : o < 20 → ∀ w, Rdr 139 w rb s no nc nms (o + 1) (nxT st.2) → w0.grownBy w (some rb) → FnV Tryz.prog fv [] w fun v w' => PRs 139 rb s no nc nms (o + 1) w.heap.size r v w' ∧ w.grownBy w' (some rb)) :
    Rt Tryz.prog 127 [.pointer (some ⟨rb, 0, none⟩), fv].toArray w0 fun v w' => PRs 139 rb s no nc nms o w0.heap.size (if o = 20 then .er 5 (atT s.length st) else r) v w' ∧ w0.grownBy w' (some rb) := by
  have hrl := hr.lt
  refine Rt.enter2 Tryz.func127 Tryz.ntmps127 rfl rfl ?_
  (repeat (first | (apply CW.seq) | (apply CW.region)))
  refine WL.alloc rfl rfl (fun w1 hb4 e1 => ?_)
  have l4 := hb4.lt
  have hr1 := hr.ext e1
  have hb1 := hr1.blk
  have hG := e1.grw (some rb)
  (repeat (first | (apply WL.pure; rfl; rfl; rfl) | (apply WL.nil) | (apply EX.thenN) | (apply CW.seq) | (apply CW.region) | (apply WL.fa; rfl; rfl; rfl) | (apply WL.nck; rfl; rfl; rfl) | (apply WL.ld; rfl; rfl; rfl; assumption; rfl)))
  refine CW.cond rfl (fun h => ?_) (fun h => ?_)
  · have h20 : o = 20 := by have : (o : Int) = 20 := by simpa using h
                            omega
    rw [if_pos h20]
    (repeat (first | (apply CW.seq) | (apply CW.region)))
    refine WL.build (parts := []) rfl rfl rfl rfl ?_
    (repeat (apply WL.pure; rfl; rfl; rfl))
    refine WL.call rfl rfl rfl (cwrong_ok w1 hr1 5) ?_
    rintro _ w6 ⟨rfl, hf6, e6⟩
    have hb46 := hb4.ext e6
    have hr6 := hr1.ext e6
    have hG := grown_tr hG (e6.grw _)
    skip
    refine WL.st rfl rfl rfl hb46 rfl rfl (ones_of rfl) (fun w7 hb47 hg7 => ?_)
    (repeat (first | (apply WL.pure; rfl; rfl; rfl) | (apply WL.nil) | (apply EX.thenN) | (apply CW.ret) | (apply EX.thenR)))
    refine EX.retC2 rfl rfl rfl hb47 rfl ⟨?_, grown_new hG hg7 (Nat.le_refl _)⟩
    exact ⟨_, _, _, st, rfl, GL.zero 0 0, hr6.kept hg7 (fun b e => by cases e; omega), .inr ⟨_, _, rfl, _, rfl, Nat.le_of_lt l4, hf6.kept hg7 (fun e => by have := Option.some.inj e; omega)⟩⟩
  have h20 : ¬ o = 20 := by have : ¬ (o : Int) = 20 := by simpa using h
                            omega
  rw [if_neg h20]
  clear h
  (repeat (first | (apply WL.add; rfl; rfl; rfl; rfl; omega; omega) | (apply WL.pure; rfl; rfl; rfl) | (apply EX.thenN) | (apply CW.seq) | (apply CW.region) | (apply WL.fa; rfl; rfl; rfl) | (apply WL.nck; rfl; rfl; rfl) | (apply WL.ld; rfl; rfl; rfl; assumption; rfl) | (apply CW.skip)))
  refine WL.st rfl rfl rfl hb1 rfl rfl (ones_of rfl) (fun w2 hb2 hg2 => ?_)
  have hr2 : Rdr 139 w2 rb s no nc nms (o + 1) st := hr1.open' hg2 (by rw [show ((o + 1 : Nat) : Int) = (o : Int) + 1 by omega]; exact hb2)
  have hb4 := hb4.kept hg2 (fun e => by have := Option.some.inj e; omega)
  have hG := grown_tr hG hg2
  clear hb1 hb2 hg2 hr1
  (repeat (first | (apply WL.pure; rfl; rfl; rfl) | (apply WL.nil) | (apply EX.thenN) | (apply CW.seq) | (apply CW.region)))
  refine WL.call rfl rfl rfl (cnext_ok w2 hr2 hs) ?_
  rintro _ w3 ⟨hr3, hg3⟩
  have hb4 := hb4.kept hg3 (fun e => by have := Option.some.inj e; omega)
  have hG := grown_tr hG hg3
  have l43 := hb4.lt
  (repeat (first | (apply WL.pure; rfl; rfl; rfl) | (apply WL.nil) | (apply EX.thenN) | (apply CW.seq) | (apply CW.region)))
  refine WL.callF (xs := []) (vs := []) rfl rfl rfl rfl (hf (by omega) w3 hr3 hG) ?_
  rintro _ w4 ⟨⟨x, e, t, st1, rfl, hx, hr4, hE4⟩, hg4⟩
  have hb4 := hb4.kept hg4 (fun e => by have := Option.some.inj e; omega)
  have hG := grown_tr hG hg4
  have z4 := hg4.size
  have hx : GX w0.heap.size [w0.heap.size] w4 x t := GX.of hx (Nat.le_of_lt l43) (fun r hr => by rw [List.mem_singleton.1 hr]; exact l43)
  have hE4 := hE4.low (B' := w0.heap.size) (Nat.le_of_lt l43)
  obtain ⟨uo, uc, rfl, hk⟩ := Rd.ltl hx
  (repeat (apply WL.pure; rfl; rfl; rfl))
  refine WL.alloc rfl rfl (fun w5 hb6 e5 => ?_)
  have hx := hx.add e5 (Nat.le_refl _)
  have hb4 := hb4.ext e5
  have hr5 := hr4.ext e5
  have hE5 := hE4.ext e5
  have hG := grown_tr hG (e5.grw (some rb))
  skip
  refine WL.st rfl rfl rfl hb6 rfl rfl (ones_of rfl) (fun w6 hb66 hg6 => ?_)
  have hx := hx.st hg6 (.inr (List.mem_cons_self ..))
  have hb4 := hb4.kept hg6 (fun e => by have := Option.some.inj e; omega)
  have hr6 := hr5.kept hg6 (fun b e => by cases e; omega)
  have hE6 := hE5.stT hg6 hb6 (by decide)
  have hG := grown_new hG hg6 (by omega)
  have hb7 := hr6.blk
  have l6 := hb66.lt
  clear hb6 hr5 hE5 hr4 hE4 hr3 hr2 hg6 hk
  generalize hB6 : w4.heap.size = b6 at *
  (repeat (first | (apply WL.sub'; rfl; rfl; rfl; rfl; omega; omega) | (apply WL.pure; rfl; rfl; rfl) | (apply WL.nil) | (apply EX.thenN) | (apply CW.seq) | (apply CW.region) | (apply WL.fa; rfl; rfl; rfl) | (apply WL.nck; rfl; rfl; rfl) | (apply WL.ld; rfl; rfl; rfl; assumption; rfl)))
  refine WL.st rfl rfl rfl hb7 rfl rfl (ones_of rfl) (fun w7 hb77 hg7 => ?_)
  have hr7 : Rdr 139 w7 rb s no nc nms o st1 := hr6.open' hg7 (by rw [show (o : Int) = ((o + 1 : Nat) : Int) - 1 by omega]; exact hb77)
  have hx := hx.st hg7 (.inl hrl)
  have hb4 := hb4.kept hg7 (fun e => by have := Option.some.inj e; omega)
  have hb67 := hb66.kept hg7 (fun e => by have := Option.some.inj e; omega)
  have hE7 := hE6.stT hg7 hb7 (by decide)
  have hG := grown_tr hG hg7
  clear hb7 hb77 hg7 hr6 hE6 hb66
  (repeat (first | (apply WL.pure; rfl; rfl; rfl) | (apply WL.nil) | (apply EX.thenN) | (apply CW.seq) | (apply CW.region) | (apply WL.ldA; rfl; rfl; rfl; assumption; rfl)))
  refine WL.st rfl rfl rfl hb4 rfl rfl (ones_of rfl) (fun w8 hb8 hg8 => ?_)
  (repeat (first | (apply WL.pure; rfl; rfl; rfl) | (apply WL.nil) | (apply EX.thenN) | (apply CW.ret)))
  exact EX.retC2 rfl rfl rfl hb8 rfl ⟨⟨_, _, t, st1, rfl, (hx.st hg8 (.inr (by simp))).gl, hr7.kept hg8 (fun b e => by cases e; omega), hE7.stT hg8 hb4 (by decide)⟩, grown_new hG hg8 (Nat.le_refl _)⟩
/-- what single does, up to a fuel -/
def SinOK (rb : Nat) (s : Bys) (no : Option Addr) (nc : Nat) (nms : List ByteArray) (n : Nat) : Prop := ∀ m, m ≤ n → ∀ (o : Nat) (st : Bys × Bys) (w : World), Rdr 139 w rb s no nc nms o st → o ≤ 20 → 10 * mT st + 1 ≤ m →
  Rt Tryz.prog 121 [.pointer (some ⟨rb, 0, none⟩)].toArray w fun v w' => PRs 139 rb s no nc nms o w.heap.size (cSin nms s.length m o st) v w' ∧ w.grownBy w' (some rb)
def ForOK (rb : Nat) (s : Bys) (no : Option Addr) (nc : Nat) (nms : List ByteArray) (n : Nat) : Prop := ∀ m, m ≤ n → ∀ (o : Nat) (st : Bys × Bys) (w : World), Rdr 139 w rb s no nc nms o st → o ≤ 20 → 10 * mT st + 6 ≤ m →
  Rt Tryz.prog 85 [.pointer (some ⟨rb, 0, none⟩)].toArray w fun v w' => PRs 139 rb s no nc nms o w.heap.size (cFor nms s.length m o [] st) v w' ∧ w.grownBy w' (some rb)
theorem part_sin {rb : Nat} {s : Bys} {no : Option Addr} {nc : Nat} {nms : List ByteArray} {n o : Nat} (ho : o ≤ 20) (hS : SinOK rb s no nc nms n) : PartF rb s no nc nms o (.func (.func 121) [.pointer (some ⟨rb, 0, none⟩)].toArray [].toArray) (cl false) (fun m st => cPart nms s.length m false o st) (n + 1) := by
  intro m hm st w hr hc
  simp only [cl] at hc
  obtain ⟨m, rfl⟩ : ∃ k, m = k + 1 := ⟨m - 1, by omega⟩
  refine FnV.mkM ?_
  have := hS m (by omega) o st w hr ho (by omega)
  simpa [cPart] using this
theorem cand_ok {rb : Nat} {s : Bys} {no : Option Addr} {nc : Nat} {nms : List ByteArray} {n o : Nat} {st : Bys × Bys} (w0 : World) (hr : Rdr 139 w0 rb s no nc nms o st) (hs : s.length ≤ 300) (ho : o ≤ 20) (hS : SinOK rb s no nc nms n) (hn : 10 * mT st + 2 ≤ n + 1) :
    Rt Tryz.prog 108 [.pointer (some ⟨rb, 0, none⟩)].toArray w0 fun v w' => PRs 139 rb s no nc nms o w0.heap.size (cRow nms s.length (n + 2) false o st) v w' ∧ w0.grownBy w' (some rb) := by
  have hrl := hr.lt
  refine Rt.enter1 Tryz.func108 Tryz.ntmps108 rfl rfl ?_
  (repeat (first | (apply CW.seq) | (apply CW.region)))
  refine WL.alloc rfl rfl (fun w1 hb2 e1 => ?_)
  have l2 := hb2.lt
  have hr1 := hr.ext e1
  (repeat (first | (apply WL.pure; rfl; rfl; rfl) | (apply WL.nil) | (apply EX.thenN) | (apply CW.seq) | (apply CW.region) | (apply WL.makeFunc; rfl; rfl; rfl; rfl)))
  refine WL.call rfl rfl rfl (crow_ok false (n + 1) w1 hr1 hs (part_sin ho hS) (by simp only [cl]; omega)) ?_
  rintro _ w2 ⟨⟨x, e, t, st1, rfl, hx, hr2, hE2⟩, hg2⟩
  have hb2 := hb2.kept hg2 (fun e => by have := Option.some.inj e; omega)
  have hG := grown_tr (e1.grw (some rb)) hg2
  have hx : GX w0.heap.size [w0.heap.size] w2 x t := GX.of hx (Nat.le_of_lt l2) (fun r hr => by rw [List.mem_singleton.1 hr]; exact l2)
  have hE2 := hE2.low (B' := w0.heap.size) (Nat.le_of_lt l2)
  obtain ⟨uo, uc, rfl, hk⟩ := Rd.ltl hx
  (repeat (apply WL.pure; rfl; rfl; rfl))
  refine WL.st rfl rfl rfl hb2 rfl rfl (ones_of rfl) (fun w3 hb3 hg3 => ?_)
  (repeat (first | (apply WL.pure; rfl; rfl; rfl) | (apply WL.nil) | (apply EX.thenN) | (apply CW.ret)))
  exact EX.retC2 rfl rfl rfl hb3 rfl ⟨⟨_, _, t, st1, rfl, (hx.st hg3 (.inr (by simp))).gl, hr2.kept hg3 (fun b e => by cases e; omega), hE2.stT hg3 hb2 (by decide)⟩, grown_new hG hg3 (Nat.le_refl _)⟩
theorem part_and {rb : Nat} {s : Bys} {no : Option Addr} {nc : Nat} {nms : List ByteArray} {n o : Nat} (hs : s.length ≤ 300) (ho : o ≤ 20) (hS : SinOK rb s no nc nms n) : PartF rb s no nc nms o (.func (.func 108) [.pointer (some ⟨rb, 0, none⟩)].toArray [].toArray) (cl true) (fun m st => cPart nms s.length m true o st) (n + 3) := by
  intro m hm st w hr hc
  simp only [cl] at hc
  obtain ⟨m, rfl⟩ : ∃ k, m = k + 3 := ⟨m - 3, by omega⟩
  refine FnV.mkM ?_
  have := cand_ok (n := m) w hr hs ho (fun m' hm' => hS m' (by omega)) (by omega)
  simpa [cPart] using this
end Go.Proofs.YtikigaeihdmcaaaGreatDoor

/-
  ctl.Parse, walked: ways.
-/
set_option linter.unusedVariables false
set_option linter.unusedSimpArgs false
namespace Go.Proofs.YtikigaeihdmcaaaGreatDoor
open Go.RowKit

theorem txA_eqd (a b : Bys) : ((txA a).data.toList == b) = decide (a = b) := by rw [txA_list, Bool.eq_iff_iff]; simp
/-- what stands behind a U -/
def untC (k : Int) (t : Ltl) (N : Nat) : PR → PR
  | .er c a => .er c a
  | .ok g st2 => if st2.1 = [93] then .ok (.mk k 0 [t, g]) (nxT st2.2) else .er 3 (atT N st2)
instance iCRd12 : IsC Tryz.prog 137 1 false := IsC.of (by kernel_rfl) Tryz.underlying137 rfl
set_option maxHeartbeats 1000000 in
theorem cuntil_ok {rb : Nat} {s : Bys} {no : Option Addr} {nc : Nat} {nms : List ByteArray} {n o : Nat} {st : Bys × Bys} (w0 : World) (hr : Rdr 139 w0 rb s no nc nms o st) (hs : s.length ≤ 300) (ho : o ≤ 20) (hS : ForOK rb s no nc nms n) (hn : 10 * st.2.length + 6 ≤ n) (k : Int) :
    Rt Tryz.prog 135 [.pointer (some ⟨rb, 0, none⟩), .int .i64 k].toArray w0 fun v w' => PRs 139 rb s no nc nms o w0.heap.size (cUnt nms s.length (n + 1) k o st) v w' ∧ w0.grownBy w' (some rb) := by
  have hrl := hr.lt
  refine Rt.enter2 Tryz.func135 Tryz.ntmps135 rfl rfl ?_
  rw [cUnt]
  (repeat (first | (apply CW.seq) | (apply CW.region)))
  refine WL.alloc rfl rfl (fun w1 hb4 e1 => ?_)
  have l4 := hb4.lt
  have hr1 := hr.ext e1
  (repeat (first | (apply WL.pure; rfl; rfl; rfl) | (apply WL.nil) | (apply EX.thenN) | (apply CW.seq) | (apply CW.region)))
  refine WL.call rfl rfl rfl (cnext_ok w1 hr1 hs) ?_
  rintro _ w2 ⟨hr2, hg2⟩
  have hb4 := hb4.kept hg2 (fun e => by have := Option.some.inj e; omega)
  have hG := grown_tr (e1.grw (some rb)) hg2
  have l4 := hb4.lt
  have hmx := mT_nx st
  (repeat (first | (apply WL.pure; rfl; rfl; rfl) | (apply WL.nil) | (apply EX.thenN) | (apply CW.seq) | (apply CW.region)))
  refine WL.call rfl rfl rfl (hS n (Nat.le_refl _) o _ w2 hr2 ho (by omega)) ?_
  rintro _ w3 ⟨⟨x, e, t, st1, rfl, hx, hr3, hE3⟩, hg3⟩
  have hmm : ∀ f st', cFor nms s.length n o [] (nxT st.2) = .ok f st' → mT st' ≤ mT (nxT st.2) := fun f st' h => (c_mono nms s.length n).1 _ _ _ _ _ h
  generalize cFor nms s.length n o [] (nxT st.2) = r1 at *
  have hb4 := hb4.kept hg3 (fun e => by have := Option.some.inj e; omega)
  have hG := grown_tr hG hg3
  have hx : GX w0.heap.size [w0.heap.size] w3 x t := GX.of hx (Nat.le_of_lt l4) (fun r hr => by rw [List.mem_singleton.1 hr]; exact l4)
  have hE3 := hE3.low (B' := w0.heap.size) (Nat.le_of_lt l4)
  have z3 := hg3.size
  obtain ⟨uo, uc, rfl, hk⟩ := Rd.ltl hx
  (repeat (apply WL.pure; rfl; rfl; rfl))
  refine WL.alloc rfl rfl (fun w4 hb6 e4 => ?_)
  have hx := hx.add e4 (Nat.le_refl _)
  have hb4 := hb4.ext e4
  have hr4 := hr3.ext e4
  have hE4 := hE3.ext e4
  have hG := grown_tr hG (e4.grw (some rb))
  skip
  refine WL.st rfl rfl rfl hb6 rfl rfl (ones_of rfl) (fun w5 hb65 hg5 => ?_)
  have hx := hx.st hg5 (.inr (List.mem_cons_self ..))
  have hH := HF.of hb65 hx
  have hb4 := hb4.kept hg5 (fun e => by have := Option.some.inj e; omega)
  have hr5 := hr4.kept hg5 (fun b e => by cases e; omega)
  have hE5 := hE4.stT hg5 hb6 (by decide)
  have hG := grown_new hG hg5 (by omega)
  clear hb6 hb65 hg5 hx hr4 hr3 hr2 hr1 hE3 hE4 hk e4 hg3 hg2 hr
  have l4 := hb4.lt
  have l6 := hH.lt
  have h46 : w0.heap.size < w3.heap.size := by omega
  generalize hB6 : w3.heap.size = b6 at *
  have he := hE5.err
  (repeat (first | (apply WL.pure; rfl; rfl; rfl) | (apply WL.nil) | (apply EX.thenN) | (apply CW.seq) | (apply CW.region)))
  refine WL.eqNil rfl rfl rfl he ?_
  rcases hE5 with ⟨rfl, rfl⟩ | ⟨c, a, rfl, hF⟩
  · rw [show nilI Value.nilIface = true from rfl]
    have hmm := hmm _ _ rfl
    (repeat (apply WL.pure; rfl; rfl; rfl))
    refine WL.call rfl rfl rfl (ctake_ok w5 hr5 hs [85]) ?_
    rintro _ w6 ⟨rfl, hr6, hg6⟩
    have hb4 := hb4.kept hg6 (fun e => by have := Option.some.inj e; omega)
    have hH := hH.st hg6 (.inl hrl) (by omega)
    have hG := grown_tr hG hg6
    dsimp only
    (repeat (first | (apply WL.pure; rfl; rfl; rfl) | (apply WL.nil) | (apply EX.thenN)))
    refine CW.cond rfl (fun h => ?_) (fun h => ?_)
    · have h : ¬ st1.1 = [85] := by simpa using h
      rw [if_neg h] at hr6 ⊢
      (repeat (first | (apply WL.pure; rfl; rfl; rfl) | (apply CW.region)))
      refine WL.call rfl rfl rfl (cwrong_ok w6 hr6 3) ?_
      rintro _ w7 ⟨rfl, hf7, e7⟩
      have hb4 := hb4.ext e7
      have hr7 := hr6.ext e7
      have hH := hH.ext e7
      have hG := grown_tr hG (e7.grw _)
      have l46 := hb4.lt
      have z6 := hg6.size
      (repeat (first | (apply WL.pure; rfl; rfl; rfl) | (apply WL.nil) | (apply EX.thenN) | (apply CW.seq) | (apply CW.region)))
      refine WL.neNil rfl rfl rfl (v := .iface _ _) rfl ?_
      rw [show (!nilI (Value.iface 131 (.pointer (some ⟨w6.heap.size, 0, none⟩)))) = true from rfl]
      obtain ⟨vo, vc, hb6, hy⟩ := hH.gx
      (repeat (first | (apply WL.pure; rfl; rfl; rfl) | (apply WL.nil) | (apply EX.thenN) | (apply CW.seq) | (apply CW.region) | (apply WL.ldA; rfl; rfl; rfl; assumption; rfl) | (apply CW.condT; rfl)))
      refine WL.st rfl rfl rfl hb4 rfl rfl (ones_of rfl) (fun w8 hb8 hg8 => ?_)
      (repeat (first | (apply WL.pure; rfl; rfl; rfl) | (apply WL.nil) | (apply EX.thenN) | (apply CW.ret) | (apply EX.thenR)))
      exact EX.retC2 rfl rfl rfl hb8 rfl ⟨⟨_, _, t, st1, rfl, (hy.st hg8 (.inr (by simp))).gl, hr7.kept hg8 (fun b e => by cases e; omega), .inr ⟨_, _, rfl, _, rfl, by omega, hf7.kept hg8 (fun e => by have := Option.some.inj e; omega)⟩⟩, grown_new hG hg8 (Nat.le_refl _)⟩
    have h : st1.1 = [85] := by simpa using h
    rw [if_pos h] at hr6 ⊢
    have hm1 := mT_nx1 (st := st1) (by rw [h]; decide)
    (repeat (first | (apply WL.pure; rfl; rfl; rfl) | (apply EX.thenN) | (apply CW.seq) | (apply CW.region) | (apply CW.skip)))
    refine WL.neNil rfl rfl rfl (v := .nilIface) rfl ?_
    rw [show (!nilI Value.nilIface) = false from rfl]
    have z6 := hg6.size
    (repeat (first | (apply WL.pure; rfl; rfl; rfl) | (apply WL.nil) | (apply EX.thenN) | (apply CW.seq) | (apply CW.region) | (apply CW.condF; rfl) | (apply CW.skip)))
    refine WL.call rfl rfl rfl (hS n (Nat.le_refl _) o _ w6 hr6 ho (by omega)) ?_
    rintro _ w7 ⟨⟨x, e, g, st2, rfl, hx, hr7, hE7⟩, hg7⟩
    generalize cFor nms s.length n o [] (nxT st1.2) = r2 at *
    have l46 := hb4.lt
    have l66 := hH.lt
    have hb4 := hb4.kept hg7 (fun e => by have := Option.some.inj e; omega)
    have hH := hH.st hg7 (.inl hrl) (by omega)
    have hG := grown_tr hG hg7
    have hx : GX w0.heap.size [b6, w0.heap.size] w7 x g := GX.of hx (by omega) (fun r hr => by
      simp only [List.mem_cons, List.not_mem_nil, or_false] at hr
      rcases hr with rfl | rfl <;> omega)
    have hE7 := hE7.low (B' := w0.heap.size) (by omega)
    have z7 := hg7.size
    obtain ⟨uo, uc, rfl, hk⟩ := Rd.ltl hx
    (repeat (apply WL.pure; rfl; rfl; rfl))
    refine WL.alloc rfl rfl (fun w8 hb8 e8 => ?_)
    have hx := hx.add e8 (Nat.le_refl _)
    have hH := hH.add e8 (Nat.le_refl _)
    have hb4 := hb4.ext e8
    have hr8 := hr7.ext e8
    have hE8 := hE7.ext e8
    have hG := grown_tr hG (e8.grw (some rb))
    skip
    refine WL.st rfl rfl rfl hb8 rfl rfl (ones_of rfl) (fun w9 hb89 hg9 => ?_)
    have hx := hx.st hg9 (.inr (List.mem_cons_self ..))
    have hK := HF.of hb89 hx
    have hH := hH.st hg9 (.inr (List.mem_cons_self ..)) (by omega)
    have hb4 := hb4.kept hg9 (fun e => by have := Option.some.inj e; omega)
    have hr9 := hr8.kept hg9 (fun b e => by cases e; omega)
    have hE9 := hE8.stT hg9 hb8 (by decide)
    have hG := grown_new hG hg9 (by omega)
    have l68 : b6 < w7.heap.size := by omega
    have l48 : w0.heap.size < w7.heap.size := by omega
    have l89 := hK.lt
    clear hb8 hb89 hg9 hx hr8 hr7 hr6 hE7 hE8 hk e8 hg7 hg6
    generalize hB8 : w7.heap.size = b8 at *
    have he := hE9.err
    (repeat (first | (apply WL.pure; rfl; rfl; rfl) | (apply WL.nil) | (apply EX.thenN)))
    refine CW.cutI (S := Value) (fun e => [(1, .int .i64 k), (4, .pointer (some ⟨w0.heap.size, 0, none⟩)), (6, .pointer (some ⟨b6, 0, none⟩)), (8, .pointer (some ⟨b8, 0, none⟩)), (7, e)])
      (fun e w => w0.grownBy w (some rb) ∧ Blk w w0.heap.size 31 [.int .i64 0, .int .i64 0, .slice none 0 0] ∧ HF 31 w b6 w0.heap.size [b8, b6, w0.heap.size] t ∧ HF 31 w b8 w0.heap.size [b8, b6, w0.heap.size] g ∧
        ∃ st', Rdr 139 w rb s no nc nms o st' ∧ ErP w w0.heap.size (untC k t s.length r2) e (.mk k 0 [t, g]) st') ?_ ?_
    · (repeat (first | (apply WL.pure; rfl; rfl; rfl) | (apply CW.seq) | (apply CW.region)))
      refine WL.eqNil rfl rfl rfl he ?_
      rcases hE9 with ⟨rfl, rfl⟩ | ⟨c, a, rfl, hF⟩
      · rw [show nilI Value.nilIface = true from rfl]
        (repeat (apply WL.pure; rfl; rfl; rfl))
        refine WL.call rfl rfl rfl (ctake_ok w9 hr9 hs [93]) ?_
        rintro _ w10 ⟨rfl, hr10, hg10⟩
        have hb4 := hb4.kept hg10 (fun e => by have := Option.some.inj e; omega)
        have hH := hH.st hg10 (.inl hrl) (by omega)
        have hK := hK.st hg10 (.inl hrl) (by omega)
        have hG := grown_tr hG hg10
        have z10 := hg10.size
        dsimp only [untC]
        (repeat (first | (apply WL.pure; rfl; rfl; rfl) | (apply WL.nil) | (apply EX.thenN)))
        refine CW.cond rfl (fun h => ?_) (fun h => ?_)
        · have h : ¬ st2.1 = [93] := by simpa using h
          rw [if_neg h] at hr10 ⊢
          (repeat (first | (apply WL.pure; rfl; rfl; rfl) | (apply CW.region)))
          refine WL.call rfl rfl rfl (cwrong_ok w10 hr10 3) ?_
          rintro _ w11 ⟨rfl, hf11, e11⟩
          (repeat (first | (apply WL.pure; rfl; rfl; rfl) | (apply WL.nil)))
          exact EX.cutI _ (by repeat (first | exact trivial | refine ⟨rfl, ?_⟩)) ⟨grown_tr hG (e11.grw _), hb4.ext e11, hH.ext e11, hK.ext e11, st2, hr10.ext e11, .inr ⟨_, _, rfl, _, rfl, by omega, hf11⟩⟩
        · have h : st2.1 = [93] := by simpa using h
          rw [if_pos h] at hr10 ⊢
          (repeat (apply CW.skip))
          exact EX.cutI _ (by repeat (first | exact trivial | refine ⟨rfl, ?_⟩)) ⟨hG, hb4, hH, hK, _, hr10, .inl ⟨rfl, rfl⟩⟩
      · rw [hF.err.2]
        (repeat (first | (apply WL.pure; rfl; rfl; rfl) | (apply WL.nil) | (apply EX.thenN) | (apply WL.pass; rfl; rfl) | (apply CW.condF; rfl) | (apply CW.skip)))
        exact EX.cutI _ (by repeat (first | exact trivial | refine ⟨rfl, ?_⟩)) ⟨hG, hb4, hH, hK, st2, hr9, .inr ⟨c, a, rfl, hF⟩⟩
    clear hG hb4 hH hK hr9 he hE9 hx
    rintro e w10 ⟨hG, hb4, hH, hK, st', hr10, hE⟩
    obtain ⟨vo, vc, hb6, hy⟩ := hH.gx
    obtain ⟨vo', vc', hb8, hz⟩ := hK.gx
    have l8 := hb8.lt
    (repeat (first | (apply WL.pure; rfl; rfl; rfl) | (apply CW.seq) | (apply CW.region) | (apply WL.ldA; rfl; rfl; rfl; assumption; rfl)))
    refine WL.call rfl rfl rfl (ctwo_ok w10 (F := GXs w0.heap.size [b8, b6, w0.heap.size] w10) (fun b hb => hb.2.1) k hy hz) ?_
    rintro _ w11 ⟨hv, e11⟩
    have hv : GX w0.heap.size [b8, b6, w0.heap.size] w11 _ (.mk k 0 [t, g]) := GX.plus hv e11 (by omega) (fun r hr => by
      simp only [List.mem_cons, List.not_mem_nil, or_false] at hr
      rcases hr with rfl | rfl | rfl <;> omega)
    obtain ⟨uo', uc', rfl, hk'⟩ := Rd.ltl hv
    have hb4 := hb4.ext e11
    have hr11 := hr10.ext e11
    have hE := hE.ext e11
    have hG := grown_tr hG (e11.grw (some rb))
    (repeat (apply WL.pure; rfl; rfl; rfl))
    refine WL.st rfl rfl rfl hb4 rfl rfl (ones_of rfl) (fun w12 hb412 hg12 => ?_)
    (repeat (first | (apply WL.pure; rfl; rfl; rfl) | (apply WL.nil) | (apply EX.thenN) | (apply CW.ret)))
    exact EX.retC2 rfl rfl rfl hb412 rfl ⟨⟨_, _, _, st', rfl, (hv.st hg12 (.inr (by simp))).gl, hr11.kept hg12 (fun b e => by cases e; omega), hE.stT hg12 hb4 (by decide)⟩, grown_new hG hg12 (Nat.le_refl _)⟩
  · rw [hF.err.2]
    (repeat (first | (apply WL.pure; rfl; rfl; rfl) | (apply WL.nil) | (apply EX.thenN) | (apply CW.seq) | (apply CW.region) | (apply WL.pass; rfl; rfl) | (apply CW.condF; rfl) | (apply CW.skip)))
    refine WL.neNil rfl rfl rfl he ?_
    rw [hF.err.2]
    obtain ⟨vo, vc, hb6, hy⟩ := hH.gx
    (repeat (first | (apply WL.pure; rfl; rfl; rfl) | (apply WL.nil) | (apply EX.thenN) | (apply CW.seq) | (apply CW.region) | (apply WL.ldA; rfl; rfl; rfl; assumption; rfl) | (apply CW.condT; rfl)))
    refine WL.st rfl rfl rfl hb4 rfl rfl (ones_of rfl) (fun w8 hb8 hg8 => ?_)
    (repeat (first | (apply WL.pure; rfl; rfl; rfl) | (apply WL.nil) | (apply EX.thenN) | (apply CW.ret) | (apply EX.thenR)))
    exact EX.retC2 rfl rfl rfl hb8 rfl ⟨⟨_, _, t, st1, rfl, (hy.st hg8 (.inr (by simp))).gl, hr5.kept hg8 (fun b e => by cases e; omega), .inr ⟨_, _, rfl, hF.stT hg8 hb4 (by decide)⟩⟩, grown_new hG hg8 (Nat.le_refl _)⟩
set_option maxHeartbeats 1000000 in
theorem cways_ok (a : Bool) {rb : Nat} {s : Bys} {no : Option Addr} {nc : Nat} {nms : List ByteArray} {n o : Nat} {st : Bys × Bys} (w0 : World) (hr : Rdr 139 w0 rb s no nc nms o st) (hs : s.length ≤ 300) (ho : o ≤ 20) (hS : SinOK rb s no nc nms n) (hF : ForOK rb s no nc nms n) (hn : 10 * mT st + 1 ≤ n + 1) :
    Rt Tryz.prog 129 [.pointer (some ⟨rb, 0, none⟩), .int .i64 (allC a 7), .int .i64 (allC a 8), .int .i64 (allC a 9), .int .i64 (allC a 10)].toArray w0 fun v w' => PRs 139 rb s no nc nms o w0.heap.size (cWays nms s.length (n + 1) a o st) v w' ∧ w0.grownBy w' (some rb) := by
  have hrl := hr.lt
  refine Rt.enter5 Tryz.func129 Tryz.ntmps129 rfl rfl ?_
  rw [cWays]
  (repeat (first | (apply CW.seq) | (apply CW.region)))
  refine WL.alloc rfl rfl (fun w1 hb10 e1 => ?_)
  have l10 := hb10.lt
  have hr1 := hr.ext e1
  have hb1 := hr1.blk
  have hG := e1.grw (some rb)
  clear hr
  (repeat (first | (apply WL.pure; rfl; rfl; rfl) | (apply WL.nil) | (apply EX.thenN) | (apply CW.seq) | (apply CW.region) | (apply WL.fa; rfl; rfl; rfl) | (apply WL.nck; rfl; rfl; rfl) | (apply WL.ld; rfl; rfl; rfl; assumption; rfl) | (apply CW.block)))
  rw [txA_eqd]
  refine CW.cond rfl (fun h => ?_) (fun h => ?_)
  · have h1 : st.1 = [88] := of_decide_eq_true h
    have h91 : ¬ st.1 = [91] := by rw [h1]; decide
    have hkw : wayK st.1 = 7 := by rw [h1]; rfl
    rw [if_neg h91, if_neg (by rw [hkw]; decide), hkw]
    have hm1 := mT_nx1 (st := st) (by rw [h1]; decide)
    (repeat (first | (apply WL.pure; rfl; rfl; rfl) | (apply WL.nil) | (apply EX.thenN) | (apply CW.seq) | (apply CW.region) | (apply EX.inN)))
    refine WL.call rfl rfl rfl (cnext_ok w1 hr1 hs) ?_
    rintro _ w2 ⟨hr2, hg2⟩
    have hb10 := hb10.kept hg2 (fun e => by have := Option.some.inj e; omega)
    have hG := grown_tr hG hg2
    have l4 := hb10.lt
    (repeat (first | (apply WL.pure; rfl; rfl; rfl) | (apply WL.nil) | (apply EX.thenN) | (apply CW.seq) | (apply CW.region)))
    refine WL.call rfl rfl rfl (hS n (Nat.le_refl _) o _ w2 hr2 ho (by omega)) ?_
    rintro _ w3 ⟨⟨x, e, t, st1, rfl, hx, hr3, hE3⟩, hg3⟩
    generalize cSin nms s.length n o (nxT st.2) = r1 at *
    have hb10 := hb10.kept hg3 (fun e => by have := Option.some.inj e; omega)
    have hG := grown_tr hG hg3
    have hx : GX w0.heap.size [w0.heap.size] w3 x t := GX.of hx (Nat.le_of_lt l4) (fun r hr => by rw [List.mem_singleton.1 hr]; exact l4)
    have hE3 := hE3.low (B' := w0.heap.size) (Nat.le_of_lt l4)
    have z3 := hg3.size
    obtain ⟨uo, uc, rfl, hk⟩ := Rd.ltl hx
    (repeat (apply WL.pure; rfl; rfl; rfl))
    refine WL.alloc rfl rfl (fun w4 hb13 e4 => ?_)
    have hx := hx.add e4 (Nat.le_refl _)
    have hb10 := hb10.ext e4
    have hr4 := hr3.ext e4
    have hE4 := hE3.ext e4
    have hG := grown_tr hG (e4.grw (some rb))
    have h46 : w0.heap.size < w3.heap.size := by omega
    have l13 := hb13.lt
    generalize hB6 : w3.heap.size = b13 at *
    skip
    refine WL.st rfl rfl rfl hb13 rfl rfl (ones_of rfl) (fun w5 hb135 hg5 => ?_)
    have hx := hx.st hg5 (.inr (List.mem_cons_self ..))
    have hb10 := hb10.kept hg5 (fun e => by have := Option.some.inj e; omega)
    have hr5 := hr4.kept hg5 (fun b e => by cases e; omega)
    have hE5 := hE4.stT hg5 hb13 (by decide)
    have hG := grown_new hG hg5 (by omega)
    have z5 := hg5.size
    (repeat (first | (apply WL.pure; rfl; rfl; rfl) | (apply WL.nil) | (apply EX.thenN) | (apply CW.seq) | (apply CW.region) | (apply WL.ldA; rfl; rfl; rfl; assumption; rfl)))
    refine WL.call rfl rfl rfl (cone_ok w5 (F := GXs w0.heap.size [b13, w0.heap.size] w5) (fun b hb => hb.2.1) (allC a 7) hx) ?_
    rintro _ w11 ⟨hv, e11⟩
    have hv : GX w0.heap.size [b13, w0.heap.size] w11 _ (.mk (allC a 7) 0 [t]) := GX.plus hv e11 (by omega) (fun r hr => by
      simp only [List.mem_cons, List.not_mem_nil, or_false] at hr
      rcases hr with rfl | rfl <;> omega)
    obtain ⟨uo', uc', rfl, hk'⟩ := Rd.ltl hv
    have hb10 := hb10.ext e11
    have hr11 := hr5.ext e11
    have hE := hE5.ext e11
    have hG := grown_tr hG (e11.grw (some rb))
    (repeat (apply WL.pure; rfl; rfl; rfl))
    refine WL.st rfl rfl rfl hb10 rfl rfl (ones_of rfl) (fun w12 hb1012 hg12 => ?_)
    (repeat (first | (apply WL.pure; rfl; rfl; rfl) | (apply WL.nil) | (apply EX.thenN) | (apply CW.ret)))
    refine EX.retC2 rfl rfl rfl hb1012 rfl ⟨⟨_, _, _, st1, rfl, (hv.st hg12 (.inr (by simp))).gl, hr11.kept hg12 (fun b e => by cases e; omega), ?_⟩, grown_new hG hg12 (Nat.le_refl _)⟩
    have hE := hE.stT hg12 hb10 (by decide)
    rcases hE with ⟨h1, h2⟩ | ⟨c, d, h1, h2⟩
    · exact .inl ⟨h1, by rw [h2]⟩
    · exact .inr ⟨c, d, by rw [h1], h2⟩
  have n88 : ¬ st.1 = [88] := of_decide_eq_false h
  clear h
  (repeat (first | (apply WL.pure; rfl; rfl; rfl) | (apply WL.nil) | (apply EX.thenN) | (apply CW.seq) | (apply CW.region)))
  rw [txA_eqd]
  refine CW.cond rfl (fun h => ?_) (fun h => ?_)
  · have h1 : st.1 = [70] := of_decide_eq_true h
    have h91 : ¬ st.1 = [91] := by rw [h1]; decide
    have hkw : wayK st.1 = 8 := by rw [h1]; rfl
    rw [if_neg h91, if_neg (by rw [hkw]; decide), hkw]
    have hm1 := mT_nx1 (st := st) (by rw [h1]; decide)
    (repeat (first | (apply WL.pure; rfl; rfl; rfl) | (apply WL.nil) | (apply EX.thenN) | (apply CW.seq) | (apply CW.region) | (apply EX.inN)))
    refine WL.call rfl rfl rfl (cnext_ok w1 hr1 hs) ?_
    rintro _ w2 ⟨hr2, hg2⟩
    have hb10 := hb10.kept hg2 (fun e => by have := Option.some.inj e; omega)
    have hG := grown_tr hG hg2
    have l4 := hb10.lt
    (repeat (first | (apply WL.pure; rfl; rfl; rfl) | (apply WL.nil) | (apply EX.thenN) | (apply CW.seq) | (apply CW.region)))
    refine WL.call rfl rfl rfl (hS n (Nat.le_refl _) o _ w2 hr2 ho (by omega)) ?_
    rintro _ w3 ⟨⟨x, e, t, st1, rfl, hx, hr3, hE3⟩, hg3⟩
    generalize cSin nms s.length n o (nxT st.2) = r1 at *
    have hb10 := hb10.kept hg3 (fun e => by have := Option.some.inj e; omega)
    have hG := grown_tr hG hg3
    have hx : GX w0.heap.size [w0.heap.size] w3 x t := GX.of hx (Nat.le_of_lt l4) (fun r hr => by rw [List.mem_singleton.1 hr]; exact l4)
    have hE3 := hE3.low (B' := w0.heap.size) (Nat.le_of_lt l4)
    have z3 := hg3.size
    obtain ⟨uo, uc, rfl, hk⟩ := Rd.ltl hx
    (repeat (apply WL.pure; rfl; rfl; rfl))
    refine WL.alloc rfl rfl (fun w4 hb13 e4 => ?_)
    have hx := hx.add e4 (Nat.le_refl _)
    have hb10 := hb10.ext e4
    have hr4 := hr3.ext e4
    have hE4 := hE3.ext e4
    have hG := grown_tr hG (e4.grw (some rb))
    have h46 : w0.heap.size < w3.heap.size := by omega
    have l13 := hb13.lt
    generalize hB6 : w3.heap.size = b13 at *
    skip
    refine WL.st rfl rfl rfl hb13 rfl rfl (ones_of rfl) (fun w5 hb135 hg5 => ?_)
    have hx := hx.st hg5 (.inr (List.mem_cons_self ..))
    have hb10 := hb10.kept hg5 (fun e => by have := Option.some.inj e; omega)
    have hr5 := hr4.kept hg5 (fun b e => by cases e; omega)
    have hE5 := hE4.stT hg5 hb13 (by decide)
    have hG := grown_new hG hg5 (by omega)
    have z5 := hg5.size
    (repeat (first | (apply WL.pure; rfl; rfl; rfl) | (apply WL.nil) | (apply EX.thenN) | (apply CW.seq) | (apply CW.region) | (apply WL.ldA; rfl; rfl; rfl; assumption; rfl)))
    refine WL.call rfl rfl rfl (cone_ok w5 (F := GXs w0.heap.size [b13, w0.heap.size] w5) (fun b hb => hb.2.1) (allC a 8) hx) ?_
    rintro _ w11 ⟨hv, e11⟩
    have hv : GX w0.heap.size [b13, w0.heap.size] w11 _ (.mk (allC a 8) 0 [t]) := GX.plus hv e11 (by omega) (fun r hr => by
      simp only [List.mem_cons, List.not_mem_nil, or_false] at hr
      rcases hr with rfl | rfl <;> omega)
    obtain ⟨uo', uc', rfl, hk'⟩ := Rd.ltl hv
    have hb10 := hb10.ext e11
    have hr11 := hr5.ext e11
    have hE := hE5.ext e11
    have hG := grown_tr hG (e11.grw (some rb))
    (repeat (apply WL.pure; rfl; rfl; rfl))
    refine WL.st rfl rfl rfl hb10 rfl rfl (ones_of rfl) (fun w12 hb1012 hg12 => ?_)
    (repeat (first | (apply WL.pure; rfl; rfl; rfl) | (apply WL.nil) | (apply EX.thenN) | (apply CW.ret)))
    refine EX.retC2 rfl rfl rfl hb1012 rfl ⟨⟨_, _, _, st1, rfl, (hv.st hg12 (.inr (by simp))).gl, hr11.kept hg12 (fun b e => by cases e; omega), ?_⟩, grown_new hG hg12 (Nat.le_refl _)⟩
    have hE := hE.stT hg12 hb10 (by decide)
    rcases hE with ⟨h1, h2⟩ | ⟨c, d, h1, h2⟩
    · exact .inl ⟨h1, by rw [h2]⟩
    · exact .inr ⟨c, d, by rw [h1], h2⟩
  have n70 : ¬ st.1 = [70] := of_decide_eq_false h
  clear h
  (repeat (first | (apply WL.pure; rfl; rfl; rfl) | (apply WL.nil) | (apply EX.thenN) | (apply CW.seq) | (apply CW.region)))
  rw [txA_eqd]
  refine CW.cond rfl (fun h => ?_) (fun h => ?_)
  · have h1 : st.1 = [71] := of_decide_eq_true h
    have h91 : ¬ st.1 = [91] := by rw [h1]; decide
    have hkw : wayK st.1 = 9 := by rw [h1]; rfl
    rw [if_neg h91, if_neg (by rw [hkw]; decide), hkw]
    have hm1 := mT_nx1 (st := st) (by rw [h1]; decide)
    (repeat (first | (apply WL.pure; rfl; rfl; rfl) | (apply WL.nil) | (apply EX.thenN) | (apply CW.seq) | (apply CW.region) | (apply EX.inN)))
    refine WL.call rfl rfl rfl (cnext_ok w1 hr1 hs) ?_
    rintro _ w2 ⟨hr2, hg2⟩
    have hb10 := hb10.kept hg2 (fun e => by have := Option.some.inj e; omega)
    have hG := grown_tr hG hg2
    have l4 := hb10.lt
    (repeat (first | (apply WL.pure; rfl; rfl; rfl) | (apply WL.nil) | (apply EX.thenN) | (apply CW.seq) | (apply CW.region)))
    refine WL.call rfl rfl rfl (hS n (Nat.le_refl _) o _ w2 hr2 ho (by omega)) ?_
    rintro _ w3 ⟨⟨x, e, t, st1, rfl, hx, hr3, hE3⟩, hg3⟩
    generalize cSin nms s.length n o (nxT st.2) = r1 at *
    have hb10 := hb10.kept hg3 (fun e => by have := Option.some.inj e; omega)
    have hG := grown_tr hG hg3
    have hx : GX w0.heap.size [w0.heap.size] w3 x t := GX.of hx (Nat.le_of_lt l4) (fun r hr => by rw [List.mem_singleton.1 hr]; exact l4)
    have hE3 := hE3.low (B' := w0.heap.size) (Nat.le_of_lt l4)
    have z3 := hg3.size
    obtain ⟨uo, uc, rfl, hk⟩ := Rd.ltl hx
    (repeat (apply WL.pure; rfl; rfl; rfl))
    refine WL.alloc rfl rfl (fun w4 hb13 e4 => ?_)
    have hx := hx.add e4 (Nat.le_refl _)
    have hb10 := hb10.ext e4
    have hr4 := hr3.ext e4
    have hE4 := hE3.ext e4
    have hG := grown_tr hG (e4.grw (some rb))
    have h46 : w0.heap.size < w3.heap.size := by omega
    have l13 := hb13.lt
    generalize hB6 : w3.heap.size = b13 at *
    skip
    refine WL.st rfl rfl rfl hb13 rfl rfl (ones_of rfl) (fun w5 hb135 hg5 => ?_)
    have hx := hx.st hg5 (.inr (List.mem_cons_self ..))
    have hb10 := hb10.kept hg5 (fun e => by have := Option.some.inj e; omega)
    have hr5 := hr4.kept hg5 (fun b e => by cases e; omega)
    have hE5 := hE4.stT hg5 hb13 (by decide)
    have hG := grown_new hG hg5 (by omega)
    have z5 := hg5.size
    (repeat (first | (apply WL.pure; rfl; rfl; rfl) | (apply WL.nil) | (apply EX.thenN) | (apply CW.seq) | (apply CW.region) | (apply WL.ldA; rfl; rfl; rfl; assumption; rfl)))
    refine WL.call rfl rfl rfl (cone_ok w5 (F := GXs w0.heap.size [b13, w0.heap.size] w5) (fun b hb => hb.2.1) (allC a 9) hx) ?_
    rintro _ w11 ⟨hv, e11⟩
    have hv : GX w0.heap.size [b13, w0.heap.size] w11 _ (.mk (allC a 9) 0 [t]) := GX.plus hv e11 (by omega) (fun r hr => by
      simp only [List.mem_cons, List.not_mem_nil, or_false] at hr
      rcases hr with rfl | rfl <;> omega)
    obtain ⟨uo', uc', rfl, hk'⟩ := Rd.ltl hv
    have hb10 := hb10.ext e11
    have hr11 := hr5.ext e11
    have hE := hE5.ext e11
    have hG := grown_tr hG (e11.grw (some rb))
    (repeat (apply WL.pure; rfl; rfl; rfl))
    refine WL.st rfl rfl rfl hb10 rfl rfl (ones_of rfl) (fun w12 hb1012 hg12 => ?_)
    (repeat (first | (apply WL.pure; rfl; rfl; rfl) | (apply WL.nil) | (apply EX.thenN) | (apply CW.ret)))
    refine EX.retC2 rfl rfl rfl hb1012 rfl ⟨⟨_, _, _, st1, rfl, (hv.st hg12 (.inr (by simp))).gl, hr11.kept hg12 (fun b e => by cases e; omega), ?_⟩, grown_new hG hg12 (Nat.le_refl _)⟩
    have hE := hE.stT hg12 hb10 (by decide)
    rcases hE with ⟨h1, h2⟩ | ⟨c, d, h1, h2⟩
    · exact .inl ⟨h1, by rw [h2]⟩
    · exact .inr ⟨c, d, by rw [h1], h2⟩
  have n71 : ¬ st.1 = [71] := of_decide_eq_false h
  clear h
  (repeat (first | (apply WL.pure; rfl; rfl; rfl) | (apply WL.nil) | (apply EX.thenN) | (apply CW.seq) | (apply CW.region)))
  rw [txA_eqd]
  refine CW.cond rfl (fun h => ?_) (fun h => ?_)
  · have h91 : st.1 = [91] := of_decide_eq_true h
    rw [if_pos h91]
    have hlt : st.2.length + 1 = mT st := by unfold mT; rw [h91]; simp; omega
    obtain ⟨n, rfl⟩ : ∃ k, n = k + 1 := ⟨n - 1, by omega⟩
    (repeat (first | (apply WL.pure; rfl; rfl; rfl) | (apply CW.seq) | (apply CW.region)))
    refine WL.call rfl rfl rfl (cuntil_ok (n := n) w1 hr1 hs ho (fun m hm => hF m (by omega)) (by omega) (allC a 10)) ?_
    rintro _ w3 ⟨⟨x, e, t, st1, rfl, hx, hr3, hE3⟩, hg3⟩
    have hb10 := hb10.kept hg3 (fun e => by have := Option.some.inj e; omega)
    have hG := grown_tr hG hg3
    have hx : GX w0.heap.size [w0.heap.size] w3 x t := GX.of hx (Nat.le_of_lt l10) (fun r hr => by rw [List.mem_singleton.1 hr]; exact l10)
    have hE3 := hE3.low (B' := w0.heap.size) (Nat.le_of_lt l10)
    obtain ⟨uo, uc, rfl, hk⟩ := Rd.ltl hx
    (repeat (apply WL.pure; rfl; rfl; rfl))
    refine WL.st rfl rfl rfl hb10 rfl rfl (ones_of rfl) (fun w4 hb4 hg4 => ?_)
    (repeat (first | (apply WL.pure; rfl; rfl; rfl) | (apply WL.nil) | (apply EX.thenN) | (apply CW.ret) | (apply EX.thenR) | (apply EX.inR)))
    exact EX.retC2 rfl rfl rfl hb4 rfl ⟨⟨_, _, t, st1, rfl, (hx.st hg4 (.inr (by simp))).gl, hr3.kept hg4 (fun b e => by cases e; omega), hE3.stT hg4 hb10 (by decide)⟩, grown_new hG hg4 (Nat.le_refl _)⟩
  have n91 : ¬ st.1 = [91] := of_decide_eq_false h
  rw [if_neg n91, if_pos (by unfold wayK; rw [if_neg n88, if_neg n70, if_neg n71])]
  clear h
  (repeat (first | (apply CW.seq) | (apply CW.region)))
  refine WL.build (parts := []) rfl rfl rfl rfl ?_
  (repeat (apply WL.pure; rfl; rfl; rfl))
  refine WL.call rfl rfl rfl (cwrong_ok w1 hr1 3) ?_
  rintro _ w6 ⟨rfl, hf6, e6⟩
  have hb106 := hb10.ext e6
  have hr6 := hr1.ext e6
  have hG := grown_tr hG (e6.grw _)
  skip
  refine WL.st rfl rfl rfl hb106 rfl rfl (ones_of rfl) (fun w7 hb7 hg7 => ?_)
  (repeat (first | (apply WL.pure; rfl; rfl; rfl) | (apply WL.nil) | (apply EX.thenN) | (apply CW.ret) | (apply EX.thenR) | (apply EX.inR)))
  refine EX.retC2 rfl rfl rfl hb7 rfl ⟨?_, grown_new hG hg7 (Nat.le_refl _)⟩
  exact ⟨_, _, _, st, rfl, GL.zero 0 0, hr6.kept hg7 (fun b e => by cases e; omega), .inr ⟨_, _, rfl, _, rfl, Nat.le_of_lt l10, hf6.kept hg7 (fun e => by have := Option.some.inj e; omega)⟩⟩
theorem csin1_ok {rb : Nat} {s : Bys} {no : Option Addr} {nc : Nat} {nms : List ByteArray} {n o : Nat} {st : Bys × Bys} (w0 : World) (hr : Rdr 139 w0 rb s no nc nms o st) (hs : s.length ≤ 300) (ho : o ≤ 20) (hS : SinOK rb s no nc nms n) (hF : ForOK rb s no nc nms n) (hn : 10 * mT st + 1 ≤ n + 1) {b : Nat} (hb : Blk w0 b 137 [.pointer (some ⟨rb, 0, none⟩)]) :
    Rt Tryz.prog 128 [.pointer (some ⟨b, 0, none⟩)].toArray w0 fun v w' => PRs 139 rb s no nc nms o w0.heap.size (cWays nms s.length (n + 1) false o st) v w' ∧ w0.grownBy w' (some rb) := by
  have hrl := hr.lt
  refine Rt.enter1 Tryz.func128 Tryz.ntmps128 rfl rfl ?_
  (repeat (first | (apply CW.seq) | (apply CW.region)))
  refine WL.alloc rfl rfl (fun w1 hb10 e1 => ?_)
  have l10 := hb10.lt
  have hr1 := hr.ext e1
  have hb1 := hb.ext e1
  have hG := e1.grw (some rb)
  (repeat (first | (apply WL.pure; rfl; rfl; rfl) | (apply WL.nil) | (apply EX.thenN) | (apply CW.seq) | (apply CW.region) | (apply WL.ld; rfl; rfl; rfl; assumption; rfl)))
  have hw := cways_ok false w1 hr1 hs ho hS hF hn
  rw [show allC false 7 = 7 from rfl, show allC false 8 = 8 from rfl, show allC false 9 = 9 from rfl, show allC false 10 = 10 from rfl] at hw
  refine WL.call rfl rfl rfl hw ?_
  rintro _ w3 ⟨⟨x, e, t, st1, rfl, hx, hr3, hE3⟩, hg3⟩
  have hb10 := hb10.kept hg3 (fun e => by have := Option.some.inj e; omega)
  have hG := grown_tr hG hg3
  have hx : GX w0.heap.size [w0.heap.size] w3 x t := GX.of hx (Nat.le_of_lt l10) (fun r hr => by rw [List.mem_singleton.1 hr]; exact l10)
  have hE3 := hE3.low (B' := w0.heap.size) (Nat.le_of_lt l10)
  obtain ⟨uo, uc, rfl, hk⟩ := Rd.ltl hx
  (repeat (apply WL.pure; rfl; rfl; rfl))
  refine WL.st rfl rfl rfl hb10 rfl rfl (ones_of rfl) (fun w4 hb4 hg4 => ?_)
  (repeat (first | (apply WL.pure; rfl; rfl; rfl) | (apply WL.nil) | (apply EX.thenN) | (apply CW.ret)))
  exact EX.retC2 rfl rfl rfl hb4 rfl ⟨⟨_, _, t, st1, rfl, (hx.st hg4 (.inr (by simp))).gl, hr3.kept hg4 (fun b e => by cases e; omega), hE3.stT hg4 hb10 (by decide)⟩, grown_new hG hg4 (Nat.le_refl _)⟩
theorem csin2_ok {rb : Nat} {s : Bys} {no : Option Addr} {nc : Nat} {nms : List ByteArray} {n o : Nat} {st : Bys × Bys} (w0 : World) (hr : Rdr 139 w0 rb s no nc nms o st) (hs : s.length ≤ 300) (ho : o ≤ 20) (hS : SinOK rb s no nc nms n) (hF : ForOK rb s no nc nms n) (hn : 10 * mT st + 1 ≤ n + 1) {b : Nat} (hb : Blk w0 b 137 [.pointer (some ⟨rb, 0, none⟩)]) :
    Rt Tryz.prog 130 [.pointer (some ⟨b, 0, none⟩)].toArray w0 fun v w' => PRs 139 rb s no nc nms o w0.heap.size (cWays nms s.length (n + 1) true o st) v w' ∧ w0.grownBy w' (some rb) := by
  have hrl := hr.lt
  refine Rt.enter1 Tryz.func130 Tryz.ntmps130 rfl rfl ?_
  (repeat (first | (apply CW.seq) | (apply CW.region)))
  refine WL.alloc rfl rfl (fun w1 hb10 e1 => ?_)
  have l10 := hb10.lt
  have hr1 := hr.ext e1
  have hb1 := hb.ext e1
  have hG := e1.grw (some rb)
  (repeat (first | (apply WL.pure; rfl; rfl; rfl) | (apply WL.nil) | (apply EX.thenN) | (apply CW.seq) | (apply CW.region) | (apply WL.ld; rfl; rfl; rfl; assumption; rfl)))
  have hw := cways_ok true w1 hr1 hs ho hS hF hn
  rw [show allC true 7 = 11 from rfl, show allC true 8 = 12 from rfl, show allC true 9 = 13 from rfl, show allC true 10 = 14 from rfl] at hw
  refine WL.call rfl rfl rfl hw ?_
  rintro _ w3 ⟨⟨x, e, t, st1, rfl, hx, hr3, hE3⟩, hg3⟩
  have hb10 := hb10.kept hg3 (fun e => by have := Option.some.inj e; omega)
  have hG := grown_tr hG hg3
  have hx : GX w0.heap.size [w0.heap.size] w3 x t := GX.of hx (Nat.le_of_lt l10) (fun r hr => by rw [List.mem_singleton.1 hr]; exact l10)
  have hE3 := hE3.low (B' := w0.heap.size) (Nat.le_of_lt l10)
  obtain ⟨uo, uc, rfl, hk⟩ := Rd.ltl hx
  (repeat (apply WL.pure; rfl; rfl; rfl))
  refine WL.st rfl rfl rfl hb10 rfl rfl (ones_of rfl) (fun w4 hb4 hg4 => ?_)
  (repeat (first | (apply WL.pure; rfl; rfl; rfl) | (apply WL.nil) | (apply EX.thenN) | (apply CW.ret)))
  exact EX.retC2 rfl rfl rfl hb4 rfl ⟨⟨_, _, t, st1, rfl, (hx.st hg4 (.inr (by simp))).gl, hr3.kept hg4 (fun b e => by cases e; omega), hE3.stT hg4 hb10 (by decide)⟩, grown_new hG hg4 (Nat.le_refl _)⟩
end Go.Proofs.YtikigaeihdmcaaaGreatDoor

