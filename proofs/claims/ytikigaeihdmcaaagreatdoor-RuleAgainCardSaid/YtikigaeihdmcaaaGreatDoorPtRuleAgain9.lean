import Derived.Stop.IfaceNil
import Derived.Test.YtikigaeihdmcaaaGreatDoorPtRuleAgain8
/-
  rule.Print, walked.
-/
set_option linter.unusedVariables false
set_option linter.unusedSimpArgs false
namespace Go.Proofs.YtikigaeihdmcaaaGreatDoor
open Go.RowKit

theorem rl_parts {r : LRule} {nms : List ByteArray} (h : chkRl r nms = 0) : namedB r.1 = true ∧ ((r.2.1 = 1 ∧ chkP r.2.2.1 = 0) ∨ (r.2.1 = 2 ∧ chkT r.2.2.2.1 = 0) ∨ r.2.1 = 3 ∨ r.2.1 = 4) := by
  unfold chkRl at h
  split at h
  · cases h
  split at h
  · rename_i h1 h2; exact absurd h h2
  rename_i h1 h2
  simp only [not_or, Bool.not_eq_false] at h1
  obtain ⟨hn, hs1, hs4⟩ := h1
  have hpe : partE0 r nms = 0 := by
    apply Classical.byContradiction
    intro hx
    unfold partE at h2
    rw [if_neg (fun h => hx h.1)] at h2
    exact h2 hx
  refine ⟨hn, ?_⟩
  unfold partE0 at hpe
  by_cases h1 : r.2.1 = 1
  · rw [if_pos h1] at hpe; exact .inl ⟨h1, hpe⟩
  rw [if_neg h1] at hpe
  by_cases h2 : r.2.1 = 2
  · rw [if_pos h2] at hpe; exact .inr (.inl ⟨h2, hpe⟩)
  omega
theorem chkP_bd {pt : LPat} (hc : chkP pt = 0) : 1 ≤ pt.1 ∧ pt.1 ≤ 6 ∧ 1 ≤ pt.2.1 ∧ pt.2.1 ≤ 5 ∧ 0 ≤ pt.2.2.2.2.2.2 ∧ pt.2.2.2.2.2.2 ≤ 3 := by
  unfold chkP at hc
  split at hc
  · cases hc
  split at hc
  · cases hc
  split at hc
  · cases hc
  omega
theorem chkT_bd {tp : LTpl} (hc : chkT tp = 0) : 1 ≤ tp.1 ∧ tp.1 ≤ 14 ∧ 0 ≤ tp.2.2.2 ∧ tp.2.2.2 ≤ 3 := by
  unfold chkT at hc
  split at hc
  · cases hc
  split at hc
  · cases hc
  rename_i q1 q2
  by_cases hq : countedB tp.1 = true
  · simp [hq] at q2; omega
  · simp [hq] at q2; omega
theorem kindT_len {k : Int} (h1 : 1 ≤ k) (h2 : k ≤ 6) : (kindT k).length ≤ 10 := (firstW_kind h1 h2).2.2.2.2.2
theorem scopT_len {k : Int} (h1 : 1 ≤ k) (h2 : k ≤ 5) : (scopT k).length ≤ 10 := (firstW_scop h1 h2).2.2
theorem tempT_len {k : Int} (h1 : 1 ≤ k) (h2 : k ≤ 14) : (tempT k).length ≤ 10 := (firstW_temp h1 h2).2.2
theorem dgT_len (k : Int) : (dgT k).length = 1 := rfl
theorem ownA_len (pt : LPat) : (ownA pt).length ≤ 2 := by unfold ownA; split <;> simp
theorem scopeA_len (pt : LPat) : (scopeA pt).length ≤ 2 := by unfold scopeA; split <;> (try split) <;> (try split) <;> simp
/-- what is kept while the words are put together -/
structure PW (w2 w : World) (B b2 b8 : Nat) (e8 : TypeId) (c2 c8 : List Value) (v u1 u2 : Value) (l : List ByteArray) (x1 x2 : List Int) : Prop where
  own : Own w B 9 Non v l
  o1 : Own w B 3 Non u1 x1
  o2 : Own w B 3 Non u2 x2
  h2 : Blk w b2 33 c2
  h8 : Blk w b8 e8 c8
  X : Below B w2 w
  ge : B ≤ w2.heap.size
section
variable {w2 w w' : World} {B b2 b8 : Nat} {e8 : TypeId} {c2 c8 : List Value} {v v' u1 u2 : Value} {l l' : List ByteArray} {x1 x2 : List Int}
theorem PW.sz (h : PW w2 w B b2 b8 e8 c2 c8 v u1 u2 l x1 x2) : B ≤ w.heap.size := Nat.le_trans h.ge h.X.size
theorem PW.ext (h : PW w2 w B b2 b8 e8 c2 c8 v u1 u2 l x1 x2) (hE : Ext w w') : PW w2 w' B b2 b8 e8 c2 c8 v u1 u2 l x1 x2 :=
  ⟨h.own.extN hE, h.o1.extN hE, h.o2.extN hE, h.h2.ext hE, h.h8.ext hE, h.X.trans (hE.mono h.sz), h.ge⟩
theorem PW.app (h : PW w2 w B b2 b8 e8 c2 c8 v u1 u2 l x1 x2) (ho : Own w' B 9 Non v' l') (hg : w.grownBy w' v.ownBlock) (h8 : 9 ≠ e8) : PW w2 w' B b2 b8 e8 c2 c8 v' u1 u2 l' x1 x2 :=
  ⟨ho, h.o1.keptN hg (fun g k e => own_ap h.own h.o1 (by decide) g e.symm k), h.o2.keptN hg (fun g k e => own_ap h.own h.o2 (by decide) g e.symm k), h.h2.kept hg (fun e => own_blk h.own h.h2 (by decide) e.symm), h.h8.kept hg (fun e => own_blk h.own h.h8 h8 e.symm),
    h.X.grown hg h.sz (fun k e => (h.own.lt k e).1), h.ge⟩
end
set_option maxHeartbeats 4000000 in
theorem rprint_ok (w0 : World) {r : LRule} {lo co no : Option Addr} {lc cc nc : Nat} {nms : List ByteArray} (hl : Sl w0 (Old w0) lo lc r.2.2.2.2.1.kids) (hc : Sl w0 (Old w0) co cc r.2.2.2.2.2.kids) (hn : Sl w0 (Old w0) no nc nms) (hsz : r.1.size ≤ maxLen) :
    Rt Tryz.prog 6 [rulV r lo lc co cc, .slice no nms.length nc].toArray w0 fun v w' => v = .tuple ⟨[tV (printR r nms).1, .int .i64 (printR r nms).2]⟩ ∧ Ext w0 w' := by
  refine Rt.enter2 Tryz.func6 Tryz.ntmps6 rfl rfl ?_
  unfold printR
  have hw0 : wordsR r nms = wordsR r nms := rfl
  obtain ⟨nm, so, pt, tp, lt, ct⟩ := r
  dsimp only at hl hc hsz
  have hchk := fun w (e : Ext w0 w) => rcheck_ok w (r := (nm, so, pt, tp, lt, ct)) (hl.up e) (hc.up e) (hn.up e)
  have hpt := fun h => rl_parts (r := (nm, so, pt, tp, lt, ct)) (nms := nms) h
  unfold wordsR at hw0 ⊢
  unfold rulV at hchk ⊢
  dsimp only at hchk hpt hw0 ⊢
  clear hw0
  (repeat (first | (apply CW.seq) | (apply CW.region)))
  refine WL.boxB rfl rfl rfl fun w1 hb2 e1 => ?_
  (repeat (first | (apply WL.pure; rfl; rfl; rfl) | (apply WL.nil) | (apply EX.thenN) | (apply CW.seq) | (apply CW.region) | (apply WL.ldA; rfl; rfl; rfl; assumption; rfl)))
  refine WL.call rfl rfl rfl (hchk w1 e1) ?_
  rintro _ w2 ⟨rfl, e2⟩
  have hE := e1.trans e2
  have hb2 := hb2.ext e2
  (repeat (first | (apply WL.pure; rfl; rfl; rfl) | (apply WL.nil) | (apply EX.thenN) | (apply CW.seq) | (apply CW.region)))
  refine CW.cond rfl (fun h => ?_) (fun h => ?_)
  · have h : chkRl (nm, so, pt, tp, lt, ct) nms ≠ 0 := by simpa using h
    (repeat (first | (apply WL.pure; rfl; rfl; rfl) | (apply WL.nil) | (apply EX.thenN) | (apply CW.seq) | (apply CW.region) | (apply CW.ret) | (apply EX.thenR)))
    rw [if_pos h]
    exact EX.ret2 rfl rfl rfl ⟨rfl, hE⟩
  have hz : chkRl (nm, so, pt, tp, lt, ct) nms = 0 := by simpa using h
  clear h hchk
  obtain ⟨hnb, hpt⟩ := hpt hz
  rw [if_neg (by simpa using hz)]
  clear hz
  have hnl : nm.size ≤ 8 := by rw [← size_len]; exact (named_no hnb).2.2
  clear hnb
  (repeat (first | (apply EX.thenN) | (apply CW.seq) | (apply CW.region) | (apply WL.fa; rfl; rfl; rfl) | (apply WL.ld; rfl; rfl; rfl; assumption; rfl) | (apply CW.skip)))
  refine WL.lit (α := ByteArray) (F := Non) (ys := [nm]) rfl rfl rfl rfl rfl (.cons (Rd.mkStr _ _ _ hsz) .nil) (by show 1 * 1 ≤ 16777216; decide) (fun _ h => h.elim) (fun w3 ho3 hg3 => ?_)
  have e3 : Ext w2 w3 := (Ext.refl _).grown hg3 (Nat.le_refl _) (fun k h => by cases h)
  have hb2 := hb2.ext e3
  clear hg3
  have l2 := hb2.lt
  have hX : Below w2.heap.size w2 w3 := e3
  clear e3
  obtain ⟨W, hW⟩ : ∃ W : List Bys, W = nm.data.toList :: (if so = 1 then
      kindT pt.1 :: ((if pt.1 = 4 then [dgT pt.2.2.2.2.2.2] else []) ++ ((ownA pt).map fun n => rnmL nms n true) ++ scopT pt.2.1 :: ((scopeA pt).map fun n => rnmL nms n true))
    else if so = 2 then
      tDecl :: tempT tp.1 :: rnmL nms tp.2.1 false :: ((if 0 < tp.2.2.2 then [dgT tp.2.2.2] else []) ++ (if aloneB tp.1 = true then [] else [rnmL nms tp.2.2.1 false]))
    else if so = 3 then [tLtl, (printL lt nms).1] else [tCtl, (printC ct nms).1]) := ⟨_, rfl⟩
  rw [← hW]
  have hn3 := (hn.up hE).up hX
  have hl3 := (hl.up hE).up hX
  have hc3 := (hc.up hE).up hX
  have hnm : nm = txA (bysA nm) := (txA_eta nm).symm
  have hnl' : (bysA nm).length ≤ 8 := by rw [size_len]; exact hnl
  (repeat (first | (apply WL.pure; rfl; rfl; rfl) | (apply WL.nil) | (apply EX.thenN) | (apply CW.seq) | (apply CW.region) | (apply WL.fa; rfl; rfl; rfl) | (apply WL.ld; rfl; rfl; rfl; assumption; rfl) | (apply CW.block)))
  refine CW.cond rfl (fun h => ?_) (fun h => ?_)
  · obtain rfl : so = 1 := by simpa using h
    clear h
    have hcp : chkP pt = 0 := by
      rcases hpt with h | h | h | h
      · exact h.2
      · exact absurd h.1 (by decide)
      · exact absurd h (by decide)
      · exact absurd h (by decide)
    clear hpt
    have hk := chkP_bd hcp
    have hkl := kindT_len hk.1 hk.2.1
    have hsl := scopT_len hk.2.2.1 hk.2.2.2.1
    have hoA := ownA_len pt
    have hsA := scopeA_len pt
    rw [if_pos rfl] at hW
    (repeat (first | (apply CW.seq) | (apply CW.region) | (apply WL.fa; rfl; rfl; rfl) | (apply WL.ldA; rfl; rfl; rfl; assumption; rfl)))
    refine WL.alloc rfl rfl (fun w4 hb8 e4 => ?_)
    skip
    refine WL.st rfl rfl rfl hb8 rfl rfl (ones_of rfl) (fun w5 hb8 hg5 => ?_)
    have e5 : Ext w3 w5 := e4.grown hg5 e4.size (fun g hg => by cases hg; exact Nat.le_refl _)
    clear e4 hg5
    (repeat (first | (apply WL.nil) | (apply EX.thenN) | (apply CW.seq) | (apply CW.region) | (apply WL.ldA; rfl; rfl; rfl; assumption; rfl)))
    refine WL.call rfl rfl rfl (atoms_ok w5 pt) ?_
    rintro _ w6 ⟨⟨u1, u2, rfl, hu1, hu2⟩, e6⟩
    have e56 := e5.trans e6
    have hP : PW w2 w6 w2.heap.size w0.heap.size w3.heap.size 23 _ _ _ u1 u2 [nm] (ownA pt) (scopeA pt) :=
      ⟨ho3.extN e56, hu1.low (Nat.le_trans hX.size e5.size), hu2.low (Nat.le_trans hX.size e5.size), hb2.ext e56, hb8.ext e6, hX.trans (e56.mono hX.size), Nat.le_refl _⟩
    clear hb2 hb8 ho3 hu1 hu2 e5 e6 e56
    have hb8 := hP.h8
    (repeat (first | (apply WL.pure; rfl; rfl; rfl) | (apply WL.nil) | (apply EX.thenN) | (apply CW.seq) | (apply CW.region) | (apply WL.fa; rfl; rfl; rfl) | (apply WL.ld; rfl; rfl; rfl; assumption; rfl)))
    refine WL.call rfl rfl rfl (kindWd_ok w6 hk.1 hk.2.1) ?_
    rintro _ w11 ⟨rfl, e⟩
    have hP := hP.ext e
    skip
    refine WL.app1 (α := ByteArray) (F := Non) (yv := txA (kindT pt.1)) rfl rfl (fun _ => rfl) rfl rfl (fun _ => rfl) hP.own (Rd.mkStr _ _ _ (by rw [txA_size]; unfold maxLen; omega)) hP.sz (fun _ h => h.elim) (by decide) (by unfold maxLen; simp only [List.length_append, List.length_cons, List.length_nil, List.length_map]; omega) (by simp only [List.length_append, List.length_cons, List.length_nil, List.length_map]; omega) (fun v12 w12 q12 ho hg hnb => ?_)
    have hP := hP.app ho hg (by decide)
    clear ho hg hnb
    have hb8 := hP.h8
    (repeat (first | (apply WL.pure; rfl; rfl; rfl) | (apply WL.nil) | (apply EX.thenN) | (apply CW.seq) | (apply CW.region) | (apply WL.fa; rfl; rfl; rfl) | (apply WL.ld; rfl; rfl; rfl; assumption; rfl)))
    refine CW.cond rfl (fun h => ?_) (fun h => ?_)
    · have h4 : pt.1 = 4 := by simpa using h
      clear h
      rw [if_pos h4] at hW
      (repeat (first | (apply WL.pure; rfl; rfl; rfl) | (apply CW.region) | (apply WL.fa; rfl; rfl; rfl) | (apply WL.ld; rfl; rfl; rfl; assumption; rfl)))
      refine WL.call rfl rfl rfl (rdigit_ok _ hk.2.2.2.2.1 hk.2.2.2.2.2) ?_
      rintro _ w62 ⟨rfl, e⟩
      have hP := hP.ext e
      have hdl := dgT_len pt.2.2.2.2.2.2
      skip
      refine WL.app1 (α := ByteArray) (F := Non) (yv := txA (dgT pt.2.2.2.2.2.2)) rfl rfl (fun _ => rfl) rfl rfl (fun _ => rfl) hP.own (Rd.mkStr _ _ _ (by rw [txA_size]; unfold maxLen; omega)) hP.sz (fun _ h => h.elim) (by decide) (by unfold maxLen; simp only [List.length_append, List.length_cons, List.length_nil, List.length_map]; omega) (by simp only [List.length_append, List.length_cons, List.length_nil, List.length_map]; omega) (fun v63 w63 q63 ho hg hnb => ?_)
      have hP := hP.app ho hg (by decide)
      clear ho hg hnb
      obtain ⟨ao, ac, hav⟩ := hP.o1.val
      obtain ⟨bo, bc, hbv⟩ := hP.o2.val
      subst hav
      subst hbv
      obtain ⟨xo, xc, he, ha⟩ := hP.o1.oldN.sl
      obtain ⟨rfl, _, rfl⟩ := Value.slice.inj he
      have hnw := hn.up (hE.trans hP.X)
      (repeat (first | (apply WL.pure; rfl; rfl; rfl) | (apply WL.nil) | (apply EX.thenN) | (apply CW.seq) | (apply CW.region)))
      refine WL.call rfl rfl rfl (rwords_ok _ ha hnw (by omega)) ?_
      rintro wv wA ⟨howv, e⟩
      have hP := hP.ext e
      obtain ⟨wo, wc, hwv⟩ := howv.val
      subst hwv
      skip
      refine WL.app (α := ByteArray) (F := Non) rfl rfl rfl rfl hP.own howv.src hP.sz (fun _ h => h.elim) (by unfold maxLen; simp only [List.length_append, List.length_cons, List.length_nil, List.length_map]; omega) (by simp only [List.length_append, List.length_cons, List.length_nil, List.length_map]; omega) (fun v64 w64 ho hg hnb => ?_)
      have hP := hP.app ho hg (by decide)
      clear ho hg hnb
      have hb8 := hP.h8
      (repeat (first | (apply WL.pure; rfl; rfl; rfl) | (apply WL.nil) | (apply EX.thenN) | (apply CW.region) | (apply WL.fa; rfl; rfl; rfl) | (apply WL.ld; rfl; rfl; rfl; assumption; rfl)))
      refine WL.call rfl rfl rfl (scopWd_ok _ hk.2.2.1 hk.2.2.2.1) ?_
      rintro _ w65 ⟨rfl, e⟩
      have hP := hP.ext e
      skip
      refine WL.app1 (α := ByteArray) (F := Non) (yv := txA (scopT pt.2.1)) rfl rfl (fun _ => rfl) rfl rfl (fun _ => rfl) hP.own (Rd.mkStr _ _ _ (by rw [txA_size]; unfold maxLen; omega)) hP.sz (fun _ h => h.elim) (by decide) (by unfold maxLen; simp only [List.length_append, List.length_cons, List.length_nil, List.length_map]; omega) (by simp only [List.length_append, List.length_cons, List.length_nil, List.length_map]; omega) (fun v66 w66 q66 ho hg hnb => ?_)
      have hP := hP.app ho hg (by decide)
      clear ho hg hnb
      obtain ⟨xo, xc, he, hb⟩ := hP.o2.oldN.sl
      obtain ⟨rfl, _, rfl⟩ := Value.slice.inj he
      have hnw := hn.up (hE.trans hP.X)
      (repeat (apply WL.pure; rfl; rfl; rfl))
      refine WL.call rfl rfl rfl (rwords_ok _ hb hnw (by omega)) ?_
      rintro wv2 wB ⟨howv2, e⟩
      have hP := hP.ext e
      obtain ⟨wo2, wc2, hwv2⟩ := howv2.val
      subst hwv2
      skip
      refine WL.app (α := ByteArray) (F := Non) rfl rfl rfl rfl hP.own howv2.src hP.sz (fun _ h => h.elim) (by unfold maxLen; simp only [List.length_append, List.length_cons, List.length_nil, List.length_map]; omega) (by simp only [List.length_append, List.length_cons, List.length_nil, List.length_map]; omega) (fun v67 w67 ho hg hnb => ?_)
      have hP := hP.app ho hg (by decide)
      clear ho hg hnb
      (repeat (first | (apply WL.pure; rfl; rfl; rfl) | (apply WL.nil) | (apply EX.thenN) | (apply CW.seq) | (apply CW.region) | (apply EX.inN)))
      obtain ⟨zo, zc, hzv⟩ := hP.own.val
      subst hzv
      obtain ⟨yo, yc, he, hys⟩ := hP.own.oldN.sl
      obtain ⟨rfl, _, rfl⟩ := Value.slice.inj he
      refine WL.call rfl rfl rfl (rjoin_ok _ hys (by simp only [List.length_append, List.length_cons, List.length_nil, List.length_map]; omega) (by simp only [List.length_append, List.length_cons, List.length_nil, List.length_map]; omega) ?_) ?_
      · intro x hx
        simp only [List.mem_append, List.mem_cons, List.not_mem_nil, or_false, List.mem_map] at hx
        have hr8 : ∀ n, (rnmL nms n true).length ≤ 8 := fun n => rnmL_len nms n true
        rcases hx with ((((rfl | rfl) | rfl) | ⟨n, _, rfl⟩) | rfl) | ⟨n, _, rfl⟩
        · omega
        · rw [txA_size]; omega
        · rw [txA_size]; omega
        · rw [txA_size]; have := hr8 n; omega
        · rw [txA_size]; omega
        · rw [txA_size]; have := hr8 n; omega
      rintro _ w30 ⟨rfl, e⟩
      have hP := hP.ext e
      (repeat (first | (apply WL.pure; rfl; rfl; rfl) | (apply WL.nil) | (apply EX.thenN) | (apply CW.ret)))
      refine EX.ret2 rfl rfl rfl ⟨?_, hE.trans hP.X⟩
      rw [hW]
      have e2 : ∀ l : List Int, (l.map fun n => txA (rnmL nms n true)).map bysA = l.map fun n => rnmL nms n true := fun l => by rw [List.map_map]; rfl
      simp only [List.map_append, e2, List.map_cons, List.map_nil, List.append_assoc, List.cons_append, List.nil_append]
      rfl
    · have h4 : ¬ pt.1 = 4 := by simpa using h
      clear h
      rw [if_neg h4] at hW
      obtain ⟨ao, ac, hav⟩ := hP.o1.val
      obtain ⟨bo, bc, hbv⟩ := hP.o2.val
      subst hav
      subst hbv
      obtain ⟨xo, xc, he, ha⟩ := hP.o1.oldN.sl
      obtain ⟨rfl, _, rfl⟩ := Value.slice.inj he
      have hnw := hn.up (hE.trans hP.X)
      (repeat (first | (apply WL.pure; rfl; rfl; rfl) | (apply EX.thenN) | (apply CW.seq) | (apply CW.region) | (apply CW.skip)))
      refine WL.call rfl rfl rfl (rwords_ok _ ha hnw (by omega)) ?_
      rintro wv wA ⟨howv, e⟩
      have hP := hP.ext e
      obtain ⟨wo, wc, hwv⟩ := howv.val
      subst hwv
      skip
      refine WL.app (α := ByteArray) (F := Non) rfl rfl rfl rfl hP.own howv.src hP.sz (fun _ h => h.elim) (by unfold maxLen; simp only [List.length_append, List.length_cons, List.length_nil, List.length_map]; omega) (by simp only [List.length_append, List.length_cons, List.length_nil, List.length_map]; omega) (fun v68 w68 ho hg hnb => ?_)
      have hP := hP.app ho hg (by decide)
      clear ho hg hnb
      have hb8 := hP.h8
      (repeat (first | (apply WL.pure; rfl; rfl; rfl) | (apply WL.nil) | (apply EX.thenN) | (apply CW.region) | (apply WL.fa; rfl; rfl; rfl) | (apply WL.ld; rfl; rfl; rfl; assumption; rfl)))
      refine WL.call rfl rfl rfl (scopWd_ok _ hk.2.2.1 hk.2.2.2.1) ?_
      rintro _ w69 ⟨rfl, e⟩
      have hP := hP.ext e
      skip
      refine WL.app1 (α := ByteArray) (F := Non) (yv := txA (scopT pt.2.1)) rfl rfl (fun _ => rfl) rfl rfl (fun _ => rfl) hP.own (Rd.mkStr _ _ _ (by rw [txA_size]; unfold maxLen; omega)) hP.sz (fun _ h => h.elim) (by decide) (by unfold maxLen; simp only [List.length_append, List.length_cons, List.length_nil, List.length_map]; omega) (by simp only [List.length_append, List.length_cons, List.length_nil, List.length_map]; omega) (fun v70 w70 q70 ho hg hnb => ?_)
      have hP := hP.app ho hg (by decide)
      clear ho hg hnb
      obtain ⟨xo, xc, he, hb⟩ := hP.o2.oldN.sl
      obtain ⟨rfl, _, rfl⟩ := Value.slice.inj he
      have hnw := hn.up (hE.trans hP.X)
      (repeat (apply WL.pure; rfl; rfl; rfl))
      refine WL.call rfl rfl rfl (rwords_ok _ hb hnw (by omega)) ?_
      rintro wv2 wB ⟨howv2, e⟩
      have hP := hP.ext e
      obtain ⟨wo2, wc2, hwv2⟩ := howv2.val
      subst hwv2
      skip
      refine WL.app (α := ByteArray) (F := Non) rfl rfl rfl rfl hP.own howv2.src hP.sz (fun _ h => h.elim) (by unfold maxLen; simp only [List.length_append, List.length_cons, List.length_nil, List.length_map]; omega) (by simp only [List.length_append, List.length_cons, List.length_nil, List.length_map]; omega) (fun v71 w71 ho hg hnb => ?_)
      have hP := hP.app ho hg (by decide)
      clear ho hg hnb
      (repeat (first | (apply WL.pure; rfl; rfl; rfl) | (apply WL.nil) | (apply EX.thenN) | (apply CW.seq) | (apply CW.region) | (apply EX.inN)))
      obtain ⟨zo, zc, hzv⟩ := hP.own.val
      subst hzv
      obtain ⟨yo, yc, he, hys⟩ := hP.own.oldN.sl
      obtain ⟨rfl, _, rfl⟩ := Value.slice.inj he
      refine WL.call rfl rfl rfl (rjoin_ok _ hys (by simp only [List.length_append, List.length_cons, List.length_nil, List.length_map]; omega) (by simp only [List.length_append, List.length_cons, List.length_nil, List.length_map]; omega) ?_) ?_
      · intro x hx
        simp only [List.mem_append, List.mem_cons, List.not_mem_nil, or_false, List.mem_map] at hx
        have hr8 : ∀ n, (rnmL nms n true).length ≤ 8 := fun n => rnmL_len nms n true
        rcases hx with (((rfl | rfl) | ⟨n, _, rfl⟩) | rfl) | ⟨n, _, rfl⟩
        · omega
        · rw [txA_size]; omega
        · rw [txA_size]; have := hr8 n; omega
        · rw [txA_size]; omega
        · rw [txA_size]; have := hr8 n; omega
      rintro _ w30 ⟨rfl, e⟩
      have hP := hP.ext e
      (repeat (first | (apply WL.pure; rfl; rfl; rfl) | (apply WL.nil) | (apply EX.thenN) | (apply CW.ret)))
      refine EX.ret2 rfl rfl rfl ⟨?_, hE.trans hP.X⟩
      rw [hW]
      have e2 : ∀ l : List Int, (l.map fun n => txA (rnmL nms n true)).map bysA = l.map fun n => rnmL nms n true := fun l => by rw [List.map_map]; rfl
      simp only [List.map_append, e2, List.map_cons, List.map_nil, List.append_assoc, List.cons_append, List.nil_append]
      rfl
  · have hs1 : ¬ so = 1 := by simpa using h
    clear h
    rw [if_neg hs1] at hW
    (repeat (first | (apply WL.pure; rfl; rfl; rfl) | (apply WL.nil) | (apply EX.thenN) | (apply CW.seq) | (apply CW.region)))
    refine CW.cond rfl (fun h => ?_) (fun h => ?_)
    · obtain rfl : so = 2 := by simpa using h
      clear h
      have hcp : chkT tp = 0 := by
        rcases hpt with h | h | h | h
        · exact absurd h.1 (by decide)
        · exact h.2
        · exact absurd h (by decide)
        · exact absurd h (by decide)
      clear hpt
      have hk := chkT_bd hcp
      have hkl := tempT_len hk.1 hk.2.1
      have hrA := rnmL_len nms tp.2.1 false
      have hrB := rnmL_len nms tp.2.2.1 false
      have hdc : tDecl.length = 7 := rfl
      rw [if_pos rfl] at hW
      (repeat (first | (apply CW.seq) | (apply CW.region) | (apply WL.fa; rfl; rfl; rfl) | (apply WL.ldA; rfl; rfl; rfl; assumption; rfl)))
      refine WL.alloc rfl rfl (fun w4 hb8 e4 => ?_)
      skip
      refine WL.st rfl rfl rfl hb8 rfl rfl (ones_of rfl) (fun w5 hb8 hg5 => ?_)
      have e5 : Ext w3 w5 := e4.grown hg5 e4.size (fun g hg => by cases hg; exact Nat.le_refl _)
      clear e4 hg5
      have e6 := e5.trans (Ext.drew w5)
      have hP : PW w2 (drew w5) w2.heap.size w0.heap.size w3.heap.size 25 _ _ _ (.slice none 0 0) (.slice none 0 0) [nm] ([] : List Int) ([] : List Int) :=
        ⟨ho3.extN e6, Own.nil, Own.nil, hb2.ext e6, hb8.ext (Ext.drew w5), hX.trans (e6.mono hX.size), Nat.le_refl _⟩
      clear hb2 hb8 ho3 e5 e6
      have hb8 := hP.h8
      have hnw := hn.up (hE.trans hP.X)
      (repeat (first | (apply WL.nil) | (apply EX.thenN) | (apply CW.seq)))
      refine CW.drawM 9 mixed (by kernel_rfl) ?_
      (repeat (first | (refine ML.q rfl rfl rfl (fun γ' w' hw' => WL.pure rfl rfl rfl (WL.nil (EX.mm rfl (Ext.refl _) rfl))) ?_) | (refine ML.q rfl rfl rfl (fun γ' w' hw' => WL.fa rfl rfl rfl (WL.nil (EX.mm rfl (Ext.refl _) rfl))) ?_) | (apply ML.q; rfl; rfl; rfl; (intro γ' w' hw'; apply WL.ld; rfl; rfl; rfl; apply Blk.ext; assumption; exact hw'; rfl; exact WL.nil (EX.mm rfl (Ext.refl _) rfl)))))
      refine ML.kc (v := tV (tempT tp.1)) rfl rfl rfl (fun γ w hw => by
        change WL _ _ _ _ _ _ _
        refine WL.call rfl rfl rfl (tempWd_ok w hk.1 hk.2.1) ?_
        rintro _ w' ⟨rfl, e'⟩
        exact WL.nil (EX.mm rfl e' rfl)) ?_
      (repeat (first | (refine ML.q rfl rfl rfl (fun γ' w' hw' => WL.pure rfl rfl rfl (WL.nil (EX.mm rfl (Ext.refl _) rfl))) ?_) | (refine ML.q rfl rfl rfl (fun γ' w' hw' => WL.fa rfl rfl rfl (WL.nil (EX.mm rfl (Ext.refl _) rfl))) ?_) | (apply ML.q; rfl; rfl; rfl; (intro γ' w' hw'; apply WL.ld; rfl; rfl; rfl; apply Blk.ext; assumption; exact hw'; rfl; exact WL.nil (EX.mm rfl (Ext.refl _) rfl)))))
      refine ML.kc (v := tV (rnmL nms tp.2.1 false)) rfl rfl rfl (fun γ w hw => by
        change WL _ _ _ _ _ _ _
        refine WL.call rfl rfl rfl (rname_ok w (hnw.up hw) tp.2.1 false) ?_
        rintro _ w' ⟨rfl, e'⟩
        exact WL.nil (EX.mm rfl e' rfl)) ?_
      refine ML.fc (fun v γ w => ∃ ao, v = .slice ao 3 3 ∧ Sl w (Old w) ao 3 [txA tDecl, txA (tempT tp.1), txA (rnmL nms tp.2.1 false)]) rfl rfl rfl (fun v γ γ' w w' h hE _ => by obtain ⟨ao, e, h⟩ := h; exact ⟨ao, e, h.up hE⟩) (fun γ w hw => by
        change WL _ _ _ _ _ _ _
        refine WL.lit (α := ByteArray) (F := Non) (ys := [txA (tDecl), txA (tempT tp.1), txA (rnmL nms tp.2.1 false)]) rfl rfl rfl rfl rfl (.cons (Rd.mkStr _ _ _ (by decide)) (.cons (Rd.mkStr _ _ _ (by rw [txA_size]; unfold maxLen; omega)) (.cons (Rd.mkStr _ _ _ (by rw [txA_size]; unfold maxLen; omega)) (.nil)))) (by show 3 * 1 ≤ 16777216; decide) (fun _ h => h.elim) (fun w' ho' hg' => ?_)
        obtain ⟨xo, xc, he, hs'⟩ := ho'.oldN.sl
        obtain ⟨rfl, _, rfl⟩ := Value.slice.inj he
        exact WL.nil (EX.mm rfl ((Below.refl _ _).grown hg' (Nat.le_refl _) (fun k h => by cases h)) ⟨_, rfl, hs'⟩)) ?_
      refine ML.nil fun γ w6 hw6 => ?_
      intro v78 g78
      change WL _ _ _ _ _ _ _
      obtain ⟨xo, rfl, hs78⟩ := g78
      have hP := hP.ext hw6
      refine WL.app (α := ByteArray) (F := Non) rfl rfl rfl rfl hP.own hs78.srcN hP.sz (fun _ h => h.elim) (by unfold maxLen; simp only [List.length_append, List.length_cons, List.length_nil, List.length_map]; omega) (by simp only [List.length_append, List.length_cons, List.length_nil, List.length_map]; omega) (fun v61 w61 ho hg hnb => ?_)
      have hP := hP.app ho hg (by decide)
      clear ho hg hnb
      (repeat (apply WL.pure; rfl; rfl; rfl))
      refine WL.nil (EX.tailE ?_)
      have hb8 := hP.h8
      (repeat (first | (apply WL.pure; rfl; rfl; rfl) | (apply WL.nil) | (apply EX.thenN) | (apply CW.seq) | (apply CW.region) | (apply WL.fa; rfl; rfl; rfl) | (apply WL.ld; rfl; rfl; rfl; assumption; rfl)))
      refine CW.cond rfl (fun h => ?_) (fun h => ?_)
      · have h4 : 0 < tp.2.2.2 := by simpa using h
        clear h
        rw [if_pos h4] at hW
        (repeat (first | (apply WL.pure; rfl; rfl; rfl) | (apply CW.region) | (apply WL.fa; rfl; rfl; rfl) | (apply WL.ld; rfl; rfl; rfl; assumption; rfl)))
        refine WL.call rfl rfl rfl (rdigit_ok _ hk.2.2.1 hk.2.2.2) ?_
        rintro _ w72 ⟨rfl, e⟩
        have hP := hP.ext e
        have hdl := dgT_len tp.2.2.2
        skip
        refine WL.app1 (α := ByteArray) (F := Non) (yv := txA (dgT tp.2.2.2)) rfl rfl (fun _ => rfl) rfl rfl (fun _ => rfl) hP.own (Rd.mkStr _ _ _ (by rw [txA_size]; unfold maxLen; omega)) hP.sz (fun _ h => h.elim) (by decide) (by unfold maxLen; simp only [List.length_append, List.length_cons, List.length_nil, List.length_map]; omega) (by simp only [List.length_append, List.length_cons, List.length_nil, List.length_map]; omega) (fun v73 w73 q73 ho hg hnb => ?_)
        have hP := hP.app ho hg (by decide)
        clear ho hg hnb
        have hb8 := hP.h8
        (repeat (first | (apply WL.pure; rfl; rfl; rfl) | (apply WL.nil) | (apply EX.thenN) | (apply CW.seq) | (apply CW.region) | (apply WL.fa; rfl; rfl; rfl) | (apply WL.ld; rfl; rfl; rfl; assumption; rfl)))
        refine WL.call rfl rfl rfl (alone_ok _ tp.1) ?_
        rintro _ wC ⟨rfl, rfl⟩
        (repeat (first | (apply WL.pure; rfl; rfl; rfl) | (apply WL.nil) | (apply EX.thenN)))
        cases hal : aloneB tp.1 with
        | true =>
          rw [if_pos hal] at hW
          (repeat (first | (apply WL.pure; rfl; rfl; rfl) | (apply EX.thenN) | (apply CW.seq) | (apply CW.region) | (apply EX.inN) | (apply CW.condF; rfl) | (apply CW.skip)))
          obtain ⟨zo, zc, hzv⟩ := hP.own.val
          subst hzv
          obtain ⟨yo, yc, he, hys⟩ := hP.own.oldN.sl
          obtain ⟨rfl, _, rfl⟩ := Value.slice.inj he
          refine WL.call rfl rfl rfl (rjoin_ok _ hys (by simp only [List.length_append, List.length_cons, List.length_nil, List.length_map]; omega) (by simp only [List.length_append, List.length_cons, List.length_nil, List.length_map]; omega) ?_) ?_
          · intro x hx
            simp only [List.mem_append, List.mem_cons, List.not_mem_nil, or_false, List.mem_map] at hx
            rcases hx with (rfl | (rfl | rfl | rfl)) | rfl
            · omega
            · rw [txA_size]; omega
            · rw [txA_size]; omega
            · rw [txA_size]; omega
            · rw [txA_size]; omega
          rintro _ w30 ⟨rfl, e⟩
          have hP := hP.ext e
          (repeat (first | (apply WL.pure; rfl; rfl; rfl) | (apply WL.nil) | (apply EX.thenN) | (apply CW.ret)))
          refine EX.ret2 rfl rfl rfl ⟨?_, hE.trans hP.X⟩
          rw [hW]
          simp only [List.map_append, List.map_cons, List.map_nil, List.append_assoc, List.cons_append, List.nil_append]
          rfl
        | false =>
          rw [if_neg (by rw [hal]; decide)] at hW
          have hnw := hn.up (hE.trans hP.X)
          (repeat (first | (apply WL.pure; rfl; rfl; rfl) | (apply CW.region) | (apply WL.fa; rfl; rfl; rfl) | (apply WL.ld; rfl; rfl; rfl; assumption; rfl) | (apply CW.condT; rfl)))
          refine WL.call rfl rfl rfl (rname_ok _ hnw tp.2.2.1 false) ?_
          rintro _ w74 ⟨rfl, e⟩
          have hP := hP.ext e
          skip
          refine WL.app1 (α := ByteArray) (F := Non) (yv := txA (rnmL nms tp.2.2.1 false)) rfl rfl (fun _ => rfl) rfl rfl (fun _ => rfl) hP.own (Rd.mkStr _ _ _ (by rw [txA_size]; unfold maxLen; omega)) hP.sz (fun _ h => h.elim) (by decide) (by unfold maxLen; simp only [List.length_append, List.length_cons, List.length_nil, List.length_map]; omega) (by simp only [List.length_append, List.length_cons, List.length_nil, List.length_map]; omega) (fun v75 w75 q75 ho hg hnb => ?_)
          have hP := hP.app ho hg (by decide)
          clear ho hg hnb
          (repeat (first | (apply WL.pure; rfl; rfl; rfl) | (apply WL.nil) | (apply EX.thenN) | (apply CW.seq) | (apply CW.region) | (apply EX.inN)))
          obtain ⟨zo, zc, hzv⟩ := hP.own.val
          subst hzv
          obtain ⟨yo, yc, he, hys⟩ := hP.own.oldN.sl
          obtain ⟨rfl, _, rfl⟩ := Value.slice.inj he
          refine WL.call rfl rfl rfl (rjoin_ok _ hys (by simp only [List.length_append, List.length_cons, List.length_nil, List.length_map]; omega) (by simp only [List.length_append, List.length_cons, List.length_nil, List.length_map]; omega) ?_) ?_
          · intro x hx
            simp only [List.mem_append, List.mem_cons, List.not_mem_nil, or_false, List.mem_map] at hx
            rcases hx with ((rfl | (rfl | rfl | rfl)) | rfl) | rfl
            · omega
            · rw [txA_size]; omega
            · rw [txA_size]; omega
            · rw [txA_size]; omega
            · rw [txA_size]; omega
            · rw [txA_size]; omega
          rintro _ w30 ⟨rfl, e⟩
          have hP := hP.ext e
          (repeat (first | (apply WL.pure; rfl; rfl; rfl) | (apply WL.nil) | (apply EX.thenN) | (apply CW.ret)))
          refine EX.ret2 rfl rfl rfl ⟨?_, hE.trans hP.X⟩
          rw [hW]
          simp only [List.map_append, List.map_cons, List.map_nil, List.append_assoc, List.cons_append, List.nil_append]
          rfl
      · have h4 : ¬ 0 < tp.2.2.2 := by simpa using h
        clear h
        rw [if_neg h4] at hW
        have hb8 := hP.h8
        (repeat (first | (apply EX.thenN) | (apply CW.seq) | (apply CW.region) | (apply WL.fa; rfl; rfl; rfl) | (apply WL.ld; rfl; rfl; rfl; assumption; rfl) | (apply CW.skip)))
        refine WL.call rfl rfl rfl (alone_ok _ tp.1) ?_
        rintro _ wC ⟨rfl, rfl⟩
        (repeat (first | (apply WL.pure; rfl; rfl; rfl) | (apply WL.nil) | (apply EX.thenN)))
        cases hal : aloneB tp.1 with
        | true =>
          rw [if_pos hal] at hW
          (repeat (first | (apply WL.pure; rfl; rfl; rfl) | (apply EX.thenN) | (apply CW.seq) | (apply CW.region) | (apply EX.inN) | (apply CW.condF; rfl) | (apply CW.skip)))
          obtain ⟨zo, zc, hzv⟩ := hP.own.val
          subst hzv
          obtain ⟨yo, yc, he, hys⟩ := hP.own.oldN.sl
          obtain ⟨rfl, _, rfl⟩ := Value.slice.inj he
          refine WL.call rfl rfl rfl (rjoin_ok _ hys (by simp only [List.length_append, List.length_cons, List.length_nil, List.length_map]; omega) (by simp only [List.length_append, List.length_cons, List.length_nil, List.length_map]; omega) ?_) ?_
          · intro x hx
            simp only [List.mem_append, List.mem_cons, List.not_mem_nil, or_false, List.mem_map] at hx
            rcases hx with rfl | (rfl | rfl | rfl)
            · omega
            · rw [txA_size]; omega
            · rw [txA_size]; omega
            · rw [txA_size]; omega
          rintro _ w30 ⟨rfl, e⟩
          have hP := hP.ext e
          (repeat (first | (apply WL.pure; rfl; rfl; rfl) | (apply WL.nil) | (apply EX.thenN) | (apply CW.ret)))
          refine EX.ret2 rfl rfl rfl ⟨?_, hE.trans hP.X⟩
          rw [hW]
          simp only [List.map_append, List.map_cons, List.map_nil, List.append_assoc, List.cons_append, List.nil_append]
          rfl
        | false =>
          rw [if_neg (by rw [hal]; decide)] at hW
          have hnw := hn.up (hE.trans hP.X)
          (repeat (first | (apply WL.pure; rfl; rfl; rfl) | (apply CW.region) | (apply WL.fa; rfl; rfl; rfl) | (apply WL.ld; rfl; rfl; rfl; assumption; rfl) | (apply CW.condT; rfl)))
          refine WL.call rfl rfl rfl (rname_ok _ hnw tp.2.2.1 false) ?_
          rintro _ w76 ⟨rfl, e⟩
          have hP := hP.ext e
          skip
          refine WL.app1 (α := ByteArray) (F := Non) (yv := txA (rnmL nms tp.2.2.1 false)) rfl rfl (fun _ => rfl) rfl rfl (fun _ => rfl) hP.own (Rd.mkStr _ _ _ (by rw [txA_size]; unfold maxLen; omega)) hP.sz (fun _ h => h.elim) (by decide) (by unfold maxLen; simp only [List.length_append, List.length_cons, List.length_nil, List.length_map]; omega) (by simp only [List.length_append, List.length_cons, List.length_nil, List.length_map]; omega) (fun v77 w77 q77 ho hg hnb => ?_)
          have hP := hP.app ho hg (by decide)
          clear ho hg hnb
          (repeat (first | (apply WL.pure; rfl; rfl; rfl) | (apply WL.nil) | (apply EX.thenN) | (apply CW.seq) | (apply CW.region) | (apply EX.inN)))
          obtain ⟨zo, zc, hzv⟩ := hP.own.val
          subst hzv
          obtain ⟨yo, yc, he, hys⟩ := hP.own.oldN.sl
          obtain ⟨rfl, _, rfl⟩ := Value.slice.inj he
          refine WL.call rfl rfl rfl (rjoin_ok _ hys (by simp only [List.length_append, List.length_cons, List.length_nil, List.length_map]; omega) (by simp only [List.length_append, List.length_cons, List.length_nil, List.length_map]; omega) ?_) ?_
          · intro x hx
            simp only [List.mem_append, List.mem_cons, List.not_mem_nil, or_false, List.mem_map] at hx
            rcases hx with (rfl | (rfl | rfl | rfl)) | rfl
            · omega
            · rw [txA_size]; omega
            · rw [txA_size]; omega
            · rw [txA_size]; omega
            · rw [txA_size]; omega
          rintro _ w30 ⟨rfl, e⟩
          have hP := hP.ext e
          (repeat (first | (apply WL.pure; rfl; rfl; rfl) | (apply WL.nil) | (apply EX.thenN) | (apply CW.ret)))
          refine EX.ret2 rfl rfl rfl ⟨?_, hE.trans hP.X⟩
          rw [hW]
          simp only [List.map_append, List.map_cons, List.map_nil, List.append_assoc, List.cons_append, List.nil_append]
          rfl
    · have hs2 : ¬ so = 2 := by simpa using h
      clear h
      rw [if_neg hs2] at hW
      (repeat (first | (apply WL.pure; rfl; rfl; rfl) | (apply WL.nil) | (apply EX.thenN) | (apply CW.seq) | (apply CW.region)))
      refine CW.cond rfl (fun h => ?_) (fun h => ?_)
      · obtain rfl : so = 3 := by simpa using h
        clear h
        rw [if_pos rfl] at hW
        have hpl := printL_len lt nms
        have htl : tLtl.length = 3 := rfl
        have hP : PW w2 w3 w2.heap.size w0.heap.size w0.heap.size 33 _ _ _ (.slice none 0 0) (.slice none 0 0) [nm] ([] : List Int) ([] : List Int) :=
          ⟨ho3, Own.nil, Own.nil, hb2, hb2, hX, Nat.le_refl _⟩
        clear hb2 ho3
        have hb2 := hP.h2
        (repeat (first | (apply WL.pure; rfl; rfl; rfl) | (apply CW.seq) | (apply CW.region) | (apply WL.fa; rfl; rfl; rfl) | (apply WL.ldA; rfl; rfl; rfl; assumption; rfl)))
        refine WL.call rfl rfl rfl (lprint_ok (t := lt) w3 hl3 hn3) ?_
        rintro _ w81 ⟨rfl, e⟩
        have hP := hP.ext e
        generalize printL lt nms = pq at *
        obtain ⟨tx, er⟩ := pq
        dsimp only at hpl hW ⊢
        (repeat (first | (apply WL.pure; rfl; rfl; rfl) | (apply WL.nil) | (apply EX.thenN) | (apply CW.region)))
        refine WL.lit (α := ByteArray) (F := Non) (ys := [txA (tLtl), txA (tx)]) rfl rfl rfl rfl rfl (.cons (Rd.mkStr _ _ _ (by decide)) (.cons (Rd.mkStr _ _ _ (by rw [txA_size]; unfold maxLen; omega)) (.nil))) (by show 2 * 1 ≤ 16777216; decide) (fun _ h => h.elim) (fun wL hoL hgL => ?_)
        have hP := hP.ext ((Below.refl _ _).grown hgL (Nat.le_refl _) (fun k h => by cases h))
        clear hgL
        refine WL.app (α := ByteArray) (F := Non) (ys := [txA (tLtl), txA tx]) rfl rfl rfl rfl hP.own hoL.src hP.sz (fun _ h => h.elim) (by unfold maxLen; simp only [List.length_append, List.length_cons, List.length_nil, List.length_map]; omega) (by simp only [List.length_append, List.length_cons, List.length_nil, List.length_map]; omega) (fun v82 w82 ho hg hnb => ?_)
        have hP := hP.app ho hg (by decide)
        clear ho hg hnb
        (repeat (first | (apply WL.pure; rfl; rfl; rfl) | (apply WL.nil) | (apply EX.thenN) | (apply CW.seq) | (apply CW.region) | (apply EX.inN)))
        obtain ⟨zo, zc, hzv⟩ := hP.own.val
        subst hzv
        obtain ⟨yo, yc, he, hys⟩ := hP.own.oldN.sl
        obtain ⟨rfl, _, rfl⟩ := Value.slice.inj he
        refine WL.call rfl rfl rfl (rjoin_ok _ hys (by simp only [List.length_append, List.length_cons, List.length_nil, List.length_map]; omega) (by simp only [List.length_append, List.length_cons, List.length_nil, List.length_map]; omega) ?_) ?_
        · intro x hx
          simp only [List.mem_append, List.mem_cons, List.not_mem_nil, or_false, List.mem_map] at hx
          rcases hx with rfl | (rfl | rfl)
          · omega
          · rw [txA_size]; omega
          · rw [txA_size]; omega
        rintro _ w30 ⟨rfl, e⟩
        have hP := hP.ext e
        (repeat (first | (apply WL.pure; rfl; rfl; rfl) | (apply WL.nil) | (apply EX.thenN) | (apply CW.ret)))
        refine EX.ret2 rfl rfl rfl ⟨?_, hE.trans hP.X⟩
        rw [hW]
        simp only [List.map_append, List.map_cons, List.map_nil, List.append_assoc, List.cons_append, List.nil_append]
        rfl
      · have hs3 : ¬ so = 3 := by simpa using h
        clear h
        rw [if_neg hs3] at hW
        obtain rfl : so = 4 := by
          rcases hpt with h | h | h | h
          · exact absurd h.1 hs1
          · exact absurd h.1 hs2
          · exact absurd h hs3
          · exact h
        (repeat (first | (apply WL.pure; rfl; rfl; rfl) | (apply WL.nil) | (apply EX.thenN) | (apply CW.seq) | (apply CW.region) | (apply WL.fa; rfl; rfl; rfl) | (apply WL.ldA; rfl; rfl; rfl; assumption; rfl) | (apply CW.condT; rfl)))
        have hpl := printC_len ct nms
        have htl : tCtl.length = 3 := rfl
        have hP : PW w2 w3 w2.heap.size w0.heap.size w0.heap.size 33 _ _ _ (.slice none 0 0) (.slice none 0 0) [nm] ([] : List Int) ([] : List Int) :=
          ⟨ho3, Own.nil, Own.nil, hb2, hb2, hX, Nat.le_refl _⟩
        clear hb2 ho3
        have hb2 := hP.h2
        skip
        refine WL.call rfl rfl rfl (cprint_ok (t := ct) w3 hc3 hn3) ?_
        rintro _ w81 ⟨rfl, e⟩
        have hP := hP.ext e
        generalize printC ct nms = pq at *
        obtain ⟨tx, er⟩ := pq
        dsimp only at hpl hW ⊢
        (repeat (first | (apply WL.pure; rfl; rfl; rfl) | (apply WL.nil) | (apply EX.thenN) | (apply CW.region)))
        refine WL.lit (α := ByteArray) (F := Non) (ys := [txA (tCtl), txA (tx)]) rfl rfl rfl rfl rfl (.cons (Rd.mkStr _ _ _ (by decide)) (.cons (Rd.mkStr _ _ _ (by rw [txA_size]; unfold maxLen; omega)) (.nil))) (by show 2 * 1 ≤ 16777216; decide) (fun _ h => h.elim) (fun wL hoL hgL => ?_)
        have hP := hP.ext ((Below.refl _ _).grown hgL (Nat.le_refl _) (fun k h => by cases h))
        clear hgL
        refine WL.app (α := ByteArray) (F := Non) (ys := [txA (tCtl), txA tx]) rfl rfl rfl rfl hP.own hoL.src hP.sz (fun _ h => h.elim) (by unfold maxLen; simp only [List.length_append, List.length_cons, List.length_nil, List.length_map]; omega) (by simp only [List.length_append, List.length_cons, List.length_nil, List.length_map]; omega) (fun v82 w82 ho hg hnb => ?_)
        have hP := hP.app ho hg (by decide)
        clear ho hg hnb
        (repeat (first | (apply WL.pure; rfl; rfl; rfl) | (apply WL.nil) | (apply EX.thenN) | (apply CW.seq) | (apply CW.region) | (apply EX.inN)))
        obtain ⟨zo, zc, hzv⟩ := hP.own.val
        subst hzv
        obtain ⟨yo, yc, he, hys⟩ := hP.own.oldN.sl
        obtain ⟨rfl, _, rfl⟩ := Value.slice.inj he
        refine WL.call rfl rfl rfl (rjoin_ok _ hys (by simp only [List.length_append, List.length_cons, List.length_nil, List.length_map]; omega) (by simp only [List.length_append, List.length_cons, List.length_nil, List.length_map]; omega) ?_) ?_
        · intro x hx
          simp only [List.mem_append, List.mem_cons, List.not_mem_nil, or_false, List.mem_map] at hx
          rcases hx with rfl | (rfl | rfl)
          · omega
          · rw [txA_size]; omega
          · rw [txA_size]; omega
        rintro _ w30 ⟨rfl, e⟩
        have hP := hP.ext e
        (repeat (first | (apply WL.pure; rfl; rfl; rfl) | (apply WL.nil) | (apply EX.thenN) | (apply CW.ret)))
        refine EX.ret2 rfl rfl rfl ⟨?_, hE.trans hP.X⟩
        rw [hW]
        simp only [List.map_append, List.map_cons, List.map_nil, List.append_assoc, List.cons_append, List.nil_append]
        rfl
end Go.Proofs.YtikigaeihdmcaaaGreatDoor

/-
  Reading a text: nil errors, bytes and parts of texts, functions of a receiver. Over any program. What the next token is: plain.
-/
set_option linter.unusedVariables false
set_option linter.unusedSimpArgs false
namespace Go.Proofs.YtikigaeihdmcaaaGreatDoor
open Go.RowKit

class IsIf (P : Program) (t : TypeId) : Prop where
  ok : P.isIface t = true
/-- an error, nil or not -/
def errI : Value → Bool | .nilIface => true | .iface _ _ => true | _ => false
def nilI : Value → Bool | .nilIface => true | _ => false
section
variable {P : Program} {Q : Exit → Act → World → Prop} {n : Nat} {σ : Sg} {w : World} {L rest : List Oper} {d : Nat} {op : Op} {ty : TypeId} {pos : String} {af : Array Edge} {g : Option (Nat × Bool)} {t yt : TypeId} {x y ix : Operand}
theorem run_eqNil [hi : IsIf P t] {v : Value} (hv : errI v = true) (w : World) : ((do eqGuard .eql t x (.const .nilIface) v .nilIface; binOp .eql t v .nilIface : Sem Value)).run P w = .ok (.bool (nilI v)) w := by
  cases v <;> simp [errI] at hv
  · rename_i u z
    have h1 : eqGuard .eql t x (.const .nilIface) (.iface u z) .nilIface = pure () := rfl
    have h2 := Go.run_eql_iface_nil (P := P) w t hi.ok u z
    rw [h1, Sem.run_bind]
    simpa [nilI] using h2
  · rw [eqGuard_nil_constR, Sem.run_bind]
    have h2 := Go.run_eql_nil_nil_at (P := P) w t hi.ok
    simpa [nilI] using h2
theorem run_neNil [hi : IsIf P t] {v : Value} (hv : errI v = true) (w : World) : ((do eqGuard .neq t x (.const .nilIface) v .nilIface; binOp .neq t v .nilIface : Sem Value)).run P w = .ok (.bool (!nilI v)) w := by
  cases v <;> simp [errI] at hv
  · rename_i u z
    have h1 : eqGuard .neq t x (.const .nilIface) (.iface u z) .nilIface = pure () := rfl
    have h2 := Go.run_neq_iface_nil (P := P) w t hi.ok u z
    rw [h1, Sem.run_bind]
    simpa [nilI] using h2
  · rw [eqGuard_nil_constR, Sem.run_bind]
    have h2 := Go.run_neq_nil_nil_at (P := P) w t hi.ok
    simpa [nilI] using h2
/-- err == nil -/
theorem WL.eqNil {v : Value} (hg : gd L σ ⟨some d, .binOp .eql t x (.const .nilIface) yt, ty, pos, af, g⟩ = some true) (hd : Nat.ble (d + 1) n = true) (hx : ev σ x = some v) [hi : IsIf P t] (hv : errI v = true)
    (h : WL P L Q rest n ((d, .bool (nilI v)) :: σ) w) : WL P L Q (⟨some d, .binOp .eql t x (.const .nilIface) yt, ty, pos, af, g⟩ :: rest) n σ w := by
  refine WL.run hg hd (fun c hc => ?_) h
  have := run_eqNil (P := P) (t := t) (x := x) hv w
  simp only [execOp, hc.ev hx]
  rw [Sem.run_bind]
  show Result.andThen (Sem.run P _ w) _ = _
  rw [show (Act.eval c (Operand.const Value.nilIface)) = Value.nilIface from rfl, this]; rfl
theorem WL.neNil {v : Value} (hg : gd L σ ⟨some d, .binOp .neq t x (.const .nilIface) yt, ty, pos, af, g⟩ = some true) (hd : Nat.ble (d + 1) n = true) (hx : ev σ x = some v) [hi : IsIf P t] (hv : errI v = true)
    (h : WL P L Q rest n ((d, .bool (!nilI v)) :: σ) w) : WL P L Q (⟨some d, .binOp .neq t x (.const .nilIface) yt, ty, pos, af, g⟩ :: rest) n σ w := by
  refine WL.run hg hd (fun c hc => ?_) h
  have := run_neNil (P := P) (t := t) (x := x) hv w
  simp only [execOp, hc.ev hx]
  rw [Sem.run_bind]
  show Result.andThen (Sem.run P _ w) _ = _
  rw [show (Act.eval c (Operand.const Value.nilIface)) = Value.nilIface from rfl, this]; rfl
theorem txA_get {l : List UInt8} {i : Nat} (h : i < l.length) : (txA l)[i]? = some l[i] := by
  have : i < (txA l).size := by rw [txA_size]; exact h
  rw [getElem?_pos (txA l) i this]
  show some (l.toArray[i]'(by simpa using h)) = _
  simp
theorem run_byte {s : List UInt8} {i : Nat} {kd : IntKind} [hs : IsStr P t] (h1 : i < s.length) (w : World) : (Instr.index t (tV s) (.int kd (i : Int))).run P w = .ok (.int .u8 ((s[i]).toNat : Int)) w := by
  simp [Instr.index, asIntOf, run_underlying hs.ok, txA_get h1]
/-- s[i] -/
theorem WL.byteL {s : List UInt8} {i : Nat} {kd : IntKind} (hg : gd L σ ⟨some d, .index t x ix, ty, pos, af, g⟩ = some true) (hd : Nat.ble (d + 1) n = true)
    (hx : ev σ x = some (tV s)) (hi : ev σ ix = some (.int kd (i : Int))) [hs : IsStr P t] (h1 : i < s.length) (h : WL P L Q rest n ((d, .int .u8 ((s[i]).toNat : Int)) :: σ) w) : WL P L Q (⟨some d, .index t x ix, ty, pos, af, g⟩ :: rest) n σ w := by
  refine WL.run hg hd (fun a ha => ?_) h
  have := run_byte (P := P) (t := t) (kd := kd) h1 w
  simp only [execOp, ha.ev hx, ha.ev hi]
  rw [Sem.run_bind, this]; rfl
theorem QL.byteL {s : List UInt8} {i : Nat} {kd : IntKind} (hg : gd L σ ⟨some d, .index t x ix, ty, pos, af, g⟩ = some true) (hd : Nat.ble (d + 1) n = true)
    (hx : ev σ x = some (tV s)) (hi : ev σ ix = some (.int kd (i : Int))) [hs : IsStr P t] (h1 : i < s.length) (h : QL P L w Q rest n ((d, .int .u8 ((s[i]).toNat : Int)) :: σ)) : QL P L w Q (⟨some d, .index t x ix, ty, pos, af, g⟩ :: rest) n σ := by
  refine QL.run hg hd (fun a ha w' _ => ?_) h
  have := run_byte (P := P) (t := t) (kd := kd) h1 w'
  simp only [execOp, ha.ev hx, ha.ev hi]
  rw [Sem.run_bind, this]; rfl
theorem txA_cut {l : List UInt8} {i j : Nat} : (txA l).extract i j = txA ((l.take j).drop i) := by
  apply ByteArray.ext
  simp [txA, ByteArray.data_extract, List.drop_take]
theorem run_cutT {s : List UInt8} {i j : Nat} {k1 k2 : IntKind} [hs : IsStr P t] (h1 : i ≤ j) (h2 : j ≤ s.length) (w : World) : (Instr.sliceAt t (tV s) (some (.int k1 (i : Int))) (some (.int k2 (j : Int))) none).run P w = .ok (tV ((s.take j).drop i)) w := by
  have hz := txA_size s
  simp [Instr.sliceAt, Instr.slice, Instr.sliceBounds, Instr.sliceBound, asIntOf, run_underlying hs.ok, hz, h1, h2, txA_cut]
theorem HL.cutT {S : World → Prop} {ord : List (Nat × Bool)} {o : Nat} {s : List UInt8} {i j : Nat} {k1 k2 : IntKind} (ho : nthO L o = some ⟨some d, .slice t x (some y) (some ix) none, ty, pos, af, g⟩) (hg : gd L σ ⟨some d, .slice t x (some y) (some ix) none, ty, pos, af, g⟩ = some true) (hd : Nat.ble (d + 1) n = true)
    (hx : ev σ x = some (tV s)) (hy : ev σ y = some (.int k1 (i : Int))) (hz : ev σ ix = some (.int k2 (j : Int))) [hs : IsStr P t] (h1 : i ≤ j) (h2 : j ≤ s.length) (h : HL P L S Q ord n ((d, tV ((s.take j).drop i)) :: σ) w) : HL P L S Q ((o, true) :: ord) n σ w := by
  refine HL.run ho hg hd (fun a ha w' _ => ?_) h
  have := run_cutT (P := P) (t := t) (k1 := k1) (k2 := k2) h1 h2 w'
  simp only [execOp, ha.ev hx, ha.ev hy, ha.ev hz, Option.map_some, Option.map_none]
  rw [Sem.run_bind, this]; rfl
/-- a pointer that becomes an interface value -/
theorem WL.mkIf {v : Value} {T : TypeDesc} (hg : gd L σ ⟨some d, .makeInterface t x, ty, pos, af, g⟩ = some true) (hd : Nat.ble (d + 1) n = true) (hx : ev σ x = some v) (hT : P.underlying t = some T) (hn : (match T with | .interface _ => true | _ => false) = false)
    (h : WL P L Q rest n ((d, .iface t v) :: σ) w) : WL P L Q (⟨some d, .makeInterface t x, ty, pos, af, g⟩ :: rest) n σ w := by
  refine WL.run hg hd (fun c hc => ?_) h
  simp only [execOp, hc.ev hx, Instr.makeInterface]
  rw [Sem.run_bind, Sem.run_bind, run_underlying hT]
  cases T <;> simp_all
end
/-- a function of a receiver -/
theorem FnV.mkM {P : Program} {f : FuncId} {fs args : List Value} {w : World} {R : Value → World → Prop} [hf : IsF P f] (h : Rt P f (fs ++ args).toArray w R) : FnV P (.func (.func f) fs.toArray [].toArray) args w R :=
  ⟨f, fs, [], rfl, hf, by simpa using h⟩

/- THE NEXT TOKEN, BY PLACES -/
theorem dropW_all {p : UInt8 → Bool} {a b : Bys} (h : ∀ c ∈ a, p c = true) (hb : ∀ c, b.head? = some c → p c = false) : (a ++ b).dropWhile p = b := by
  induction a with
  | nil =>
    cases b with
    | nil => rfl
    | cons c t => simp [List.dropWhile, hb c rfl]
  | cons c a ih => simp [List.dropWhile, h c (by simp), ih (fun d hd => h d (by simp [hd]))]
theorem drop_split {s : Bys} {e i : Nat} (h : e ≤ i) : s.drop e = (s.drop e).take (i - e) ++ s.drop i := by
  rw [show s.drop i = (s.drop e).drop (i - e) by rw [List.drop_drop]; congr 1; omega, List.take_append_drop]
theorem take_mem {s : Bys} {e i : Nat} {p : UInt8 → Bool} (h : ∀ k (hk : k < s.length), e ≤ k → k < i → p s[k] = true) : ∀ c ∈ (s.drop e).take (i - e), p c = true := by
  intro c hc
  obtain ⟨j, hj, rfl⟩ := List.mem_iff_getElem.1 hc
  rw [List.length_take, List.length_drop] at hj
  rw [List.getElem_take, List.getElem_drop]
  exact h _ (by omega) (by omega) (by omega)
theorem head_drop {s : Bys} {i : Nat} {c : UInt8} (h : (s.drop i).head? = some c) : ∃ hi : i < s.length, c = s[i] := by
  rw [List.head?_drop] at h
  obtain ⟨hi, e⟩ := List.getElem?_eq_some_iff.1 h
  exact ⟨hi, e.symm⟩
theorem nx_done {s : Bys} {e i j : Nat} (hei : e ≤ i) (hij : i ≤ j) (hj : j ≤ s.length) (h1 : ∀ k (hk : k < s.length), e ≤ k → k < i → (s[k] == 32) = true) (h2 : ∀ hk : i < s.length, (s[i] == 32) = false)
    (h3 : ∀ k (hk : k < s.length), i ≤ k → k < j → lowB s[k] = true) (h4 : ∀ hk : j < s.length, lowB s[j] = false) :
    (i < j ∨ i = s.length → nxT (s.drop e) = ((s.take j).drop i, s.drop j)) ∧ (i = j → i < s.length → s[i]? = some 45 → s[i + 1]? = some 62 → nxT (s.drop e) = ((s.take (i + 2)).drop i, s.drop (i + 2))) ∧
    (i = j → i < s.length → ¬ (s[i]? = some 45 ∧ s[i + 1]? = some 62) → nxT (s.drop e) = ((s.take (i + 1)).drop i, s.drop (i + 1))) := by
  have hd : (s.drop e).dropWhile (fun c => c == 32) = s.drop i := by
    rw [drop_split hei]
    exact dropW_all (take_mem h1) (fun c hc => by obtain ⟨hi, rfl⟩ := head_drop hc; exact h2 hi)
  have hdt : ∀ m, (s.take m).drop i = (s.drop i).take (m - i) := fun m => by rw [List.drop_take]
  have hsp := takeW_all (l := (s.drop i).take (j - i)) (r := s.drop j) (take_mem h3) (fun c hc => by obtain ⟨hi, rfl⟩ := head_drop hc; exact h4 hi)
  rw [← drop_split hij] at hsp
  unfold nxT
  rw [hd, hdt, hdt, hdt]
  refine ⟨fun h => ?_, fun h hi a b => ?_, fun h hi a => ?_⟩
  · by_cases hi : i < s.length
    · have hij' : i < j := by omega
      have hc : lowB s[i] = true := h3 i hi (Nat.le_refl _) hij'
      rw [List.drop_eq_getElem_cons hi] at hsp ⊢
      dsimp only
      rw [if_pos hc, hsp.1, hsp.2]
    · have : s.drop i = [] := List.drop_eq_nil_of_le (by omega)
      rw [this, show s.drop j = [] from List.drop_eq_nil_of_le (by omega)]
      simp
  · subst h
    have hc : ¬ lowB s[i] = true := by rw [h4 hi]; decide
    have hi1 : i + 1 < s.length := by obtain ⟨h, _⟩ := List.getElem?_eq_some_iff.1 b; exact h
    obtain ⟨_, ea⟩ := List.getElem?_eq_some_iff.1 a
    obtain ⟨_, eb⟩ := List.getElem?_eq_some_iff.1 b
    rw [List.drop_eq_getElem_cons hi, List.drop_eq_getElem_cons hi1]
    dsimp only
    rw [if_neg hc, if_pos (by rw [ea, eb]; rfl), show i + 2 - i = 2 by omega]
    rfl
  · subst h
    have hc : ¬ lowB s[i] = true := by rw [h4 hi]; decide
    rw [List.drop_eq_getElem_cons hi]
    dsimp only
    rw [if_neg hc]
    by_cases hi1 : i + 1 < s.length
    · rw [List.drop_eq_getElem_cons hi1]
      dsimp only
      rw [if_neg]
      · rw [show i + 1 - i = 1 by omega]; rfl
      · intro h
        rw [Bool.and_eq_true, beq_iff_eq, beq_iff_eq] at h
        exact a ⟨by rw [List.getElem?_eq_getElem hi, h.1], by rw [List.getElem?_eq_getElem hi1, h.2]⟩
    · rw [show s.drop (i + 1) = [] from List.drop_eq_nil_of_le (by omega), show i + 1 - i = 1 by omega]
      rfl
end Go.Proofs.YtikigaeihdmcaaaGreatDoor

/-
  rule's reader of words: fail, next, named, digit, one: walked.
-/
set_option linter.unusedVariables false
set_option linter.unusedSimpArgs false
namespace Go.Proofs.YtikigaeihdmcaaaGreatDoor
open Go.RowKit

instance iRty1 : IsFd Tryz.prog 63 0 0 := IsFd.of (by kernel_rfl)
instance iRty2 : IsFd Tryz.prog 63 1 1 := IsFd.of (by kernel_rfl)
instance iRty3 : IsFd Tryz.prog 63 2 2 := IsFd.of (by kernel_rfl)
instance iRty4 : IsFd Tryz.prog 63 3 3 := IsFd.of (by kernel_rfl)
instance iRty5 : IsC Tryz.prog 63 4 true := IsC.of (by kernel_rfl) Tryz.underlying63 rfl
instance iRty6 : IsBd Tryz.prog 63 [(0, 1), (1, 1), (2, 1), (3, 1)] := IsBd.of (by kernel_rfl)
instance iRty7 : IsZC Tryz.prog 63 [.slice none 0 0, .slice none 0 0, .int .i64 0, .int .i64 0] := IsZC.of (z := .agg #[.slice none 0 0, .slice none 0 0, .int .i64 0, .int .i64 0]) (by kernel_rfl) rfl
instance iRty8 : IsF Tryz.prog 28 := ⟨_, Tryz.func28, rfl, by decide⟩
instance iRty9 : IsF Tryz.prog 45 := ⟨_, Tryz.func45, rfl, by decide⟩
instance iRty10 : IsF Tryz.prog 64 := ⟨_, Tryz.func64, rfl, by decide⟩
instance iRty11 : IsF Tryz.prog 65 := ⟨_, Tryz.func65, rfl, by decide⟩
instance iRty12 : IsF Tryz.prog 66 := ⟨_, Tryz.func66, rfl, by decide⟩
theorem grT {w w' w'' : World} {r : Option Nat} (h : w.grownBy w' r) (k : w'.grownBy w'' r) : w.grownBy w'' r :=
  ⟨k.os.trans h.os, k.tape.trans h.tape, k.output.trans h.output, Nat.le_trans h.size k.size, fun b hb hr => (k.block b (Nat.lt_of_lt_of_le hb h.size) hr).trans (h.block b hb hr)⟩
/-- a reader: its words, what of them is left, what went wrong -/
structure RRd (w : World) (b : Nat) (wo : Option Addr) (wc : Nat) (W : List ByteArray) (no : Option Addr) (nc : Nat) (nms : List ByteArray) (st : RSt) : Prop where
  blk : Blk w b 63 [.slice wo W.length wc, .slice no nms.length nc, .int .i64 ((W.length - st.1.length : Nat) : Int), .int .i64 st.2]
  ws : Sl w (fun c => c < b) wo wc W
  nm : Sl w (fun c => c < b) no nc nms
  dr : st.1 = (W.map bysA).drop (W.length - st.1.length)
  le : st.1.length ≤ W.length
  sz : W.length ≤ 5000
  tot : (joinS 32 (W.map bysA)).length ≤ 5000
section
variable {w w' : World} {b : Nat} {wo : Option Addr} {wc : Nat} {W : List ByteArray} {no : Option Addr} {nc : Nat} {nms : List ByteArray} {st : RSt}
theorem RRd.keep {r : Option Nat} (h : RRd w b wo wc W no nc nms st) (hg : w.grownBy w' r) (hr : ∀ c, r = some c → b < c) : RRd w' b wo wc W no nc nms st := by
  have hk : ∀ c, c ≤ b → w'.heap[c]? = w.heap[c]? := fun c hc => hg.block c (by have := h.blk.lt; omega) (fun e => by have := hr c e.symm; omega)
  exact ⟨(hk b (Nat.le_refl _)).trans h.blk, h.ws.mono (fun c hc => hk c (Nat.le_of_lt hc)) (fun _ h => h), h.nm.mono (fun c hc => hk c (Nat.le_of_lt hc)) (fun _ h => h), h.dr, h.le, h.sz, h.tot⟩
theorem RRd.ext (h : RRd w b wo wc W no nc nms st) (hE : Ext w w') : RRd w' b wo wc W no nc nms st := h.keep (hE.grw none) (fun c e => by cases e)
/-- its own block is written -/
theorem RRd.own {st' : RSt} (h : RRd w b wo wc W no nc nms st) (hg : w.grownBy w' (some b)) (hb : Blk w' b 63 [.slice wo W.length wc, .slice no nms.length nc, .int .i64 ((W.length - st'.1.length : Nat) : Int), .int .i64 st'.2])
    (hs : st'.1 = (W.map bysA).drop (W.length - st'.1.length)) (hl : st'.1.length ≤ W.length) : RRd w' b wo wc W no nc nms st' := by
  have hk : ∀ c, c < b → w'.heap[c]? = w.heap[c]? := fun c hc => hg.block c (by have := h.blk.lt; omega) (fun e => by have := Option.some.inj e; omega)
  exact ⟨hb, h.ws.mono (fun c hc => hk c hc) (fun _ h => h), h.nm.mono (fun c hc => hk c hc) (fun _ h => h), hs, hl, h.sz, h.tot⟩
theorem RRd.lt (h : RRd w b wo wc W no nc nms st) : b < w.heap.size := h.blk.lt
/-- at++ -/
theorem RRd.took (h : RRd w b wo wc W no nc nms st) (hn : st.1 ≠ []) (hg : w.grownBy w' (some b)) (hb : Blk w' b 63 [.slice wo W.length wc, .slice no nms.length nc, .int .i64 (((W.length - st.1.length : Nat) : Int) + 1), .int .i64 st.2]) : RRd w' b wo wc W no nc nms (takeW st) := by
  have h0 : 0 < st.1.length := List.length_pos_iff.2 hn
  have hle := h.le
  have e : W.length - (takeW st).1.length = W.length - st.1.length + 1 := by
    unfold takeW
    rw [List.length_tail]; omega
  refine h.own hg ?_ ?_ ?_
  · rw [e]
    have : ((W.length - st.1.length + 1 : Nat) : Int) = ((W.length - st.1.length : Nat) : Int) + 1 := by omega
    rw [this]; exact hb
  · rw [e, ← List.drop_drop, ← h.dr]
    unfold takeW
    rw [List.drop_one]
  · unfold takeW; rw [List.length_tail]; omega
theorem RRd.cons (h : RRd w b wo wc W no nc nms st) (hn : st.1 ≠ []) : ∃ hi : W.length - st.1.length < W.length, W[W.length - st.1.length] = txA (st.1.headD []) := by
  have h0 : 0 < st.1.length := List.length_pos_iff.2 hn
  have hle := h.le
  have hi : W.length - st.1.length < W.length := by omega
  refine ⟨hi, ?_⟩
  have hs := h.dr
  rw [List.drop_eq_getElem_cons (by rw [List.length_map]; exact hi)] at hs
  have hh := congrArg (fun l : List Bys => l.headD []) hs
  simp only [List.headD_cons, List.getElem_map] at hh
  rw [hh, txA_eta]
end
section
variable {P : Program} {Q : Exit → Act → World → Prop} {n : Nat} {σ : Sg} {w : World} {L rest : List Oper} {d : Nat} {op : Op} {ty : TypeId} {pos : String} {af : Array Edge} {g : Option (Nat × Bool)} {t : TypeId} {x : Operand}
theorem WL.lenP2 {s : Bys} (hg : gd L σ ⟨some d, .call ⟨.builtin .len, #[x], #[t]⟩, ty, pos, af, g⟩ = some true) (hd : Nat.ble (d + 1) n = true)
    (hx : ev σ x = some (tV s)) [hs : IsStr P t] (h : WL P L Q rest n ((d, .int .i64 (s.length : Int)) :: σ) w) : WL P L Q (⟨some d, .call ⟨.builtin .len, #[x], #[t]⟩, ty, pos, af, g⟩ :: rest) n σ w :=
  WL.lenT hg hd hx (by rw [txA_size]; exact h)
end
theorem next_ok (w : World) {b : Nat} {wo : Option Addr} {wc : Nat} {W : List ByteArray} {no : Option Addr} {nc : Nat} {nms : List ByteArray} {st : RSt} (h : RRd w b wo wc W no nc nms st) :
    Rt Tryz.prog 45 [.pointer (some ⟨b, 0, none⟩)].toArray w fun v w' => v = tV (nextW st) ∧ Ext w w' := by
  refine Rt.enter1 Tryz.func45 Tryz.ntmps45 rfl rfl ?_
  have hD := Ext.drew w
  have hb := h.blk
  unfold nextW
  (repeat (first | (apply WL.pure; rfl; rfl; rfl) | (apply QL.pure; rfl; rfl; rfl) | (apply WL.nil) | (apply EX.thenN) | (apply CW.seq) | (apply CW.region) | (apply QL.fa; rfl; rfl; rfl) | (apply QL.nck; rfl; rfl; rfl) | (apply QL.ld; rfl; rfl; rfl; assumption; rfl) | (apply CW.draw; exact mixed; kernel_rfl)))
  cases he : (st.2 != 0) with
  | true =>
    have he : st.2 ≠ 0 := by simpa using he
    rw [if_pos he]
    (repeat (first | (apply QL.pure; rfl; rfl; rfl) | (apply QL.pass; rfl; rfl)))
    refine QL.nil (fun w1 e1 => ?_)
    (repeat (first | (apply WL.pure; rfl; rfl; rfl) | (apply WL.nil) | (apply EX.thenN) | (apply CW.seq) | (apply CW.region) | (apply CW.condT; rfl) | (apply CW.ret) | (apply EX.thenR)))
    exact EX.ret1 rfl rfl ⟨rfl, e1⟩
  | false =>
  have he : st.2 = 0 := by simpa using he
  rw [if_neg (by simpa using he)]
  (repeat (first | (apply QL.pure; rfl; rfl; rfl) | (apply QL.lenS; rfl; rfl; rfl) | (apply QL.fa; rfl; rfl; rfl) | (apply QL.nck; rfl; rfl; rfl) | (apply QL.ld; rfl; rfl; rfl; assumption; rfl)))
  cases hn : (((W.length - st.1.length : Nat) : Int) == (W.length : Int)) with
  | true =>
    have hn : st.1 = [] := by
      have h1 := h.le
      have h2 : ((W.length - st.1.length : Nat) : Int) = (W.length : Int) := by simpa using hn
      exact List.length_eq_zero_iff.1 (by
        by_cases h0 : W.length = 0
        · omega
        · omega)
    rw [hn]
    skip
    refine QL.nil (fun w1 e1 => ?_)
    (repeat (first | (apply WL.pure; rfl; rfl; rfl) | (apply WL.nil) | (apply EX.thenN) | (apply CW.seq) | (apply CW.region) | (apply CW.condT; rfl) | (apply CW.ret) | (apply EX.thenR)))
    exact EX.ret1 rfl rfl ⟨rfl, e1⟩
  | false =>
  have hn : st.1 ≠ [] := by
    intro e
    rw [e] at hn
    simp at hn
  obtain ⟨hi, hx⟩ := h.cons hn
  skip
  refine QL.nil (fun w1 e1 => ?_)
  have h1 := h.ext e1
  have hb1 := h1.blk
  (repeat (first | (apply QL.pure; rfl; rfl; rfl) | (apply EX.thenN) | (apply CW.seq) | (apply QL.fa; rfl; rfl; rfl) | (apply QL.nck; rfl; rfl; rfl) | (apply QL.ld; rfl; rfl; rfl; assumption; rfl) | (apply CW.condF; rfl) | (apply CW.skip) | (apply CW.draw; exact mixed; kernel_rfl)))
  refine QL.elemN rfl rfl rfl rfl rfl (fun c hc => Nat.lt_trans hc h1.lt) h1.ws hi (fun _ => rfl) (fun u q hu => ?_)
  obtain ⟨rfl, -⟩ := hu.str
  rw [hx]
  (repeat (apply QL.pure; rfl; rfl; rfl))
  refine QL.nil (fun w2 e2 => ?_)
  (repeat (first | (apply EX.thenN) | (apply CW.ret)))
  exact EX.ret1 rfl rfl ⟨rfl, e1.trans e2⟩
theorem fail_ok (w : World) {b : Nat} {wo : Option Addr} {wc : Nat} {W : List ByteArray} {no : Option Addr} {nc : Nat} {nms : List ByteArray} {st : RSt} (h : RRd w b wo wc W no nc nms st) (e : Int) :
    Rt Tryz.prog 28 [.pointer (some ⟨b, 0, none⟩), .int .i64 e].toArray w fun v w' => v = .tuple #[] ∧ RRd w' b wo wc W no nc nms (failW st e) ∧ w.grownBy w' (some b) := by
  refine Rt.enter2 Tryz.func28 Tryz.ntmps28 rfl rfl ?_
  have hb := h.blk
  unfold failW
  (repeat (first | (apply WL.pure; rfl; rfl; rfl) | (apply WL.nil) | (apply EX.thenN) | (apply CW.seq) | (apply CW.region) | (apply WL.fa; rfl; rfl; rfl) | (apply WL.nck; rfl; rfl; rfl) | (apply WL.ld; rfl; rfl; rfl; assumption; rfl)))
  refine CW.cond rfl (fun h1 => ?_) (fun h1 => ?_)
  · have h1 : st.2 = 0 := by simpa using h1
    rw [if_pos h1]
    (repeat (first | (apply WL.pure; rfl; rfl; rfl) | (apply CW.region) | (apply WL.fa; rfl; rfl; rfl) | (apply WL.nck; rfl; rfl; rfl)))
    refine WL.st rfl rfl rfl hb rfl rfl (ones_of rfl) (fun w1 hb1 hg1 => ?_)
    (repeat (apply WL.nil))
    exact EX.end0 rfl ⟨rfl, h.own hg1 hb1 h.dr h.le, hg1⟩
  · have h1 : st.2 ≠ 0 := by simpa using h1
    rw [if_neg h1]
    (repeat (apply CW.skip))
    exact EX.end0 rfl ⟨rfl, h, (Ext.refl w).grw _⟩
theorem rnamed_ok (w : World) {b : Nat} {wo : Option Addr} {wc : Nat} {W : List ByteArray} {no : Option Addr} {nc : Nat} {nms : List ByteArray} {st : RSt} (h : RRd w b wo wc W no nc nms st) (s : Bool) :
    Rt Tryz.prog 65 [.pointer (some ⟨b, 0, none⟩), .bool s].toArray w fun v w' => v = .int .i64 (namedR nms s st).1 ∧ RRd w' b wo wc W no nc nms (namedR nms s st).2 ∧ w.grownBy w' (some b) := by
  have hWs := h.sz
  refine Rt.enter2 Tryz.func65 Tryz.ntmps65 rfl rfl ?_
  unfold namedR
  (repeat (first | (apply WL.pure; rfl; rfl; rfl) | (apply WL.nil) | (apply EX.thenN) | (apply CW.seq) | (apply CW.region)))
  refine WL.call rfl rfl rfl (next_ok w h) ?_
  rintro _ w1 ⟨rfl, e1⟩
  have h1 := h.ext e1
  have g1 := e1.grw (some b)
  have hb := h1.blk
  have hne : nextW st ≠ [] → st.1 ≠ [] := fun hx e => hx (by unfold nextW; rw [e]; split <;> rfl)
  generalize nextW st = nw at *
  cases s with
  | false =>
    rw [if_neg (fun e => by cases e.1)]
    (repeat (first | (apply WL.pure; rfl; rfl; rfl) | (apply WL.nil) | (apply EX.thenN) | (apply CW.seq) | (apply CW.region) | (apply WL.pass; rfl; rfl) | (apply CW.condF; rfl) | (apply CW.skip)))
    refine WL.call rfl rfl rfl (Named_ok w1 (txA nw)) ?_
    rintro _ w2 ⟨rfl, e2⟩
    have h2 := h1.ext e2
    have g2 := grT g1 (e2.grw (some b))
    have hb2 := h2.blk
    have hnb : namedB (txA nw) = namedL nw := rfl
    rw [hnb]
    cases hn : namedL nw with
    | false =>
      rw [if_pos rfl]
      (repeat (first | (apply WL.pure; rfl; rfl; rfl) | (apply WL.nil) | (apply EX.thenN) | (apply CW.seq) | (apply CW.region) | (apply CW.condT; rfl)))
      refine WL.call rfl rfl rfl (fail_ok w2 h2 3) ?_
      rintro _ w3 ⟨rfl, h3, g3⟩
      (repeat (first | (apply WL.pure; rfl; rfl; rfl) | (apply WL.nil) | (apply EX.thenN) | (apply CW.seq) | (apply CW.region) | (apply CW.ret) | (apply EX.thenR)))
      exact EX.ret1 rfl rfl ⟨rfl, h3, grT g2 g3⟩
    | true =>
    rw [if_neg (by decide)]
    (repeat (first | (apply WL.pure; rfl; rfl; rfl) | (apply WL.nil) | (apply EX.thenN) | (apply CW.seq) | (apply CW.region) | (apply WL.fa; rfl; rfl; rfl) | (apply WL.nck; rfl; rfl; rfl) | (apply WL.ld; rfl; rfl; rfl; assumption; rfl) | (apply CW.condF; rfl) | (apply CW.skip)))
    refine WL.call rfl rfl rfl (index_str w2 (txA nw) (h2.nm.mono (fun _ _ => rfl) (fun c hc => Nat.lt_trans hc h2.lt))) ?_
    rintro _ w3 ⟨rfl, rfl⟩
    rw [idxB_of (txA nw), txA_list]
    generalize hix : idxB nms nw = ix at *
    (repeat (first | (apply WL.pure; rfl; rfl; rfl) | (apply WL.nil) | (apply EX.thenN) | (apply CW.seq) | (apply CW.region)))
    cases h0 : decide (ix < 0) with
    | true =>
      rw [if_pos (.inl (of_decide_eq_true h0))]
      (repeat (first | (apply WL.pure; rfl; rfl; rfl) | (apply WL.nil) | (apply EX.thenN) | (apply CW.seq) | (apply CW.region) | (apply WL.pass; rfl; rfl) | (apply CW.condT; rfl)))
      refine WL.call rfl rfl rfl (fail_ok w2 h2 4) ?_
      rintro _ w3 ⟨rfl, h3, g3⟩
      (repeat (first | (apply WL.pure; rfl; rfl; rfl) | (apply WL.nil) | (apply EX.thenN) | (apply CW.seq) | (apply CW.region) | (apply CW.ret) | (apply EX.thenR)))
      exact EX.ret1 rfl rfl ⟨rfl, h3, grT g2 g3⟩
    | false =>
    (repeat (first | (apply WL.pure; rfl; rfl; rfl) | (apply WL.nil) | (apply EX.thenN)))
    cases h6 : decide (ix ≥ 63) with
    | true =>
      rw [if_pos (.inr (of_decide_eq_true h6))]
      (repeat (first | (apply WL.pure; rfl; rfl; rfl) | (apply CW.seq) | (apply CW.region) | (apply CW.condT; rfl)))
      refine WL.call rfl rfl rfl (fail_ok w2 h2 4) ?_
      rintro _ w3 ⟨rfl, h3, g3⟩
      (repeat (first | (apply WL.pure; rfl; rfl; rfl) | (apply WL.nil) | (apply EX.thenN) | (apply CW.seq) | (apply CW.region) | (apply CW.ret) | (apply EX.thenR)))
      exact EX.ret1 rfl rfl ⟨rfl, h3, grT g2 g3⟩
    | false =>
    rw [if_neg (fun e => e.elim (of_decide_eq_false h0) (of_decide_eq_false h6))]
    (repeat (first | (apply WL.add; rfl; rfl; rfl; rfl; omega; omega) | (apply WL.pure; rfl; rfl; rfl) | (apply EX.thenN) | (apply CW.seq) | (apply CW.region) | (apply WL.fa; rfl; rfl; rfl) | (apply WL.nck; rfl; rfl; rfl) | (apply WL.ld; rfl; rfl; rfl; assumption; rfl) | (apply CW.condF; rfl) | (apply CW.skip)))
    refine WL.st rfl rfl rfl hb2 rfl rfl (ones_of rfl) (fun w4 hb4 hg4 => ?_)
    (repeat (first | (apply WL.pure; rfl; rfl; rfl) | (apply WL.nil) | (apply EX.thenN) | (apply CW.seq) | (apply CW.region) | (apply CW.ret)))
    exact EX.ret1 rfl rfl ⟨rfl, h2.took (hne (fun e => by rw [e] at hn; cases hn)) hg4 hb4, grT g2 hg4⟩
  | true =>
    by_cases hs : nw = tSil
    · subst hs
      rw [if_pos ⟨rfl, rfl⟩]
      (repeat (first | (apply WL.add; rfl; rfl; rfl; rfl; omega; omega) | (apply WL.pure; rfl; rfl; rfl) | (apply WL.nil) | (apply EX.thenN) | (apply CW.seq) | (apply CW.region) | (apply WL.fa; rfl; rfl; rfl) | (apply WL.nck; rfl; rfl; rfl) | (apply WL.ld; rfl; rfl; rfl; assumption; rfl) | (apply CW.condT; rfl)))
      rw [show ((txA tSil).data.toList == ({ data := #[115, 105, 108, 101, 110, 116] } : ByteArray).data.toList) = true from by decide]
      skip
      refine WL.st rfl rfl rfl hb rfl rfl (ones_of rfl) (fun w2 hb2 hg2 => ?_)
      (repeat (first | (apply WL.pure; rfl; rfl; rfl) | (apply WL.nil) | (apply EX.thenN) | (apply CW.seq) | (apply CW.region) | (apply CW.ret) | (apply EX.thenR)))
      exact EX.ret1 rfl rfl ⟨rfl, h1.took (hne (by decide)) hg2 hb2, grT g1 hg2⟩
    rw [if_neg (fun e => hs e.2)]
    (repeat (first | (apply WL.pure; rfl; rfl; rfl) | (apply WL.nil) | (apply EX.thenN) | (apply CW.seq) | (apply CW.region)))
    rw [show ((txA nw).data.toList == ({ data := #[115, 105, 108, 101, 110, 116] } : ByteArray).data.toList) = false from beq_eq_false_iff_ne.2 hs]
    (repeat (first | (apply WL.pure; rfl; rfl; rfl) | (apply EX.thenN) | (apply CW.seq) | (apply CW.region) | (apply CW.condF; rfl) | (apply CW.skip)))
    refine WL.call rfl rfl rfl (Named_ok w1 (txA nw)) ?_
    rintro _ w2 ⟨rfl, e2⟩
    have h2 := h1.ext e2
    have g2 := grT g1 (e2.grw (some b))
    have hb2 := h2.blk
    have hnb : namedB (txA nw) = namedL nw := rfl
    rw [hnb]
    cases hn : namedL nw with
    | false =>
      rw [if_pos rfl]
      (repeat (first | (apply WL.pure; rfl; rfl; rfl) | (apply WL.nil) | (apply EX.thenN) | (apply CW.seq) | (apply CW.region) | (apply CW.condT; rfl)))
      refine WL.call rfl rfl rfl (fail_ok w2 h2 3) ?_
      rintro _ w3 ⟨rfl, h3, g3⟩
      (repeat (first | (apply WL.pure; rfl; rfl; rfl) | (apply WL.nil) | (apply EX.thenN) | (apply CW.seq) | (apply CW.region) | (apply CW.ret) | (apply EX.thenR)))
      exact EX.ret1 rfl rfl ⟨rfl, h3, grT g2 g3⟩
    | true =>
    rw [if_neg (by decide)]
    (repeat (first | (apply WL.pure; rfl; rfl; rfl) | (apply WL.nil) | (apply EX.thenN) | (apply CW.seq) | (apply CW.region) | (apply WL.fa; rfl; rfl; rfl) | (apply WL.nck; rfl; rfl; rfl) | (apply WL.ld; rfl; rfl; rfl; assumption; rfl) | (apply CW.condF; rfl) | (apply CW.skip)))
    refine WL.call rfl rfl rfl (index_str w2 (txA nw) (h2.nm.mono (fun _ _ => rfl) (fun c hc => Nat.lt_trans hc h2.lt))) ?_
    rintro _ w3 ⟨rfl, rfl⟩
    rw [idxB_of (txA nw), txA_list]
    generalize hix : idxB nms nw = ix at *
    (repeat (first | (apply WL.pure; rfl; rfl; rfl) | (apply WL.nil) | (apply EX.thenN) | (apply CW.seq) | (apply CW.region)))
    cases h0 : decide (ix < 0) with
    | true =>
      rw [if_pos (.inl (of_decide_eq_true h0))]
      (repeat (first | (apply WL.pure; rfl; rfl; rfl) | (apply WL.nil) | (apply EX.thenN) | (apply CW.seq) | (apply CW.region) | (apply WL.pass; rfl; rfl) | (apply CW.condT; rfl)))
      refine WL.call rfl rfl rfl (fail_ok w2 h2 4) ?_
      rintro _ w3 ⟨rfl, h3, g3⟩
      (repeat (first | (apply WL.pure; rfl; rfl; rfl) | (apply WL.nil) | (apply EX.thenN) | (apply CW.seq) | (apply CW.region) | (apply CW.ret) | (apply EX.thenR)))
      exact EX.ret1 rfl rfl ⟨rfl, h3, grT g2 g3⟩
    | false =>
    (repeat (first | (apply WL.pure; rfl; rfl; rfl) | (apply WL.nil) | (apply EX.thenN)))
    cases h6 : decide (ix ≥ 63) with
    | true =>
      rw [if_pos (.inr (of_decide_eq_true h6))]
      (repeat (first | (apply WL.pure; rfl; rfl; rfl) | (apply CW.seq) | (apply CW.region) | (apply CW.condT; rfl)))
      refine WL.call rfl rfl rfl (fail_ok w2 h2 4) ?_
      rintro _ w3 ⟨rfl, h3, g3⟩
      (repeat (first | (apply WL.pure; rfl; rfl; rfl) | (apply WL.nil) | (apply EX.thenN) | (apply CW.seq) | (apply CW.region) | (apply CW.ret) | (apply EX.thenR)))
      exact EX.ret1 rfl rfl ⟨rfl, h3, grT g2 g3⟩
    | false =>
    rw [if_neg (fun e => e.elim (of_decide_eq_false h0) (of_decide_eq_false h6))]
    (repeat (first | (apply WL.add; rfl; rfl; rfl; rfl; omega; omega) | (apply WL.pure; rfl; rfl; rfl) | (apply EX.thenN) | (apply CW.seq) | (apply CW.region) | (apply WL.fa; rfl; rfl; rfl) | (apply WL.nck; rfl; rfl; rfl) | (apply WL.ld; rfl; rfl; rfl; assumption; rfl) | (apply CW.condF; rfl) | (apply CW.skip)))
    refine WL.st rfl rfl rfl hb2 rfl rfl (ones_of rfl) (fun w4 hb4 hg4 => ?_)
    (repeat (first | (apply WL.pure; rfl; rfl; rfl) | (apply WL.nil) | (apply EX.thenN) | (apply CW.seq) | (apply CW.region) | (apply CW.ret)))
    exact EX.ret1 rfl rfl ⟨rfl, h2.took (hne (fun e => by rw [e] at hn; cases hn)) hg4 hb4, grT g2 hg4⟩
theorem rdig_ok (w : World) {b : Nat} {wo : Option Addr} {wc : Nat} {W : List ByteArray} {no : Option Addr} {nc : Nat} {nms : List ByteArray} {st : RSt} (h : RRd w b wo wc W no nc nms st) :
    Rt Tryz.prog 66 [.pointer (some ⟨b, 0, none⟩)].toArray w fun v w' => v = .int .i64 (digitR st).1 ∧ RRd w' b wo wc W no nc nms (digitR st).2 ∧ w.grownBy w' (some b) := by
  have hWs := h.sz
  refine Rt.enter1 Tryz.func66 Tryz.ntmps66 rfl rfl ?_
  have hT : (nextW st).length ≠ 1 ∨ (nextW st).headD 0 < 48 ∨ 57 < (nextW st).headD 0 → digitR st = (0, failW st 3) := fun h => by unfold digitR; rw [if_pos h]
  have hF : ¬ ((nextW st).length ≠ 1 ∨ (nextW st).headD 0 < 48 ∨ 57 < (nextW st).headD 0) → digitR st = ((((nextW st).headD 0).toNat : Int) - 48, takeW st) := fun h => by unfold digitR; rw [if_neg h]
  (repeat (first | (apply WL.pure; rfl; rfl; rfl) | (apply WL.nil) | (apply EX.thenN) | (apply CW.seq) | (apply CW.region)))
  refine WL.call rfl rfl rfl (next_ok w h) ?_
  rintro _ w1 ⟨rfl, e1⟩
  have h1 := h.ext e1
  have g1 := e1.grw (some b)
  have hb := h1.blk
  have hne : nextW st ≠ [] → st.1 ≠ [] := fun hx e => hx (by unfold nextW; rw [e]; split <;> rfl)
  generalize nextW st = nw at *
  (repeat (first | (apply WL.pure; rfl; rfl; rfl) | (apply WL.nil) | (apply EX.thenN) | (apply CW.seq) | (apply CW.region)))
  refine WL.lenP2 rfl rfl rfl ?_
  (repeat (apply WL.pure; rfl; rfl; rfl))
  cases hl : ((nw.length : Int) != 1) with
  | true =>
    have hl : nw.length ≠ 1 := by simp at hl; omega
    rw [hT (.inl hl)]
    (repeat (first | (apply WL.pure; rfl; rfl; rfl) | (apply WL.nil) | (apply EX.thenN) | (apply CW.seq) | (apply CW.region) | (apply WL.pass; rfl; rfl) | (apply CW.condT; rfl)))
    refine WL.call rfl rfl rfl (fail_ok w1 h1 3) ?_
    rintro _ w3 ⟨rfl, h3, g3⟩
    (repeat (first | (apply WL.pure; rfl; rfl; rfl) | (apply WL.nil) | (apply EX.thenN) | (apply CW.seq) | (apply CW.region) | (apply CW.ret) | (apply EX.thenR)))
    exact EX.ret1 rfl rfl ⟨rfl, h3, grT g1 g3⟩
  | false =>
  have hl : nw.length = 1 := by simp at hl; omega
  obtain ⟨c, rfl⟩ : ∃ c, nw = [c] := by
    match nw, hl with
    | [c], _ => exact ⟨c, rfl⟩
  simp only [List.headD_cons] at hT hF
  (repeat (apply WL.pure; rfl; rfl; rfl))
  refine WL.byteL (s := [c]) (i := 0) rfl rfl rfl rfl (by simp) ?_
  rw [show (([c] : List UInt8)[0]'(by simp)) = c from rfl]
  (repeat (apply WL.pure; rfl; rfl; rfl))
  cases h4 : decide ((c.toNat : Int) < 48) with
  | true =>
    have h4' : c < 48 := by have := of_decide_eq_true h4; rw [UInt8.lt_iff_toNat_lt]; show c.toNat < 48; omega
    rw [hT (.inr (.inl h4'))]
    (repeat (first | (apply WL.pure; rfl; rfl; rfl) | (apply WL.nil) | (apply EX.thenN) | (apply CW.seq) | (apply CW.region) | (apply WL.pass; rfl; rfl) | (apply CW.condT; rfl)))
    refine WL.call rfl rfl rfl (fail_ok w1 h1 3) ?_
    rintro _ w3 ⟨rfl, h3, g3⟩
    (repeat (first | (apply WL.pure; rfl; rfl; rfl) | (apply WL.nil) | (apply EX.thenN) | (apply CW.seq) | (apply CW.region) | (apply CW.ret) | (apply EX.thenR)))
    exact EX.ret1 rfl rfl ⟨rfl, h3, grT g1 g3⟩
  | false =>
  have h4' : ¬ c < 48 := by have := of_decide_eq_false h4; rw [UInt8.lt_iff_toNat_lt]; show ¬ c.toNat < 48; omega
  (repeat (apply WL.pure; rfl; rfl; rfl))
  refine WL.byteL (s := [c]) (i := 0) rfl rfl rfl rfl (by simp) ?_
  rw [show (([c] : List UInt8)[0]'(by simp)) = c from rfl]
  (repeat (first | (apply WL.pure; rfl; rfl; rfl) | (apply WL.nil) | (apply EX.thenN)))
  cases h5 : decide ((c.toNat : Int) > 57) with
  | true =>
    have h5' : 57 < c := by have := of_decide_eq_true h5; rw [UInt8.lt_iff_toNat_lt]; show 57 < c.toNat; omega
    rw [hT (.inr (.inr h5'))]
    (repeat (first | (apply WL.pure; rfl; rfl; rfl) | (apply CW.seq) | (apply CW.region) | (apply CW.condT; rfl)))
    refine WL.call rfl rfl rfl (fail_ok w1 h1 3) ?_
    rintro _ w3 ⟨rfl, h3, g3⟩
    (repeat (first | (apply WL.pure; rfl; rfl; rfl) | (apply WL.nil) | (apply EX.thenN) | (apply CW.seq) | (apply CW.region) | (apply CW.ret) | (apply EX.thenR)))
    exact EX.ret1 rfl rfl ⟨rfl, h3, grT g1 g3⟩
  | false =>
  have h5' : ¬ 57 < c := by have := of_decide_eq_false h5; rw [UInt8.lt_iff_toNat_lt]; show ¬ 57 < c.toNat; omega
  have hc10 : c.toNat = 48 ∨ c.toNat = 49 ∨ c.toNat = 50 ∨ c.toNat = 51 ∨ c.toNat = 52 ∨ c.toNat = 53 ∨ c.toNat = 54 ∨ c.toNat = 55 ∨ c.toNat = 56 ∨ c.toNat = 57 := by
    have := of_decide_eq_false h4
    have := of_decide_eq_false h5
    omega
  rw [hF (fun e => e.elim (fun e => e hl) (fun e => e.elim h4' h5'))]
  (repeat (first | (apply WL.add; rfl; rfl; rfl; rfl; omega; omega) | (apply WL.pure; rfl; rfl; rfl) | (apply EX.thenN) | (apply CW.seq) | (apply CW.region) | (apply WL.fa; rfl; rfl; rfl) | (apply WL.nck; rfl; rfl; rfl) | (apply WL.ld; rfl; rfl; rfl; assumption; rfl) | (apply CW.condF; rfl) | (apply CW.skip)))
  refine WL.st rfl rfl rfl hb rfl rfl (ones_of rfl) (fun w2 hb2 hg2 => ?_)
  (repeat (first | (apply WL.pure; rfl; rfl; rfl) | (apply WL.nil) | (apply EX.thenN) | (apply CW.seq) | (apply CW.region)))
  refine WL.byteL (s := [c]) (i := 0) rfl rfl rfl rfl (by simp) ?_
  rw [show (([c] : List UInt8)[0]'(by simp)) = c from rfl]
  refine WL.bin (r := .int .u8 ((c.toNat : Int) - 48)) rfl rfl rfl rfl ?_ ?_
  · simp [binOp, eqG (op := .sub) rfl, run_underlying Tryz.underlying5]
    rcases hc10 with e | e | e | e | e | e | e | e | e | e <;> (rw [e]; rfl)
  refine WL.conv (k := .u8) (k' := .i64) rfl rfl rfl ?_
  have hwr : IntKind.i64.wrap ((c.toNat : Int) - 48) = (c.toNat : Int) - 48 := by
    rcases hc10 with e | e | e | e | e | e | e | e | e | e <;> (rw [e]; rfl)
  rw [hwr]
  (repeat (first | (apply WL.pure; rfl; rfl; rfl) | (apply WL.nil) | (apply EX.thenN) | (apply CW.ret)))
  exact EX.ret1 rfl rfl ⟨rfl, h1.took (hne (by simp)) hg2 hb2, grT g1 hg2⟩
theorem rone_ok (w : World) {b : Nat} {wo : Option Addr} {wc : Nat} {W : List ByteArray} {no : Option Addr} {nc : Nat} {nms : List ByteArray} {st : RSt} (h : RRd w b wo wc W no nc nms st) (n : Nat) (hn : n ≤ 100) (of : Int → Bys) {fv : Value}
    (hf : ∀ (k : Int) w, 1 ≤ k → k ≤ n → FnV Tryz.prog fv [.int .i64 k] w fun v w' => v = tV (of k) ∧ Ext w w') :
    Rt Tryz.prog 64 [.pointer (some ⟨b, 0, none⟩), .int .i64 (n : Int), fv].toArray w fun v w' => v = .int .i64 (oneR n of st).1 ∧ RRd w' b wo wc W no nc nms (oneR n of st).2 ∧ w.grownBy w' (some b) := by
  have hWs := h.sz
  have hne : nextW st ≠ [] → st.1 ≠ [] := fun hx e => hx (by unfold nextW; rw [e]; split <;> rfl)
  refine Rt.enter3 Tryz.func64 Tryz.ntmps64 rfl rfl ?_
  unfold oneR
  (repeat (first | (apply WL.pure; rfl; rfl; rfl) | (apply WL.nil) | (apply EX.thenN) | (apply CW.seq) | (apply CW.region) | (apply CW.block)))
  refine CW.loop (S := Nat) (fun k => [(0, .pointer (some ⟨b, 0, none⟩)), (1, .int .i64 (n : Int)), (2, fv), (7, .int .i64 (k : Int))])
    (fun k w' => 1 ≤ k ∧ k ≤ n + 1 ∧ firstW of (nextW st) n 1 = firstW of (nextW st) (n + 1 - k) k ∧ Ext w w') (fun k => n + 1 - k) 1 (by repeat (first | exact trivial | refine ⟨rfl, ?_⟩)) ⟨Nat.le_refl _, by omega, rfl, Ext.refl _⟩ ?_
  rintro k w1 ⟨hk1, hk2, hfw, e1⟩
  have h1 := h.ext e1
  (repeat (first | (apply WL.pure; rfl; rfl; rfl) | (apply WL.nil) | (apply EX.thenN) | (apply CW.seq) | (apply CW.region)))
  refine CW.cond rfl (fun hc => ?_) (fun hc => ?_)
  · have hkn : k ≤ n := by simp at hc; omega
    clear hc
    obtain ⟨m, hm⟩ : ∃ m, n + 1 - k = m + 1 := ⟨n - k, by omega⟩
    rw [hm, firstW] at hfw
    (repeat (first | (apply WL.pure; rfl; rfl; rfl) | (apply EX.thenN) | (apply CW.seq) | (apply CW.region) | (apply CW.block) | (apply CW.skip)))
    refine WL.call rfl rfl rfl (next_ok w1 h1) ?_
    rintro _ w2 ⟨rfl, e2⟩
    have e12 := e1.trans e2
    have h2 := h1.ext e2
    have hb2 := h2.blk
    (repeat (first | (apply WL.pure; rfl; rfl; rfl) | (apply WL.nil) | (apply EX.thenN) | (apply CW.seq) | (apply CW.region)))
    by_cases hw : nextW st = []
    · rw [hw] at hfw ⊢
      rw [if_neg (fun e => e.1 rfl)] at hfw
      (repeat (first | (apply WL.add; rfl; rfl; rfl; rfl; omega; omega) | (apply WL.pure; rfl; rfl; rfl) | (apply WL.nil) | (apply EX.thenN) | (apply CW.region) | (apply WL.pass; rfl; rfl) | (apply EX.inN) | (apply CW.condF; rfl) | (apply CW.skip)))
      exact EX.back (k + 1) (by repeat (first | exact trivial | refine ⟨rfl, ?_⟩)) ⟨by omega, by omega, by rw [hfw]; congr 1; omega, e12⟩ (by omega)
    rw [show ((txA (nextW st)).data.toList == ({ data := #[] } : ByteArray).data.toList) = false from beq_eq_false_iff_ne.2 hw]
    (repeat (apply WL.pure; rfl; rfl; rfl))
    refine WL.callF rfl rfl rfl rfl (hf k w2 (by omega) (by omega)) ?_
    rintro _ w3 ⟨rfl, e3⟩
    have e13 := e12.trans e3
    have h3 := h2.ext e3
    have hb3 := h3.blk
    (repeat (first | (apply WL.pure; rfl; rfl; rfl) | (apply WL.nil) | (apply EX.thenN)))
    by_cases he : nextW st = of k
    · rw [if_pos ⟨hw, he⟩] at hfw
      rw [hfw, if_neg (by omega)]
      rw [show ((txA (nextW st)).data.toList == (txA (of k)).data.toList) = true from beq_iff_eq.2 he]
      (repeat (first | (apply WL.add; rfl; rfl; rfl; rfl; omega; omega) | (apply WL.pure; rfl; rfl; rfl) | (apply CW.seq) | (apply CW.region) | (apply WL.fa; rfl; rfl; rfl) | (apply WL.nck; rfl; rfl; rfl) | (apply WL.ld; rfl; rfl; rfl; assumption; rfl) | (apply CW.condT; rfl)))
      refine WL.st rfl rfl rfl hb3 rfl rfl (ones_of rfl) (fun w4 hb4 hg4 => ?_)
      (repeat (first | (apply WL.pure; rfl; rfl; rfl) | (apply WL.nil) | (apply EX.thenN) | (apply CW.seq) | (apply CW.region) | (apply CW.ret) | (apply EX.thenR) | (apply EX.inR)))
      exact EX.ret1 rfl rfl ⟨rfl, h3.took (hne hw) hg4 hb4, grT (e13.grw _) hg4⟩
    · rw [if_neg (fun e => he e.2)] at hfw
      rw [show ((txA (nextW st)).data.toList == (txA (of k)).data.toList) = false from beq_eq_false_iff_ne.2 he]
      (repeat (first | (apply WL.add; rfl; rfl; rfl; rfl; omega; omega) | (apply WL.pure; rfl; rfl; rfl) | (apply WL.nil) | (apply EX.thenN) | (apply CW.region) | (apply EX.inN) | (apply CW.condF; rfl) | (apply CW.skip)))
      exact EX.back (k + 1) (by repeat (first | exact trivial | refine ⟨rfl, ?_⟩)) ⟨by omega, by omega, by rw [hfw]; congr 1; omega, e13⟩ (by omega)
  · obtain rfl : k = n + 1 := by simp at hc; omega
    rw [Nat.sub_self, firstW] at hfw
    rw [hfw, if_pos rfl]
    (repeat (first | (apply WL.pure; rfl; rfl; rfl) | (apply EX.thenN) | (apply CW.seq) | (apply CW.region) | (apply CW.exit) | (apply EX.thenX) | (apply EX.inX)))
    refine WL.call rfl rfl rfl (fail_ok w1 h1 3) ?_
    rintro _ w2 ⟨rfl, h2, g2⟩
    (repeat (first | (apply WL.pure; rfl; rfl; rfl) | (apply WL.nil) | (apply EX.thenN) | (apply CW.seq) | (apply CW.region) | (apply CW.ret)))
    exact EX.ret1 rfl rfl ⟨rfl, h2, grT (e1.grw _) g2⟩
end Go.Proofs.YtikigaeihdmcaaaGreatDoor

