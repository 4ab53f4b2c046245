/-
  GameFires: walked.
-/
import Derived.Test.YthojdcbpglipeaaGamePlay
import Derived.Test.YthojdcbpglipeaaRet
set_option linter.unusedVariables false
set_option linter.unusedSimpArgs false
namespace Go.Proofs.Ythojdcbpglipeaa
open Go.RowKit

theorem can_mem {p : LProc} {m : List Int} {K i : Nat} : (i : Int) ∈ canP p m K ↔ i < K ∧ enabledP p m ((stepsL p).getD i (0, 0, 0)) = true := by
  unfold canP
  rw [List.mem_map]
  constructor
  · rintro ⟨j, hj, e⟩
    have e : j = i := by omega
    subst e
    have := List.mem_filter.1 hj
    exact ⟨List.mem_range.1 this.1, this.2⟩
  · rintro ⟨h1, h2⟩
    exact ⟨i, List.mem_filter.2 ⟨List.mem_range.2 h1, h2⟩, rfl⟩
theorem fireE_at {p : LProc} {m : List Int} {i : Nat} (hc : chkM p m = 0) (hi : i < (stepsL p).length) :
    (fireE p m (i : Int)).2 = if enabledP p m ((stepsL p).getD i (0, 0, 0)) = false then 9 else if (fireP p m ((stepsL p).getD i (0, 0, 0))).isSome then 0 else 7 := by
  unfold fireE
  rw [if_neg (by simp [hc]), if_neg (by omega), Int.toNat_natCast]
  split <;> rfl
theorem walked_play {p : LProc} {dice : List Int} (hz : (stepsE p).2 = 0) (h : (walkedP p dice).2.length ≤ 500) : playE p (walkedP p dice).2 = ((walkedP p dice).1, (walkedP p dice).2.length, 0) := by
  unfold walkedP at h ⊢
  rw [if_neg (by simp [hz])] at h ⊢
  unfold playE
  dsimp only at h ⊢
  rw [if_neg (by simp [hz]), if_neg (by omega), walk_play]
theorem walked_nil {p : LProc} {dice : List Int} (h : (walkedP p dice).1 = []) : (stepsE p).2 ≠ 0 := by
  unfold walkedP at h
  split at h
  · assumption
  · cases h
theorem playE_nil {p : LProc} (h : (stepsE p).2 ≠ 0) : playE p [] = ([], 0, (stepsE p).2) := by
  unfold playE; rw [if_pos h]
set_option maxRecDepth 100000 in
theorem GameFires_ok (w0 : World) {so fo dO : Option Addr} {sc fc dc : Nat} {ns : List LNode} {fl : List LFlow} {dice : List Int} (hs : Sl w0 (Old w0) so sc ns) (hf : Sl w0 (Old w0) fo fc fl) (hd : Sl w0 (Old w0) dO dc dice) (hdl : dice.length ≤ 1048576) :
    Rt Try.prog 11 [procV so sc fo fc ns.length fl.length, .slice dO dice.length dc].toArray w0 fun v w' => v = .bool true ∧ Ext w0 w' := by
  have hms := hs.len63
  have hmf := hf.len63
  refine Rt.enter2 Try.func11 Try.ntmps11 rfl rfl ?_
  have hE := Ext.refl w0
  (repeat (first | (apply CW.seq) | (apply CW.region)))
  refine WL.boxB rfl rfl rfl fun w1 hb1 e1 => ?_
  have hE := hE.trans e1
  (repeat (first | (apply WL.pure; rfl; rfl; rfl) | (apply WL.nil) | (apply EX.thenN) | (apply CW.seq) | (apply CW.region)))
  refine WL.call rfl rfl rfl (straight_ok w1) ?_
  rintro _ w2 ⟨⟨p1, q1, p2, q2, rfl, g1, g2⟩, e2⟩
  have hb1 := hb1.ext e2
  have hE := hE.trans e2
  skip
  refine WL.litR [(0 : Int), 1] rfl rfl rfl rfl rfl (.cons (Rd.mkInt _ _ _) (.cons (Rd.mkInt _ _ _) .nil)) (by decide) (fun v3 w3 e3 r3 _ => ?_)
  have hb1 := hb1.ext e3
  have hE := hE.trans e3
  obtain ⟨yo, yc, rfl, hys⟩ := r3.sl
  skip
  refine WL.call rfl rfl rfl (Play_ok w3 (ns := straightP.1) (fl := straightP.2) (g1.up e3) (g2.up e3) hys) ?_
  rintro _ w4 ⟨mv, rfl, hmv, e4⟩
  rw [show ((straightP.1, straightP.2) : LProc) = straightP from rfl, straight_play] at hmv ⊢
  have hb1 := hb1.ext e4
  have hE := hE.trans e4
  obtain ⟨xo, xc, rfl, hxs⟩ := hmv.sl
  dsimp only
  rw [show ((2 : Nat) : Int) = 2 from rfl]
  (repeat (first | (apply WL.pure; rfl; rfl; rfl) | (apply WL.nil) | (apply EX.thenN) | (apply CW.seq) | (apply CW.region)))
  refine WL.elem (i := 2) rfl rfl rfl rfl rfl hxs (by decide) (by decide) (fun _ => rfl) (fun u q hu => ?_)
  have hu : Rd w4 (Old w4) u ([0, 0] : List Int) := hu
  obtain ⟨ua, uc, rfl, hus⟩ := hu.sl
  skip
  refine WL.litR [(0 : Int), 0] rfl rfl rfl rfl rfl (.cons (Rd.mkInt _ _ _) (.cons (Rd.mkInt _ _ _) .nil)) (by decide) (fun v5 w5 e5 r5 _ => ?_)
  have hb1 := hb1.ext e5
  have hE := hE.trans e5
  obtain ⟨zo, zc, rfl, hzs⟩ := r5.sl
  skip
  refine WL.call rfl rfl rfl (equal_int w5 (xs := [0, 0]) (ys := [0, 0]) (hus.up e5) hzs) ?_
  rintro _ w6 ⟨rfl, e6⟩
  have hb1 := hb1.ext e6
  have hE := hE.trans e6
  rw [show (([0, 0] : List Int) == [0, 0]) = true by decide]
  clear e1 e2 e3 e4 e5 e6 hmv hxs hys r3 r5 hzs g1 g2 hus hu
  (repeat (first | (apply WL.pure; rfl; rfl; rfl) | (apply WL.nil) | (apply EX.thenN) | (apply CW.seq) | (apply CW.region) | (apply WL.ldA; rfl; rfl; rfl; assumption; rfl) | (apply CW.condF; rfl) | (apply CW.skip)))
  refine WL.call rfl rfl rfl (walked_ok w6 (hs.up hE) (hf.up hE) (hd.up hE) hdl) ?_
  rintro _ w7 ⟨mv, lv, rfl, hmv, hlv, e7⟩
  have hb1 := hb1.ext e7
  have hE := hE.trans e7
  have hlaw := walked_law (p := (ns, fl)) dice
  have hplay := walked_play (p := (ns, fl)) (dice := dice)
  have hnil := walked_nil (p := (ns, fl)) (dice := dice)
  obtain ⟨mo, mc, rfl, hms⟩ := hmv.sl
  obtain ⟨lo, lc, rfl, hls⟩ := hlv.sl
  have hml := hms.len63
  have hll := hls.len63
  generalize (walkedP (ns, fl) dice).1 = marks at *
  generalize (walkedP (ns, fl) dice).2 = l at *
  clear hmv hlv
  (repeat (first | (apply WL.pure; rfl; rfl; rfl) | (apply WL.nil) | (apply EX.thenN) | (apply CW.seq) | (apply CW.region) | (apply WL.lenS; rfl; rfl; rfl)))
  refine CW.cond rfl (fun h => ?_) (fun h => ?_)
  · have h : marks = [] := by
      apply List.eq_nil_of_length_eq_zero
      have : (marks.length : Int) = 0 := by simpa using h
      omega
    have hne := hnil h
    have hz1 : ((stepsE (ns, fl)).2 != 0) = true := by simpa using hne
    (repeat (first | (apply CW.seq) | (apply CW.region) | (apply WL.ldA; rfl; rfl; rfl; assumption; rfl)))
    refine WL.call rfl rfl rfl (Play_ok w7 (l := []) (hs.up hE) (hf.up hE) (Sl.zero _ _)) ?_
    rintro _ w8 ⟨pv, rfl, hpv, e8⟩
    rw [playE_nil hne] at hpv ⊢
    obtain ⟨po, pc, rfl, _⟩ := hpv.sl
    dsimp only
    rw [show ((0 : Nat) : Int) = 0 from rfl]
    (repeat (first | (apply WL.pure; rfl; rfl; rfl) | (apply WL.nil) | (apply EX.thenN) | (apply CW.seq) | (apply CW.region) | (apply WL.lenS; rfl; rfl; rfl) | (apply CW.ret) | (apply EX.thenR)))
    rw [hz1]
    skip
    exact EX.ret1 rfl rfl ⟨rfl, hE.trans e8⟩
  have hne : marks ≠ [] := fun e => by rw [e] at h; simp at h
  obtain ⟨hz, hlen, _, hok⟩ := hlaw hne
  have hplay := hplay hz
  clear hlaw hnil
  (repeat (first | (apply WL.pure; rfl; rfl; rfl) | (apply EX.thenN) | (apply CW.seq) | (apply CW.region) | (apply WL.ldA; rfl; rfl; rfl; assumption; rfl) | (apply CW.skip)))
  refine WL.call rfl rfl rfl (Play_ok w7 (hs.up hE) (hf.up hE) hls) ?_
  rintro _ w8 ⟨pv, rfl, hpv, e8⟩
  have hb1 := hb1.ext e8
  have hE := hE.trans e8
  have hms := hms.up e8
  obtain ⟨po, pc, rfl, hps⟩ := hpv.sl
  clear hpv
  (repeat (apply WL.pure; rfl; rfl; rfl))
  apply WL.nil
  apply EX.thenN
  refine CW.cutE [(2, .pointer (some ⟨w0.heap.size, 0, none⟩)), (8, .slice mo marks.length mc)] ?_ (fun w9 e9 => ?_)
  · (repeat (first | (apply WL.pure; rfl; rfl; rfl) | (apply CW.seq) | (apply CW.region) | (apply WL.lenS; rfl; rfl; rfl)))
    by_cases h5 : (l.length : Int) ≤ 500
    · have hplay := hplay (by omega)
      rw [hplay] at hps ⊢
      dsimp only
      rw [decide_eq_true h5]
      dsimp only at hps
      (repeat (first | (apply WL.pure; rfl; rfl; rfl) | (apply WL.lenS; rfl; rfl; rfl)))
      rw [show ((l.length : Int) != (l.length : Int)) = false by simp]
      (repeat (apply WL.pure; rfl; rfl; rfl))
      refine WL.call rfl rfl rfl (wlists_ok w8 hps hms) ?_
      rintro _ w9 ⟨rfl, e9⟩
      rw [show (marks == marks) = true by simp]
      (repeat (first | (apply WL.pure; rfl; rfl; rfl) | (apply WL.nil) | (apply EX.thenN) | (apply CW.condF; rfl) | (apply CW.skip)))
      exact EX.cutE (by repeat (first | exact trivial | refine ⟨rfl, ?_⟩)) e9
    · rw [decide_eq_false h5]
      (repeat (first | (apply WL.pure; rfl; rfl; rfl) | (apply WL.nil) | (apply EX.thenN) | (apply WL.pass; rfl; rfl) | (apply CW.condF; rfl) | (apply CW.skip)))
      exact EX.cutE (by repeat (first | exact trivial | refine ⟨rfl, ?_⟩)) (Ext.refl _)
  have hb1 := hb1.ext e9
  have hE := hE.trans e9
  have hms := hms.up e9
  clear hps hplay
  have hmp : 0 < marks.length := List.length_pos_iff.2 hne
  (repeat (first | (apply WL.sub'; rfl; rfl; rfl; rfl; omega; omega) | (apply WL.pure; rfl; rfl; rfl) | (apply CW.seq) | (apply CW.region) | (apply WL.lenS; rfl; rfl; rfl)))
  refine WL.elem rfl rfl rfl rfl rfl hms (by omega) (by omega) (fun _ => rfl) (fun u q hu => ?_)
  have hmk := hok _ (List.getElem_mem (show ((marks.length : Int) - 1).toNat < marks.length by omega))
  generalize marks[((marks.length : Int) - 1).toNat]'(by omega) = m at *
  obtain ⟨ua, uc, rfl, hus⟩ := hu.sl
  have hcm := markOk_chk hz hmk
  obtain ⟨hc0, hse, hl60⟩ := stepsE_ok hz
  (repeat (first | (apply WL.pure; rfl; rfl; rfl) | (apply WL.nil) | (apply EX.thenN) | (apply CW.seq) | (apply CW.region) | (apply WL.ldA; rfl; rfl; rfl; assumption; rfl)))
  refine WL.call rfl rfl rfl (Enabled_ok w9 (hs.up hE) (hf.up hE) hus) ?_
  rintro _ w10 ⟨x, rfl, hox, e10⟩
  rw [if_pos hcm] at hox
  rw [hcm]
  obtain ⟨xo, xc, rfl, hxs⟩ := hox.oldN.sl
  have hb1 := hb1.ext e10
  have hE := hE.trans e10
  have hus := hus.up e10
  (repeat (first | (apply WL.pure; rfl; rfl; rfl) | (apply WL.nil) | (apply EX.thenN) | (apply CW.seq) | (apply CW.region) | (apply WL.ldA; rfl; rfl; rfl; assumption; rfl)))
  refine WL.call rfl rfl rfl (Of_ok w10 (hs.up hE) (hf.up hE)) ?_
  rintro _ w11 ⟨y, rfl, hoy, e11⟩
  rw [hse] at hoy
  rw [hz]
  obtain ⟨yo, yc, rfl, hys⟩ := hoy.oldN.sl
  have hb1 := hb1.ext e11
  have hE := hE.trans e11
  have hus := hus.up e11
  have hxs := hxs.up e11
  clear hox hoy hys hu hms e9 e10 e11
  (repeat (first | (apply WL.pure; rfl; rfl; rfl) | (apply WL.nil) | (apply EX.thenN) | (apply CW.seq) | (apply CW.region) | (apply WL.lenS; rfl; rfl; rfl) | (apply CW.block)))
  refine CW.loop (S := Nat) (fun i => [(2, .pointer (some ⟨w0.heap.size, 0, none⟩)), (16, .slice ua m.length uc), (17, .slice xo (canL (ns, fl) m).length xc), (115, .int .i64 (stepsL (ns, fl)).length), (116, .int .i64 i)])
    (fun i w => i ≤ (stepsL (ns, fl)).length ∧ Ext w11 w) (fun i => (stepsL (ns, fl)).length - i) 0 (by repeat (first | exact trivial | refine ⟨rfl, ?_⟩)) ⟨Nat.zero_le _, Ext.refl _⟩ ?_
  rintro i w12 ⟨hi, e12⟩
  have hb1 := hb1.ext e12
  have hE12 := hE.trans e12
  (repeat (first | (apply WL.pure; rfl; rfl; rfl) | (apply WL.nil) | (apply EX.thenN) | (apply CW.seq) | (apply CW.region)))
  refine CW.cond rfl (fun h => ?_) (fun h => ?_)
  · have hi' : i < (stepsL (ns, fl)).length := by simp at h; omega
    have hfe := fireE_at hcm hi'
    have hcan := can_mem (p := (ns, fl)) (m := m) (K := (stepsL (ns, fl)).length) (i := i)
    (repeat (first | (apply WL.pure; rfl; rfl; rfl) | (apply WL.nil) | (apply EX.thenN) | (apply CW.seq) | (apply CW.region) | (apply WL.ldA; rfl; rfl; rfl; assumption; rfl) | (apply CW.block) | (apply CW.skip)))
    refine WL.call rfl rfl rfl (Fire_ok w12 (hs.up hE12) (hf.up hE12) (hus.up e12) (i : Int)) ?_
    rintro _ w13 ⟨x, rfl, _, e13⟩
    have e13 := e12.trans e13
    have hct := fun w (hw : Ext w11 w) => contains_int w (i : Int) (hxs.up hw)
    by_cases hen : enabledP (ns, fl) m ((stepsL (ns, fl)).getD i (0, 0, 0)) = true
    · rw [if_neg (by rw [hen]; decide)] at hfe
      cases hsm : (fireP (ns, fl) m ((stepsL (ns, fl)).getD i (0, 0, 0))).isSome with
      | true =>
        rw [hsm, if_pos rfl] at hfe
        rw [hfe]
        have hcb : (canL (ns, fl) m).contains (i : Int) = true := by rw [List.contains_eq_mem]; exact decide_eq_true (hcan.2 ⟨hi', hen⟩)
        (repeat (first | (apply WL.pure; rfl; rfl; rfl) | (apply WL.nil) | (apply EX.thenN) | (apply CW.seq) | (apply CW.region)))
        refine WL.call rfl rfl rfl (hct w13 e13) ?_
        rintro _ w14 ⟨rfl, e14⟩
        rw [hcb]
        (repeat (first | (apply WL.add; rfl; rfl; rfl; rfl; omega; omega) | (apply WL.pure; rfl; rfl; rfl) | (apply WL.nil) | (apply EX.thenN) | (apply CW.region) | (apply WL.pass; rfl; rfl) | (apply WL.eqB; rfl; rfl; rfl; rfl) | (apply EX.inN) | (apply CW.condF; rfl) | (apply CW.skip)))
        exact EX.back (i + 1) (by repeat (first | exact trivial | refine ⟨rfl, ?_⟩)) ⟨hi', e13.trans e14⟩ (by omega)
      | false =>
        rw [hsm, if_neg (by decide)] at hfe
        rw [hfe]
        have hcb : (canL (ns, fl) m).contains (i : Int) = true := by rw [List.contains_eq_mem]; exact decide_eq_true (hcan.2 ⟨hi', hen⟩)
        (repeat (first | (apply WL.pure; rfl; rfl; rfl) | (apply WL.nil) | (apply EX.thenN) | (apply CW.seq) | (apply CW.region)))
        refine WL.call rfl rfl rfl (hct w13 e13) ?_
        rintro _ w14 ⟨rfl, e14⟩
        rw [hcb]
        (repeat (first | (apply WL.add; rfl; rfl; rfl; rfl; omega; omega) | (apply WL.pure; rfl; rfl; rfl) | (apply WL.nil) | (apply EX.thenN) | (apply CW.region) | (apply WL.eqB; rfl; rfl; rfl; rfl) | (apply EX.inN) | (apply CW.condF; rfl) | (apply CW.skip)))
        exact EX.back (i + 1) (by repeat (first | exact trivial | refine ⟨rfl, ?_⟩)) ⟨hi', e13.trans e14⟩ (by omega)
    · rw [if_pos (Bool.not_eq_true _ ▸ hen)] at hfe
      rw [hfe]
      have hcb : (canL (ns, fl) m).contains (i : Int) = false := by rw [List.contains_eq_mem]; exact decide_eq_false (fun h => hen (hcan.1 h).2)
      (repeat (first | (apply WL.pure; rfl; rfl; rfl) | (apply WL.nil) | (apply EX.thenN) | (apply CW.seq) | (apply CW.region)))
      refine WL.call rfl rfl rfl (hct w13 e13) ?_
      rintro _ w14 ⟨rfl, e14⟩
      rw [hcb]
      (repeat (first | (apply WL.add; rfl; rfl; rfl; rfl; omega; omega) | (apply WL.pure; rfl; rfl; rfl) | (apply WL.nil) | (apply EX.thenN) | (apply CW.region) | (apply WL.pass; rfl; rfl) | (apply WL.eqB; rfl; rfl; rfl; rfl) | (apply EX.inN) | (apply CW.condF; rfl) | (apply CW.skip)))
      exact EX.back (i + 1) (by repeat (first | exact trivial | refine ⟨rfl, ?_⟩)) ⟨hi', e13.trans e14⟩ (by omega)
  · (repeat (first | (apply WL.pure; rfl; rfl; rfl) | (apply WL.nil) | (apply EX.thenN) | (apply CW.seq) | (apply CW.region) | (apply CW.exit) | (apply EX.thenX) | (apply EX.inX) | (apply CW.ret)))
    exact EX.ret1 rfl rfl ⟨rfl, hE12⟩
end Go.Proofs.Ythojdcbpglipeaa
