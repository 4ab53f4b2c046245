/-
  Package game: Play: walked.
-/
import Derived.Test.YthojdcbpglipeaaGameTokens
import Derived.Test.YthojdcbpglipeaaFar
set_option linter.unusedVariables false
set_option linter.unusedSimpArgs false
namespace Go.Proofs.Ythojdcbpglipeaa
open Go.RowKit

noncomputable def playGo (p : LProc) : List Int → List Int → List (List Int) × Nat × Int
  | [], _ => ([], 0, 0)
  | k :: r, m => if (fireE p m k).2 ≠ 0 then ([], 0, (fireE p m k).2) else ((fireE p m k).1 :: (playGo p r (fireE p m k).1).1, (playGo p r (fireE p m k).1).2.1 + 1, (playGo p r (fireE p m k).1).2.2)
noncomputable def playE (p : LProc) (l : List Int) : List (List Int) × Nat × Int :=
  if (stepsE p).2 ≠ 0 then ([], 0, (stepsE p).2) else if l.length > 500 then ([], 0, 2) else (beginL p :: (playGo p l (beginL p)).1, (playGo p l (beginL p)).2.1, (playGo p l (beginL p)).2.2)
theorem Play_ok (w0 : World) {so fo lo : Option Addr} {sc fc lc : Nat} {ns : List LNode} {fl : List LFlow} {l : List Int} (hs : Sl w0 (Old w0) so sc ns) (hf : Sl w0 (Old w0) fo fc fl) (hl : Sl w0 (Old w0) lo lc l) :
    Rt Try.prog 51 [procV so sc fo fc ns.length fl.length, .slice lo l.length lc].toArray w0 fun v w' => ∃ mv, v = .tuple ⟨[mv, .int .i64 (playE (ns, fl) l).2.1, .int .i64 (playE (ns, fl) l).2.2]⟩ ∧ Rd w' (Old w') mv (playE (ns, fl) l).1 ∧ Ext w0 w' := by
  have hll := hl.len63
  refine Rt.enter2 Try.func51 Try.ntmps51 rfl rfl ?_
  have hE := Ext.refl w0
  (repeat (first | (apply CW.seq) | (apply CW.region)))
  refine WL.boxB rfl rfl rfl fun w1 hb1 e1 => ?_
  have hE := hE.trans e1
  (repeat (first | (apply WL.pure; rfl; rfl; rfl) | (apply WL.nil) | (apply EX.thenN) | (apply CW.seq) | (apply CW.region) | (apply WL.ldA; rfl; rfl; rfl; assumption; rfl)))
  refine WL.call rfl rfl rfl (Begin_ok w1 (hs.up hE) (hf.up hE)) ?_
  rintro _ w2 ⟨x, rfl, hox, e2⟩
  have hE := hE.trans e2
  have hb2 := hb1.ext e2
  unfold playE
  by_cases hz : (stepsE (ns, fl)).2 = 0
  case neg =>
    have hz1 : ((stepsE (ns, fl)).2 != 0) = true := by simpa using hz
    rw [if_pos hz]
    (repeat (first | (apply WL.pure; rfl; rfl; rfl) | (apply WL.nil) | (apply EX.thenN) | (apply CW.seq) | (apply CW.region)))
    rw [hz1]
    (repeat (first | (apply WL.pure; rfl; rfl; rfl) | (apply WL.nil) | (apply EX.thenN) | (apply CW.seq) | (apply CW.region) | (apply CW.condT; rfl) | (apply CW.ret) | (apply EX.thenR)))
    exact EX.ret3 rfl rfl rfl rfl ⟨_, rfl, (Own.nil (B := 0) (F := Non) (e := 0) (α := List Int)).old (fun _ h => h.elim), hE⟩
  rw [if_pos hz] at hox
  rw [if_neg (by simp [hz]), hz]
  obtain ⟨xo, xc, rfl, hxs⟩ := hox.oldN.sl
  have hbx := fun g hg => (hox.lt g hg)
  generalize beginL (ns, fl) = m0 at *
  (repeat (first | (apply WL.pure; rfl; rfl; rfl) | (apply WL.nil) | (apply EX.thenN) | (apply CW.seq) | (apply CW.region) | (apply WL.lenS; rfl; rfl; rfl) | (apply CW.condF; rfl) | (apply CW.skip)))
  refine CW.cond rfl (fun h => ?_) (fun h => ?_)
  · have h : l.length > 500 := by simp at h; omega
    rw [if_pos h]
    (repeat (first | (apply WL.pure; rfl; rfl; rfl) | (apply WL.nil) | (apply EX.thenN) | (apply CW.seq) | (apply CW.region) | (apply CW.ret) | (apply EX.thenR)))
    exact EX.ret3 rfl rfl rfl rfl ⟨_, rfl, (Own.nil (B := 0) (F := Non) (e := 0) (α := List Int)).old (fun _ h => h.elim), hE⟩
  have h500 : ¬ l.length > 500 := by simp at h; omega
  rw [if_neg h500]
  (repeat (first | (apply WL.pure; rfl; rfl; rfl) | (apply EX.thenN) | (apply CW.seq) | (apply CW.region) | (apply CW.skip)))
  refine WL.lit (α := Raw) (F := Non) (ys := [(⟨.slice xo m0.length xc⟩ : Raw)]) rfl rfl rfl rfl rfl (.cons (Rd.mkRaw _ _ _ rfl) .nil) (by show 1 * 1 ≤ 16777216; decide) (fun _ h => h.elim) (fun w3 ho3 hg3 => ?_)
  have e3 : Ext w2 w3 := (Ext.refl _).grown hg3 (Nat.le_refl _) (fun k h => by cases h)
  have hm0 : Sl w3 (Fx w3 (.slice (some ⟨w2.heap.size, 0, none⟩) 1 1) (.slice none 0 0)) xo xc m0 := hxs.mono (fun b hb => e3.block b hb) fun b hb => ⟨Nat.lt_of_lt_of_le hb e3.size, fun e => by
    have e : some w2.heap.size = some b := e
    injection e with e; have : b < w2.heap.size := hb; omega, fun e => by cases e⟩
  have hM : Marks w3 w2.heap.size (.slice (some ⟨w2.heap.size, 0, none⟩) 1 1) (.slice none 0 0) [(⟨.slice xo m0.length xc⟩ : Raw)] [m0] [] :=
    ⟨ho3, Own.nil, (fun g _ h => by cases h), rfl, fun i h1 h2 => by
      obtain rfl : i = 0 := by simp at h1; omega
      exact ⟨xo, xc, rfl, hm0⟩⟩
  have hb3 := hb2.ext e3
  clear ho3 hg3 hox hxs hbx hb1
  generalize Value.slice (some ⟨w2.heap.size, 0, none⟩) 1 1 = mv0 at *
  (repeat (first | (apply WL.pure; rfl; rfl; rfl) | (apply WL.nil) | (apply EX.thenN) | (apply CW.seq) | (apply CW.region) | (apply WL.lenS; rfl; rfl; rfl) | (apply CW.block)))
  refine CW.loop (S := Nat × (Option Addr × Nat) × Value × List Raw × List (List Int) × List Int) (fun s => [(1, .slice lo l.length lc), (2, .pointer (some ⟨w0.heap.size, 0, none⟩)), (7, .slice s.2.1.1 s.2.2.2.2.2.length s.2.1.2), (9, s.2.2.1), (25, .slice lo l.length lc), (26, .int .i64 l.length), (27, .int .i64 s.1)])
    (fun s w => s.1 ≤ l.length ∧ s.2.2.2.2.1 ++ (playGo (ns, fl) (l.drop s.1) s.2.2.2.2.2).1 = m0 :: (playGo (ns, fl) l m0).1 ∧ s.1 + (playGo (ns, fl) (l.drop s.1) s.2.2.2.2.2).2.1 = (playGo (ns, fl) l m0).2.1 ∧ (playGo (ns, fl) (l.drop s.1) s.2.2.2.2.2).2.2 = (playGo (ns, fl) l m0).2.2
      ∧ Marks w w2.heap.size s.2.2.1 (.slice none 0 0) s.2.2.2.1 s.2.2.2.2.1 [] ∧ Sl w (Fx w s.2.2.1 (.slice none 0 0)) s.2.1.1 s.2.1.2 s.2.2.2.2.2 ∧ s.2.2.2.1.length = s.1 + 1 ∧ Ext w2 w) (fun s => l.length - s.1)
    (0, (xo, xc), mv0, [(⟨.slice xo m0.length xc⟩ : Raw)], [m0], m0) (by repeat (first | exact trivial | refine ⟨rfl, ?_⟩)) ⟨Nat.zero_le _, by simp, by simp, by simp, hM, hm0, rfl, e3⟩ ?_
  clear hM hm0 hb3 e3
  rintro ⟨i, ⟨ao, cap⟩, mv, vs, xs, m⟩ w4 ⟨hi, hT1, hT2, hT3, hM, hm, hvl, e4⟩
  dsimp only at hi hT1 hT2 hT3 hM hm hvl e4 ⊢
  have hE4 := hE.trans e4
  have hb4 := hb2.ext e4
  (repeat (first | (apply WL.pure; rfl; rfl; rfl) | (apply WL.nil) | (apply EX.thenN) | (apply CW.seq) | (apply CW.region)))
  refine CW.cond rfl (fun h => ?_) (fun h => ?_)
  · have hi' : i < l.length := by simp at h; omega
    rw [List.drop_eq_getElem_cons hi', playGo] at hT1 hT2 hT3
    (repeat (first | (apply WL.pure; rfl; rfl; rfl) | (apply EX.thenN) | (apply CW.seq) | (apply CW.region) | (apply CW.block) | (apply CW.skip)))
    refine WL.elemI rfl rfl rfl rfl rfl (hl.up hE4) hi' rfl (fun _ => rfl) (fun q => ?_)
    generalize l[i] = k at *
    (repeat (first | (apply WL.pure; rfl; rfl; rfl) | (apply WL.nil) | (apply EX.thenN) | (apply CW.seq) | (apply CW.region) | (apply WL.ldA; rfl; rfl; rfl; assumption; rfl)))
    refine WL.call rfl rfl rfl (Fire_ok w4 (hs.up hE4) (hf.up hE4) (Fx.old hm) k) ?_
    rintro _ w6 ⟨x, rfl, hoy, e6⟩
    have hM5 := hM
    have hM := hM.ext e6
    have hE6 := hE4.trans e6
    have e6' := e4.trans e6
    have hb6 := hb2.ext e6'
    by_cases hz2 : (fireE (ns, fl) m k).2 = 0
    case neg =>
      have hz1 : ((fireE (ns, fl) m k).2 != 0) = true := by simpa using hz2
      rw [if_pos hz2] at hT1 hT2 hT3
      rw [List.append_nil] at hT1
      rw [← hT1, ← hT2, ← hT3]
      (repeat (first | (apply WL.pure; rfl; rfl; rfl) | (apply WL.nil) | (apply EX.thenN) | (apply CW.seq) | (apply CW.region)))
      rw [hz1]
      (repeat (first | (apply WL.pure; rfl; rfl; rfl) | (apply WL.nil) | (apply EX.thenN) | (apply CW.seq) | (apply CW.region) | (apply CW.condT; rfl) | (apply CW.ret) | (apply EX.thenR) | (apply EX.inR)))
      exact EX.ret3 rfl rfl rfl rfl ⟨_, rfl, hM.rd, hE6⟩
    rw [if_neg (by simp [hz2])] at hT1 hT2 hT3
    rw [hz2]
    generalize (fireE (ns, fl) m k).1 = m' at *
    obtain ⟨yo, yc, rfl, hym⟩ := hoy.slF (F' := Fx w6 mv (.slice none 0 0)) (fun _ h => h.elim) (fun g hg => by
      have h1 := hoy.lt g hg
      refine ⟨h1.2.1, fun e => ?_, fun e => by cases e⟩
      have := (hM5.own.lt g e).2.1; omega)
    clear hoy hM5
    (repeat (first | (apply WL.pure; rfl; rfl; rfl) | (apply WL.nil) | (apply EX.thenN) | (apply CW.seq) | (apply CW.region) | (apply CW.condF; rfl) | (apply CW.skip)))
    refine WL.app1 (α := Raw) (F := Non) (yv := (⟨.slice yo m'.length yc⟩ : Raw)) rfl rfl (fun _ => rfl) rfl rfl (fun _ => rfl) hM.own (Rd.mkRaw _ _ _ rfl) e6'.size (fun _ h => h.elim) (by decide) (by unfold maxLen; omega) (by omega) (fun mv' w7 p ho7 hg7 hnb7 => ?_)
    have hM7 := hM.push hym ho7 hg7 hnb7
    have hm7 := Fx.step1 hg7 hnb7 hym
    have e7 : Ext w2 w7 := e6'.grown hg7 e6'.size (fun b hb => (hM.own.lt b hb).1)
    (repeat (first | (apply WL.add; rfl; rfl; rfl; rfl; omega; omega) | (apply WL.pure; rfl; rfl; rfl) | (apply WL.nil) | (apply EX.thenN) | (apply CW.region) | (apply EX.inN)))
    exact EX.back (i + 1, (yo, yc), mv', vs ++ [⟨.slice yo m'.length yc⟩], xs ++ [m'], m') (by repeat (first | exact trivial | refine ⟨rfl, ?_⟩)) ⟨hi', by simpa using hT1, by dsimp only at hT2 ⊢; omega, hT3, hM7, hm7, by simp [hvl], e7⟩ (by dsimp only; omega)
  · obtain rfl : i = l.length := by simp at h; omega
    rw [List.drop_length, playGo] at hT1 hT2 hT3
    rw [List.append_nil] at hT1
    rw [← hT1, ← hT2, ← hT3]
    (repeat (first | (apply WL.pure; rfl; rfl; rfl) | (apply WL.nil) | (apply EX.thenN) | (apply CW.seq) | (apply CW.region) | (apply WL.lenS; rfl; rfl; rfl) | (apply CW.exit) | (apply EX.thenX) | (apply EX.inX) | (apply CW.ret)))
    exact EX.ret3 rfl rfl rfl rfl ⟨_, rfl, hM.rd, hE4⟩
/- plain: what is walked is played -/
theorem walk_play {p : LProc} : ∀ (dice m : List Int), playGo p (walkGo p dice m).2 m = ((walkGo p dice m).1, (walkGo p dice m).2.length, 0)
  | [], m => rfl
  | d :: r, m => by
    rw [walkGo]
    split
    · rfl
    · split
      · rfl
      · rename_i h1 h2
        dsimp only
        rw [playGo, if_neg h2, walk_play r]
        rfl
theorem straight_play : playE straightP [0, 1] = ([[1, 0], [0, 1], [0, 0]], 2, 0) := by
  have hz : (stepsE straightP).2 = 0 := by rw [straight_steps]
  have hl : stepsL straightP = [(1, 0, 1), (2, 1, 0)] := by decide
  have hm : chkM straightP [0, 1] = 0 := markOk_chk hz ⟨rfl, fun j => by
    rcases j with _ | _ | j
    · decide
    · decide
    · exact ⟨Int.le_refl _, (by decide : (0 : Int) ≤ 9)⟩⟩
  have h2 : fireE straightP [0, 1] 1 = ([0, 0], 0) := by
    unfold fireE
    rw [if_neg (by simp [hm]), hl, if_neg (by decide), if_neg (by decide)]
    decide
  have hb : beginL straightP = [1, 0] := by decide
  unfold playE
  rw [if_neg (by simp [hz]), if_neg (by decide), hb]
  simp [playGo, straight_fire, h2]
end Go.Proofs.Ythojdcbpglipeaa
