/-
  watchkeep: walked: walked.
-/
import Derived.Test.YthojdcbpglipeaaGame5
import Derived.Test.YthojdcbpglipeaaWk
set_option linter.unusedVariables false
set_option linter.unusedSimpArgs false
namespace Go.Proofs.Ythojdcbpglipeaa
open Go.RowKit

/-- met, but no block of the two lists that grow -/
def Fx (w : World) (mv lv : Value) (b : Nat) : Prop := b < w.heap.size ∧ mv.ownBlock ≠ some b ∧ lv.ownBlock ≠ some b
theorem Fx.step1 {w w' : World} {mv mv' lv : Value} (hg : w.grownBy w' mv.ownBlock) (hnb : ∀ g, mv'.ownBlock = some g → mv.ownBlock = some g ∨ w.heap.size ≤ g) {ao : Option Addr} {cap : Nat} {m : List Int} (h : Sl w (Fx w mv lv) ao cap m) : Sl w' (Fx w' mv' lv) ao cap m :=
  h.mono (fun b hb => hg.block b hb.1 (fun e => hb.2.1 e.symm)) fun b hb => ⟨Nat.lt_of_lt_of_le hb.1 hg.size, fun e => (hnb b e).elim (fun e => hb.2.1 e) (fun e => by have := hb.1; omega), hb.2.2⟩
theorem Fx.step2 {w w' : World} {mv lv lv' : Value} (hg : w.grownBy w' lv.ownBlock) (hnb : ∀ g, lv'.ownBlock = some g → lv.ownBlock = some g ∨ w.heap.size ≤ g) {ao : Option Addr} {cap : Nat} {m : List Int} (h : Sl w (Fx w mv lv) ao cap m) : Sl w' (Fx w' mv lv') ao cap m :=
  h.mono (fun b hb => hg.block b hb.1 (fun e => hb.2.2 e.symm)) fun b hb => ⟨Nat.lt_of_lt_of_le hb.1 hg.size, hb.2.1, fun e => (hnb b e).elim (fun e => hb.2.2 e) (fun e => by have := hb.1; omega)⟩
theorem Fx.ext {w w' : World} {mv lv : Value} (hE : Ext w w') {ao : Option Addr} {cap : Nat} {m : List Int} (h : Sl w (Fx w mv lv) ao cap m) : Sl w' (Fx w' mv lv) ao cap m :=
  h.mono (fun b hb => hE.block b hb.1) fun b hb => ⟨Nat.lt_of_lt_of_le hb.1 hE.size, hb.2.1, hb.2.2⟩
theorem Fx.old {w : World} {mv lv : Value} {ao : Option Addr} {cap : Nat} {m : List Int} (h : Sl w (Fx w mv lv) ao cap m) : Sl w (Old w) ao cap m := h.mono (fun _ _ => rfl) fun b hb => hb.1
structure Marks (w : World) (B : Nat) (mv lv : Value) (vs : List Raw) (xs : List (List Int)) (ks : List Int) : Prop where
  own : Own w B 22 Non mv vs
  kso : Own w B 3 Non lv ks
  dis : ∀ g, mv.ownBlock = some g → lv.ownBlock = some g → False
  len : vs.length = xs.length
  el : ∀ i (h : i < vs.length) (h' : i < xs.length), ∃ ao cap, vs[i].v = .slice ao xs[i].length cap ∧ Sl w (Fx w mv lv) ao cap xs[i]
section
variable {w w' : World} {B : Nat} {mv lv : Value} {vs : List Raw} {xs : List (List Int)} {ks : List Int}
theorem Marks.ext (h : Marks w B mv lv vs xs ks) (hE : Ext w w') : Marks w' B mv lv vs xs ks :=
  ⟨h.own.extN hE, h.kso.extN hE, h.dis, h.len, fun i h1 h2 => by
    obtain ⟨ao, cap, e, hs⟩ := h.el i h1 h2
    exact ⟨ao, cap, e, Fx.ext hE hs⟩⟩
theorem Marks.push (h : Marks w B mv lv vs xs ks) {ao : Option Addr} {cap : Nat} {m : List Int} (hm : Sl w (Fx w mv lv) ao cap m) {mv' : Value} (ho : Own w' B 22 Non mv' (vs ++ [⟨.slice ao m.length cap⟩])) (hg : w.grownBy w' mv.ownBlock)
    (hnb : ∀ g, mv'.ownBlock = some g → mv.ownBlock = some g ∨ w.heap.size ≤ g) : Marks w' B mv' lv (vs ++ [⟨.slice ao m.length cap⟩]) (xs ++ [m]) ks := by
  refine ⟨ho, h.kso.keptN hg (fun g hg' e => h.dis g e.symm hg'), fun g h1 h2 => ?_, by simp [h.len], fun i h1 h2 => ?_⟩
  · rcases hnb g h1 with h3 | h3
    · exact h.dis g h3 h2
    · have := (h.kso.lt g h2).2.1; omega
  · by_cases hi : i < vs.length
    · have hi' : i < xs.length := by rw [← h.len]; exact hi
      obtain ⟨a, c, e, hs⟩ := h.el i hi hi'
      refine ⟨a, c, ?_, ?_⟩
      · rw [List.getElem_append_left hi, e]; simp only [List.getElem_append_left hi']
      · rw [List.getElem_append_left hi']; exact Fx.step1 hg hnb hs
    · have hiv : i = vs.length := by simp at h1; omega
      have hix : i = xs.length := by rw [← h.len]; exact hiv
      refine ⟨ao, cap, ?_, ?_⟩
      · rw [List.getElem_append_right (by omega), List.getElem_append_right (by omega)]
        simp [hiv, h.len]
      · rw [List.getElem_append_right (by omega)]
        simp only [hix, Nat.sub_self, List.getElem_cons_zero]
        exact Fx.step1 hg hnb hm
theorem Marks.pushK (h : Marks w B mv lv vs xs ks) {k : Int} {lv' : Value} (ho : Own w' B 3 Non lv' (ks ++ [k])) (hg : w.grownBy w' lv.ownBlock)
    (hnb : ∀ g, lv'.ownBlock = some g → lv.ownBlock = some g ∨ w.heap.size ≤ g) : Marks w' B mv lv' vs xs (ks ++ [k]) := by
  refine ⟨h.own.keptN hg (fun g hg' e => h.dis g hg' e.symm), ho, fun g h1 h2 => ?_, h.len, fun i h1 h2 => ?_⟩
  · rcases hnb g h2 with h3 | h3
    · exact h.dis g h1 h3
    · have := (h.own.lt g h1).2.1; omega
  · obtain ⟨a, c, e, hs⟩ := h.el i h1 h2
    exact ⟨a, c, e, Fx.step2 hg hnb hs⟩
theorem Marks.rd (h : Marks w B mv lv vs xs ks) : Rd w (Old w) mv xs := by
  obtain ⟨ao, cap, e, hs⟩ := h.own.oldN.sl
  have hsl : Sl w (Old w) ao cap xs := by
    refine ⟨by rw [← h.len]; exact hs.le, hs.mx, hs.nil, fun i hi => ?_⟩
    have hi' : i < vs.length := by rw [h.len]; exact hi
    obtain ⟨b, off, e1, hF, es, hc, hr⟩ := hs.el i hi'
    obtain ⟨rfl, h1⟩ := hr
    obtain ⟨io, ic, e2, hs2⟩ := h.el i hi' hi
    exact ⟨b, off, e1, hF, [vs[i].v], hc, io, ic, by rw [e2], Fx.old hs2⟩
  rw [e, h.len]
  exact hsl.rd
end
theorem canE_len {p : LProc} {m : List Int} : (canE p m).length ≤ 60 := by
  unfold canE
  split
  · rename_i h
    obtain ⟨_, _, _, h60⟩ := chkM_ok h
    unfold canL canP
    rw [List.length_map]
    have := List.length_filter_le (fun i => enabledP p m ((stepsL p).getD i (0, 0, 0))) (List.range (stepsL p).length)
    rw [List.length_range] at this
    omega
  · simp
theorem walked_ok (w0 : World) {so fo dO : Option Addr} {sc fc dc : Nat} {ns : List LNode} {fl : List LFlow} {dice : List Int} (hs : Sl w0 (Old w0) so sc ns) (hf : Sl w0 (Old w0) fo fc fl) (hd : Sl w0 (Old w0) dO dc dice) (hdl : dice.length ≤ 1048576) :
    Rt Try.prog 40 [procV so sc fo fc ns.length fl.length, .slice dO dice.length dc].toArray w0 fun v w' => ∃ mv lv, v = .tuple ⟨[mv, lv]⟩ ∧ Rd w' (Old w') mv (walkedP (ns, fl) dice).1 ∧ Rd w' (Old w') lv (walkedP (ns, fl) dice).2 ∧ Ext w0 w' := by
  refine Rt.enter2 Try.func40 Try.ntmps40 rfl rfl ?_
  have hE := Ext.refl w0
  (repeat (first | (apply CW.seq) | (apply CW.region)))
  refine WL.boxB rfl rfl rfl fun w1 hb1 e1 => ?_
  have hE := hE.trans e1
  (repeat (first | (apply WL.pure; rfl; rfl; rfl) | (apply WL.nil) | (apply EX.thenN) | (apply CW.seq) | (apply CW.region) | (apply WL.ldA; rfl; rfl; rfl; assumption; rfl)))
  refine WL.call rfl rfl rfl (Begin_ok w1 (hs.up hE) (hf.up hE)) ?_
  rintro _ w2 ⟨x, rfl, hox, e2⟩
  have hE := hE.trans e2
  have hb2 := hb1.ext e2
  unfold walkedP
  by_cases hz : (stepsE (ns, fl)).2 = 0
  case neg =>
    have hz1 : ((stepsE (ns, fl)).2 != 0) = true := by simpa using hz
    rw [if_pos hz]
    (repeat (first | (apply WL.pure; rfl; rfl; rfl) | (apply WL.nil) | (apply EX.thenN) | (apply CW.seq) | (apply CW.region)))
    rw [hz1]
    (repeat (first | (apply WL.pure; rfl; rfl; rfl) | (apply WL.nil) | (apply EX.thenN) | (apply CW.seq) | (apply CW.region) | (apply CW.condT; rfl) | (apply CW.ret) | (apply EX.thenR)))
    exact EX.ret2 rfl rfl rfl ⟨_, _, rfl, (Own.nil (B := 0) (F := Non) (e := 0) (α := List Int)).old (fun _ h => h.elim), (Own.nil (B := 0) (F := Non) (e := 0) (α := Int)).oldN, hE⟩
  rw [if_pos hz] at hox
  rw [if_neg (by simp [hz]), hz]
  obtain ⟨xo, xc, rfl, hxs⟩ := hox.oldN.sl
  have hbx := fun g hg => (hox.lt g hg)
  generalize beginL (ns, fl) = m0 at *
  (repeat (first | (apply WL.pure; rfl; rfl; rfl) | (apply WL.nil) | (apply EX.thenN) | (apply CW.seq) | (apply CW.region) | (apply CW.condF; rfl) | (apply CW.skip)))
  refine WL.lit (α := Raw) (F := Non) (ys := [(⟨.slice xo m0.length xc⟩ : Raw)]) rfl rfl rfl rfl rfl (.cons (Rd.mkRaw _ _ _ rfl) .nil) (by show 1 * 1 ≤ 16777216; decide) (fun _ h => h.elim) (fun w3 ho3 hg3 => ?_)
  have e3 : Ext w2 w3 := (Ext.refl _).grown hg3 (Nat.le_refl _) (fun k h => by cases h)
  have hm0 : Sl w3 (Fx w3 (.slice (some ⟨w2.heap.size, 0, none⟩) 1 1) (.slice none 0 0)) xo xc m0 := hxs.mono (fun b hb => e3.block b hb) fun b hb => ⟨Nat.lt_of_lt_of_le hb e3.size, fun e => by
    have e : some w2.heap.size = some b := e
    injection e with e; have : b < w2.heap.size := hb; omega, fun e => by cases e⟩
  have hM : Marks w3 w2.heap.size (.slice (some ⟨w2.heap.size, 0, none⟩) 1 1) (.slice none 0 0) [(⟨.slice xo m0.length xc⟩ : Raw)] [m0] [] :=
    ⟨ho3, Own.nil, (fun g _ h => by cases h), rfl, fun i h1 h2 => by
      obtain rfl : i = 0 := by simp at h1; omega
      exact ⟨xo, xc, rfl, hm0⟩⟩
  have hb3 := hb2.ext e3
  clear ho3 hg3 hox hxs hbx hb1
  generalize Value.slice (some ⟨w2.heap.size, 0, none⟩) 1 1 = mv0 at *
  (repeat (first | (apply WL.pure; rfl; rfl; rfl) | (apply WL.nil) | (apply EX.thenN) | (apply CW.seq) | (apply CW.region) | (apply WL.lenS; rfl; rfl; rfl) | (apply CW.block)))
  refine CW.loop (S := Nat × (Option Addr × Nat) × (Value × Value) × List Raw × List (List Int) × List Int × List Int) (fun s => [(2, .pointer (some ⟨w0.heap.size, 0, none⟩)), (4, s.2.2.1.1), (5, s.2.2.1.2), (6, .slice s.2.1.1 s.2.2.2.2.2.2.length s.2.1.2), (24, .slice dO dice.length dc), (25, .int .i64 dice.length), (26, .int .i64 s.1)])
    (fun s w => s.1 ≤ dice.length ∧ s.2.2.2.2.1 ++ (walkGo (ns, fl) (dice.drop s.1) s.2.2.2.2.2.2).1 = m0 :: (walkGo (ns, fl) dice m0).1 ∧ s.2.2.2.2.2.1 ++ (walkGo (ns, fl) (dice.drop s.1) s.2.2.2.2.2.2).2 = (walkGo (ns, fl) dice m0).2
      ∧ Marks w w2.heap.size s.2.2.1.1 s.2.2.1.2 s.2.2.2.1 s.2.2.2.2.1 s.2.2.2.2.2.1 ∧ Sl w (Fx w s.2.2.1.1 s.2.2.1.2) s.2.1.1 s.2.1.2 s.2.2.2.2.2.2 ∧ s.2.2.2.1.length = s.1 + 1 ∧ s.2.2.2.2.2.1.length = s.1 ∧ Ext w2 w) (fun s => dice.length - s.1)
    (0, (xo, xc), (mv0, .slice none 0 0), [(⟨.slice xo m0.length xc⟩ : Raw)], [m0], [], m0) (by repeat (first | exact trivial | refine ⟨rfl, ?_⟩)) ⟨Nat.zero_le _, by simp, by simp, hM, hm0, rfl, rfl, e3⟩ ?_
  clear hM hm0 hb3 e3
  rintro ⟨i, ⟨ao, cap⟩, ⟨mv, lv⟩, vs, xs, ks, m⟩ w4 ⟨hi, hT1, hT2, hM, hm, hvl, hkl, e4⟩
  dsimp only at hi hT1 hT2 hM hm hvl hkl e4 ⊢
  have hE4 := hE.trans e4
  have hb4 := hb2.ext e4
  (repeat (first | (apply WL.pure; rfl; rfl; rfl) | (apply WL.nil) | (apply EX.thenN) | (apply CW.seq) | (apply CW.region)))
  refine CW.cond rfl (fun h => ?_) (fun h => ?_)
  · have hi' : i < dice.length := by simp at h; omega
    rw [List.drop_eq_getElem_cons hi', walkGo] at hT1 hT2
    (repeat (first | (apply EX.thenN) | (apply CW.seq) | (apply CW.region) | (apply CW.block) | (apply CW.skip)))
    refine WL.elemI rfl rfl rfl rfl rfl (hd.up hE4) hi' rfl (fun _ => rfl) (fun q => ?_)
    generalize dice[i] = dd at *
    (repeat (first | (apply WL.pure; rfl; rfl; rfl) | (apply WL.nil) | (apply EX.thenN) | (apply CW.seq) | (apply CW.region) | (apply WL.ldA; rfl; rfl; rfl; assumption; rfl)))
    refine WL.call rfl rfl rfl (Enabled_ok w4 (hs.up hE4) (hf.up hE4) (Fx.old hm)) ?_
    rintro _ w5 ⟨x, rfl, hox, e5⟩
    change Own w5 _ _ _ _ (canE (ns, fl) m) at hox
    obtain ⟨co, cc, rfl, hcs⟩ := hox.oldN.sl
    have hM := hM.ext e5
    have hm := Fx.ext e5 hm
    have hE5 := hE4.trans e5
    have e5 := e4.trans e5
    have hb5 := hb2.ext e5
    have hcl := canE_len (p := (ns, fl)) (m := m)
    (repeat (first | (apply WL.pure; rfl; rfl; rfl) | (apply WL.nil) | (apply EX.thenN) | (apply CW.seq) | (apply CW.region) | (apply WL.lenS; rfl; rfl; rfl)))
    refine CW.cond rfl (fun h1 => ?_) (fun h1 => ?_)
    · have h1 : canE (ns, fl) m = [] := by
        apply List.eq_nil_of_length_eq_zero
        have : ((canE (ns, fl) m).length : Int) = 0 := by simpa using h1
        omega
      rw [if_pos h1, List.append_nil] at hT1 hT2
      rw [← hT1, ← hT2]
      (repeat (first | (apply WL.pure; rfl; rfl; rfl) | (apply WL.nil) | (apply EX.thenN) | (apply CW.seq) | (apply CW.region) | (apply CW.ret) | (apply EX.thenR) | (apply EX.inR)))
      exact EX.ret2 rfl rfl rfl ⟨_, _, rfl, hM.rd, hM.kso.oldN, hE5⟩
    have h1 : canE (ns, fl) m ≠ [] := fun e => by rw [e] at h1; simp at h1
    rw [if_neg h1] at hT1 hT2
    have hcp : 0 < (canE (ns, fl) m).length := List.length_pos_iff.2 h1
    have hr0 := Int.emod_nonneg dd (show ((canE (ns, fl) m).length : Int) ≠ 0 by omega)
    have hr1 := Int.emod_lt_of_pos dd (show (0 : Int) < ((canE (ns, fl) m).length : Int) by omega)
    have hpick : pickD dd (canE (ns, fl) m) = (canE (ns, fl) m)[(dd % ((canE (ns, fl) m).length : Int)).toNat]'(by omega) := by
      unfold pickD; rw [getDm_at (by omega)]
    (repeat (first | (apply WL.pure; rfl; rfl; rfl) | (apply EX.thenN) | (apply CW.seq) | (apply CW.region) | (apply WL.lenS; rfl; rfl; rfl) | (apply CW.skip)))
    refine WL.call rfl rfl rfl (wrest_ok w5 dd ((canE (ns, fl) m).length : Int) (by omega) (by omega)) ?_
    rintro _ _ ⟨rfl, rfl⟩
    skip
    refine WL.elem rfl rfl rfl rfl rfl hcs hr0 hr1 (fun _ => rfl) (fun u q hu => ?_)
    rw [← hpick] at hu
    obtain rfl := hu.int
    generalize hkk : pickD dd (canE (ns, fl) m) = k at *
    (repeat (first | (apply WL.pure; rfl; rfl; rfl) | (apply WL.nil) | (apply EX.thenN) | (apply CW.seq) | (apply CW.region) | (apply WL.ldA; rfl; rfl; rfl; assumption; rfl)))
    refine WL.call rfl rfl rfl (Fire_ok w5 (hs.up hE5) (hf.up hE5) (Fx.old hm) k) ?_
    rintro _ w6 ⟨x, rfl, hoy, e6⟩
    have hM5 := hM
    have hM := hM.ext e6
    have hE6 := hE5.trans e6
    have e6' := e5.trans e6
    have hb6 := hb2.ext e6'
    by_cases hz2 : (fireE (ns, fl) m k).2 = 0
    case neg =>
      have hz1 : ((fireE (ns, fl) m k).2 != 0) = true := by simpa using hz2
      rw [if_pos hz2, List.append_nil] at hT1 hT2
      rw [← hT1, ← hT2]
      (repeat (first | (apply WL.pure; rfl; rfl; rfl) | (apply WL.nil) | (apply EX.thenN) | (apply CW.seq) | (apply CW.region)))
      rw [hz1]
      (repeat (first | (apply WL.pure; rfl; rfl; rfl) | (apply WL.nil) | (apply EX.thenN) | (apply CW.seq) | (apply CW.region) | (apply CW.condT; rfl) | (apply CW.ret) | (apply EX.thenR) | (apply EX.inR)))
      exact EX.ret2 rfl rfl rfl ⟨_, _, rfl, hM.rd, hM.kso.oldN, hE6⟩
    rw [if_neg (by simp [hz2])] at hT1 hT2
    rw [hz2]
    generalize (fireE (ns, fl) m k).1 = m' at *
    obtain ⟨yo, yc, rfl, hym⟩ := hoy.slF (F' := Fx w6 mv lv) (fun _ h => h.elim) (fun g hg => by
      have h1 := hoy.lt g hg
      refine ⟨h1.2.1, fun e => ?_, fun e => ?_⟩
      · have := (hM5.own.lt g e).2.1; omega
      · have := (hM5.kso.lt g e).2.1; omega)
    clear hoy hM5 hcs hu hox
    (repeat (first | (apply WL.pure; rfl; rfl; rfl) | (apply WL.nil) | (apply EX.thenN) | (apply CW.seq) | (apply CW.region) | (apply CW.condF; rfl) | (apply CW.skip)))
    refine WL.app1 (α := Raw) (F := Non) (yv := (⟨.slice yo m'.length yc⟩ : Raw)) rfl rfl (fun _ => rfl) rfl rfl (fun _ => rfl) hM.own (Rd.mkRaw _ _ _ rfl) e6'.size (fun _ h => h.elim) (by decide) (by unfold maxLen; omega) (by omega) (fun mv' w7 p ho7 hg7 hnb7 => ?_)
    have hM7 := hM.push hym ho7 hg7 hnb7
    have hm7 := Fx.step1 hg7 hnb7 hym
    have e7 : Ext w2 w7 := e6'.grown hg7 e6'.size (fun b hb => (hM.own.lt b hb).1)
    (repeat (apply WL.pure; rfl; rfl; rfl))
    refine WL.app1 (F := Non) (yv := k) rfl rfl (fun _ => rfl) rfl rfl (fun _ => rfl) hM7.kso (Rd.mkInt _ _ _) e7.size (fun _ h => h.elim) (by decide) (by unfold maxLen; omega) (by omega) (fun lv' w8 p ho8 hg8 hnb8 => ?_)
    have hM8 := hM7.pushK ho8 hg8 hnb8
    have hm8 := Fx.step2 hg8 hnb8 hm7
    have e8 : Ext w2 w8 := e7.grown hg8 e7.size (fun b hb => (hM7.kso.lt b hb).1)
    (repeat (first | (apply WL.add; rfl; rfl; rfl; rfl; omega; omega) | (apply WL.pure; rfl; rfl; rfl) | (apply WL.nil) | (apply EX.thenN) | (apply CW.region) | (apply EX.inN)))
    exact EX.back (i + 1, (yo, yc), (mv', lv'), vs ++ [⟨.slice yo m'.length yc⟩], xs ++ [m'], ks ++ [k], m') (by repeat (first | exact trivial | refine ⟨rfl, ?_⟩)) ⟨hi', by simpa using hT1, by simpa using hT2, hM8, hm8, by simp [hvl], by simp [hkl], e8⟩ (by dsimp only; omega)
  · obtain rfl : i = dice.length := by simp at h; omega
    rw [List.drop_length, walkGo, List.append_nil] at hT1 hT2
    rw [← hT1, ← hT2]
    (repeat (first | (apply WL.pure; rfl; rfl; rfl) | (apply WL.nil) | (apply EX.thenN) | (apply CW.seq) | (apply CW.region) | (apply CW.exit) | (apply EX.thenX) | (apply EX.inX) | (apply CW.ret)))
    exact EX.ret2 rfl rfl rfl ⟨_, _, rfl, hM.rd, hM.kso.oldN, hE4⟩
end Go.Proofs.Ythojdcbpglipeaa
