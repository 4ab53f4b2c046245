import Derived.Test.YtljcnopekjinjaaPtSpaceRoute7
/-
  watchkeep: walked: walked.
-/
set_option linter.unusedVariables false
set_option linter.unusedSimpArgs false
namespace Go.Proofs.Ytljcnopekjinjaa
open Go.RowKit

/-- met, but no block of the two lists that grow -/
def Fx (w : World) (mv lv : Value) (b : Nat) : Prop := b < w.heap.size ∧ mv.ownBlock ≠ some b ∧ lv.ownBlock ≠ some b
theorem Fx.step1 {w w' : World} {mv mv' lv : Value} (hg : w.grownBy w' mv.ownBlock) (hnb : ∀ g, mv'.ownBlock = some g → mv.ownBlock = some g ∨ w.heap.size ≤ g) {ao : Option Addr} {cap : Nat} {m : List Int} (h : Sl w (Fx w mv lv) ao cap m) : Sl w' (Fx w' mv' lv) ao cap m :=
  h.mono (fun b hb => hg.block b hb.1 (fun e => hb.2.1 e.symm)) fun b hb => ⟨Nat.lt_of_lt_of_le hb.1 hg.size, fun e => (hnb b e).elim (fun e => hb.2.1 e) (fun e => by have := hb.1; omega), hb.2.2⟩
theorem Fx.step2 {w w' : World} {mv lv lv' : Value} (hg : w.grownBy w' lv.ownBlock) (hnb : ∀ g, lv'.ownBlock = some g → lv.ownBlock = some g ∨ w.heap.size ≤ g) {ao : Option Addr} {cap : Nat} {m : List Int} (h : Sl w (Fx w mv lv) ao cap m) : Sl w' (Fx w' mv lv') ao cap m :=
  h.mono (fun b hb => hg.block b hb.1 (fun e => hb.2.2 e.symm)) fun b hb => ⟨Nat.lt_of_lt_of_le hb.1 hg.size, hb.2.1, fun e => (hnb b e).elim (fun e => hb.2.2 e) (fun e => by have := hb.1; omega)⟩
theorem Fx.ext {w w' : World} {mv lv : Value} (hE : Ext w w') {ao : Option Addr} {cap : Nat} {m : List Int} (h : Sl w (Fx w mv lv) ao cap m) : Sl w' (Fx w' mv lv) ao cap m :=
  h.mono (fun b hb => hE.block b hb.1) fun b hb => ⟨Nat.lt_of_lt_of_le hb.1 hE.size, hb.2.1, hb.2.2⟩
theorem Fx.old {w : World} {mv lv : Value} {ao : Option Addr} {cap : Nat} {m : List Int} (h : Sl w (Fx w mv lv) ao cap m) : Sl w (Old w) ao cap m := h.mono (fun _ _ => rfl) fun b hb => hb.1
structure Marks (w : World) (B : Nat) (mv lv : Value) (vs : List Raw) (xs : List (List Int)) (ks : List Int) : Prop where
  own : Own w B 26 Non mv vs
  kso : Own w B 3 Non lv ks
  dis : ∀ g, mv.ownBlock = some g → lv.ownBlock = some g → False
  len : vs.length = xs.length
  el : ∀ i (h : i < vs.length) (h' : i < xs.length), ∃ ao cap, vs[i].v = .slice ao xs[i].length cap ∧ Sl w (Fx w mv lv) ao cap xs[i]
section
variable {w w' : World} {B : Nat} {mv lv : Value} {vs : List Raw} {xs : List (List Int)} {ks : List Int}
theorem Marks.ext (h : Marks w B mv lv vs xs ks) (hE : Ext w w') : Marks w' B mv lv vs xs ks :=
  ⟨h.own.extN hE, h.kso.extN hE, h.dis, h.len, fun i h1 h2 => by
    obtain ⟨ao, cap, e, hs⟩ := h.el i h1 h2
    exact ⟨ao, cap, e, Fx.ext hE hs⟩⟩
theorem Marks.push (h : Marks w B mv lv vs xs ks) {ao : Option Addr} {cap : Nat} {m : List Int} (hm : Sl w (Fx w mv lv) ao cap m) {mv' : Value} (ho : Own w' B 26 Non mv' (vs ++ [⟨.slice ao m.length cap⟩])) (hg : w.grownBy w' mv.ownBlock)
    (hnb : ∀ g, mv'.ownBlock = some g → mv.ownBlock = some g ∨ w.heap.size ≤ g) : Marks w' B mv' lv (vs ++ [⟨.slice ao m.length cap⟩]) (xs ++ [m]) ks := by
  refine ⟨ho, h.kso.keptN hg (fun g hg' e => h.dis g e.symm hg'), fun g h1 h2 => ?_, by simp [h.len], fun i h1 h2 => ?_⟩
  · rcases hnb g h1 with h3 | h3
    · exact h.dis g h3 h2
    · have := (h.kso.lt g h2).2.1; omega
  · by_cases hi : i < vs.length
    · have hi' : i < xs.length := by rw [← h.len]; exact hi
      obtain ⟨a, c, e, hs⟩ := h.el i hi hi'
      refine ⟨a, c, ?_, ?_⟩
      · rw [List.getElem_append_left hi, e]; simp only [List.getElem_append_left hi']
      · rw [List.getElem_append_left hi']; exact Fx.step1 hg hnb hs
    · have hiv : i = vs.length := by simp at h1; omega
      have hix : i = xs.length := by rw [← h.len]; exact hiv
      refine ⟨ao, cap, ?_, ?_⟩
      · rw [List.getElem_append_right (by omega), List.getElem_append_right (by omega)]
        simp [hiv, h.len]
      · rw [List.getElem_append_right (by omega)]
        simp only [hix, Nat.sub_self, List.getElem_cons_zero]
        exact Fx.step1 hg hnb hm
theorem Marks.pushK (h : Marks w B mv lv vs xs ks) {k : Int} {lv' : Value} (ho : Own w' B 3 Non lv' (ks ++ [k])) (hg : w.grownBy w' lv.ownBlock)
    (hnb : ∀ g, lv'.ownBlock = some g → lv.ownBlock = some g ∨ w.heap.size ≤ g) : Marks w' B mv lv' vs xs (ks ++ [k]) := by
  refine ⟨h.own.keptN hg (fun g hg' e => h.dis g hg' e.symm), ho, fun g h1 h2 => ?_, h.len, fun i h1 h2 => ?_⟩
  · rcases hnb g h2 with h3 | h3
    · exact h.dis g h1 h3
    · have := (h.own.lt g h1).2.1; omega
  · obtain ⟨a, c, e, hs⟩ := h.el i h1 h2
    exact ⟨a, c, e, Fx.step2 hg hnb hs⟩
theorem Marks.rd (h : Marks w B mv lv vs xs ks) : Rd w (Old w) mv xs := by
  obtain ⟨ao, cap, e, hs⟩ := h.own.oldN.sl
  have hsl : Sl w (Old w) ao cap xs := by
    refine ⟨by rw [← h.len]; exact hs.le, hs.mx, hs.nil, fun i hi => ?_⟩
    have hi' : i < vs.length := by rw [h.len]; exact hi
    obtain ⟨b, off, e1, hF, es, hc, hr⟩ := hs.el i hi'
    obtain ⟨rfl, h1⟩ := hr
    obtain ⟨io, ic, e2, hs2⟩ := h.el i hi' hi
    exact ⟨b, off, e1, hF, [vs[i].v], hc, io, ic, by rw [e2], Fx.old hs2⟩
  rw [e, h.len]
  exact hsl.rd
end
theorem canE_len {p : LProc} {m : List Int} : (canE p m).length ≤ 60 := by
  unfold canE
  split
  · rename_i h
    obtain ⟨_, _, _, h60⟩ := chkM_ok h
    unfold canL canP
    rw [List.length_map]
    have := List.length_filter_le (fun i => enabledP p m ((stepsL p).getD i (0, 0, 0))) (List.range (stepsL p).length)
    rw [List.length_range] at this
    omega
  · simp
theorem walked_ok (w0 : World) {so fo dO : Option Addr} {sc fc dc : Nat} {ns : List LNode} {fl : List LFlow} {dice : List Int} (hs : Sl w0 (Old w0) so sc ns) (hf : Sl w0 (Old w0) fo fc fl) (hd : Sl w0 (Old w0) dO dc dice) (hdl : dice.length ≤ 1048576) :
    Rt Try.prog 18 [procV so sc fo fc ns.length fl.length, .slice dO dice.length dc].toArray w0 fun v w' => ∃ mv lv, v = .tuple ⟨[mv, lv]⟩ ∧ Rd w' (Old w') mv (walkedP (ns, fl) dice).1 ∧ Rd w' (Old w') lv (walkedP (ns, fl) dice).2 ∧ Ext w0 w' := by
  refine Rt.enter2 Try.func18 Try.ntmps18 rfl rfl ?_
  have hE := Ext.refl w0
  (repeat (first | (apply CW.seq) | (apply CW.region)))
  refine WL.boxB rfl rfl rfl fun w1 hb1 e1 => ?_
  have hE := hE.trans e1
  (repeat (first | (apply WL.pure; rfl; rfl; rfl) | (apply WL.nil) | (apply EX.thenN) | (apply CW.seq) | (apply CW.region) | (apply WL.ldA; rfl; rfl; rfl; assumption; rfl)))
  refine WL.call rfl rfl rfl (Begin_ok w1 (hs.up hE) (hf.up hE)) ?_
  rintro _ w2 ⟨x, rfl, hox, e2⟩
  have hE := hE.trans e2
  have hb2 := hb1.ext e2
  unfold walkedP
  by_cases hz : (stepsE (ns, fl)).2 = 0
  case neg =>
    have hz1 : ((stepsE (ns, fl)).2 != 0) = true := by simpa using hz
    rw [if_pos hz]
    (repeat (first | (apply WL.pure; rfl; rfl; rfl) | (apply WL.nil) | (apply EX.thenN) | (apply CW.seq) | (apply CW.region)))
    rw [hz1]
    (repeat (first | (apply WL.pure; rfl; rfl; rfl) | (apply WL.nil) | (apply EX.thenN) | (apply CW.seq) | (apply CW.region) | (apply CW.condT; rfl) | (apply CW.ret) | (apply EX.thenR)))
    exact EX.ret2 rfl rfl rfl ⟨_, _, rfl, (Own.nil (B := 0) (F := Non) (e := 0) (α := List Int)).old (fun _ h => h.elim), (Own.nil (B := 0) (F := Non) (e := 0) (α := Int)).oldN, hE⟩
  rw [if_pos hz] at hox
  rw [if_neg (by simp [hz]), hz]
  obtain ⟨xo, xc, rfl, hxs⟩ := hox.oldN.sl
  have hbx := fun g hg => (hox.lt g hg)
  generalize beginL (ns, fl) = m0 at *
  (repeat (first | (apply WL.pure; rfl; rfl; rfl) | (apply WL.nil) | (apply EX.thenN) | (apply CW.seq) | (apply CW.region) | (apply CW.condF; rfl) | (apply CW.skip)))
  refine WL.lit (α := Raw) (F := Non) (ys := [(⟨.slice xo m0.length xc⟩ : Raw)]) rfl rfl rfl rfl rfl (.cons (Rd.mkRaw _ _ _ rfl) .nil) (by show 1 * 1 ≤ 16777216; decide) (fun _ h => h.elim) (fun w3 ho3 hg3 => ?_)
  have e3 : Ext w2 w3 := (Ext.refl _).grown hg3 (Nat.le_refl _) (fun k h => by cases h)
  have hm0 : Sl w3 (Fx w3 (.slice (some ⟨w2.heap.size, 0, none⟩) 1 1) (.slice none 0 0)) xo xc m0 := hxs.mono (fun b hb => e3.block b hb) fun b hb => ⟨Nat.lt_of_lt_of_le hb e3.size, fun e => by
    have e : some w2.heap.size = some b := e
    injection e with e; have : b < w2.heap.size := hb; omega, fun e => by cases e⟩
  have hM : Marks w3 w2.heap.size (.slice (some ⟨w2.heap.size, 0, none⟩) 1 1) (.slice none 0 0) [(⟨.slice xo m0.length xc⟩ : Raw)] [m0] [] :=
    ⟨ho3, Own.nil, (fun g _ h => by cases h), rfl, fun i h1 h2 => by
      obtain rfl : i = 0 := by simp at h1; omega
      exact ⟨xo, xc, rfl, hm0⟩⟩
  have hb3 := hb2.ext e3
  clear ho3 hg3 hox hxs hbx hb1
  generalize Value.slice (some ⟨w2.heap.size, 0, none⟩) 1 1 = mv0 at *
  (repeat (first | (apply WL.pure; rfl; rfl; rfl) | (apply WL.nil) | (apply EX.thenN) | (apply CW.seq) | (apply CW.region) | (apply WL.lenS; rfl; rfl; rfl) | (apply CW.block)))
  refine CW.loop (S := Nat × (Option Addr × Nat) × (Value × Value) × List Raw × List (List Int) × List Int × List Int) (fun s => [(2, .pointer (some ⟨w0.heap.size, 0, none⟩)), (4, s.2.2.1.1), (5, s.2.2.1.2), (6, .slice s.2.1.1 s.2.2.2.2.2.2.length s.2.1.2), (24, .slice dO dice.length dc), (25, .int .i64 dice.length), (26, .int .i64 s.1)])
    (fun s w => s.1 ≤ dice.length ∧ s.2.2.2.2.1 ++ (walkGo (ns, fl) (dice.drop s.1) s.2.2.2.2.2.2).1 = m0 :: (walkGo (ns, fl) dice m0).1 ∧ s.2.2.2.2.2.1 ++ (walkGo (ns, fl) (dice.drop s.1) s.2.2.2.2.2.2).2 = (walkGo (ns, fl) dice m0).2
      ∧ Marks w w2.heap.size s.2.2.1.1 s.2.2.1.2 s.2.2.2.1 s.2.2.2.2.1 s.2.2.2.2.2.1 ∧ Sl w (Fx w s.2.2.1.1 s.2.2.1.2) s.2.1.1 s.2.1.2 s.2.2.2.2.2.2 ∧ s.2.2.2.1.length = s.1 + 1 ∧ s.2.2.2.2.2.1.length = s.1 ∧ Ext w2 w) (fun s => dice.length - s.1)
    (0, (xo, xc), (mv0, .slice none 0 0), [(⟨.slice xo m0.length xc⟩ : Raw)], [m0], [], m0) (by repeat (first | exact trivial | refine ⟨rfl, ?_⟩)) ⟨Nat.zero_le _, by simp, by simp, hM, hm0, rfl, rfl, e3⟩ ?_
  clear hM hm0 hb3 e3
  rintro ⟨i, ⟨ao, cap⟩, ⟨mv, lv⟩, vs, xs, ks, m⟩ w4 ⟨hi, hT1, hT2, hM, hm, hvl, hkl, e4⟩
  dsimp only at hi hT1 hT2 hM hm hvl hkl e4 ⊢
  have hE4 := hE.trans e4
  have hb4 := hb2.ext e4
  (repeat (first | (apply WL.pure; rfl; rfl; rfl) | (apply WL.nil) | (apply EX.thenN) | (apply CW.seq) | (apply CW.region)))
  refine CW.cond rfl (fun h => ?_) (fun h => ?_)
  · have hi' : i < dice.length := by simp at h; omega
    rw [List.drop_eq_getElem_cons hi', walkGo] at hT1 hT2
    (repeat (first | (apply EX.thenN) | (apply CW.seq) | (apply CW.region) | (apply CW.block) | (apply CW.skip)))
    refine WL.elemI rfl rfl rfl rfl rfl (hd.up hE4) hi' rfl (fun _ => rfl) (fun q => ?_)
    generalize dice[i] = dd at *
    (repeat (first | (apply WL.pure; rfl; rfl; rfl) | (apply WL.nil) | (apply EX.thenN) | (apply CW.seq) | (apply CW.region) | (apply WL.ldA; rfl; rfl; rfl; assumption; rfl)))
    refine WL.call rfl rfl rfl (Enabled_ok w4 (hs.up hE4) (hf.up hE4) (Fx.old hm)) ?_
    rintro _ w5 ⟨x, rfl, hox, e5⟩
    change Own w5 _ _ _ _ (canE (ns, fl) m) at hox
    obtain ⟨co, cc, rfl, hcs⟩ := hox.oldN.sl
    have hM := hM.ext e5
    have hm := Fx.ext e5 hm
    have hE5 := hE4.trans e5
    have e5 := e4.trans e5
    have hb5 := hb2.ext e5
    have hcl := canE_len (p := (ns, fl)) (m := m)
    (repeat (first | (apply WL.pure; rfl; rfl; rfl) | (apply WL.nil) | (apply EX.thenN) | (apply CW.seq) | (apply CW.region) | (apply WL.lenS; rfl; rfl; rfl)))
    refine CW.cond rfl (fun h1 => ?_) (fun h1 => ?_)
    · have h1 : canE (ns, fl) m = [] := by
        apply List.eq_nil_of_length_eq_zero
        have : ((canE (ns, fl) m).length : Int) = 0 := by simpa using h1
        omega
      rw [if_pos h1, List.append_nil] at hT1 hT2
      rw [← hT1, ← hT2]
      (repeat (first | (apply WL.pure; rfl; rfl; rfl) | (apply WL.nil) | (apply EX.thenN) | (apply CW.seq) | (apply CW.region) | (apply CW.ret) | (apply EX.thenR) | (apply EX.inR)))
      exact EX.ret2 rfl rfl rfl ⟨_, _, rfl, hM.rd, hM.kso.oldN, hE5⟩
    have h1 : canE (ns, fl) m ≠ [] := fun e => by rw [e] at h1; simp at h1
    rw [if_neg h1] at hT1 hT2
    have hcp : 0 < (canE (ns, fl) m).length := List.length_pos_iff.2 h1
    have hr0 := Int.emod_nonneg dd (show ((canE (ns, fl) m).length : Int) ≠ 0 by omega)
    have hr1 := Int.emod_lt_of_pos dd (show (0 : Int) < ((canE (ns, fl) m).length : Int) by omega)
    have hpick : pickD dd (canE (ns, fl) m) = (canE (ns, fl) m)[(dd % ((canE (ns, fl) m).length : Int)).toNat]'(by omega) := by
      unfold pickD; rw [getDm_at (by omega)]
    (repeat (first | (apply WL.pure; rfl; rfl; rfl) | (apply EX.thenN) | (apply CW.seq) | (apply CW.region) | (apply WL.lenS; rfl; rfl; rfl) | (apply CW.skip)))
    refine WL.call rfl rfl rfl (wrest_ok w5 dd ((canE (ns, fl) m).length : Int) (by omega) (by omega)) ?_
    rintro _ _ ⟨rfl, rfl⟩
    skip
    refine WL.elem rfl rfl rfl rfl rfl hcs hr0 hr1 (fun _ => rfl) (fun u q hu => ?_)
    rw [← hpick] at hu
    obtain rfl := hu.int
    generalize hkk : pickD dd (canE (ns, fl) m) = k at *
    (repeat (first | (apply WL.pure; rfl; rfl; rfl) | (apply WL.nil) | (apply EX.thenN) | (apply CW.seq) | (apply CW.region) | (apply WL.ldA; rfl; rfl; rfl; assumption; rfl)))
    refine WL.call rfl rfl rfl (Fire_ok w5 (hs.up hE5) (hf.up hE5) (Fx.old hm) k) ?_
    rintro _ w6 ⟨x, rfl, hoy, e6⟩
    have hM5 := hM
    have hM := hM.ext e6
    have hE6 := hE5.trans e6
    have e6' := e5.trans e6
    have hb6 := hb2.ext e6'
    by_cases hz2 : (fireE (ns, fl) m k).2 = 0
    case neg =>
      have hz1 : ((fireE (ns, fl) m k).2 != 0) = true := by simpa using hz2
      rw [if_pos hz2, List.append_nil] at hT1 hT2
      rw [← hT1, ← hT2]
      (repeat (first | (apply WL.pure; rfl; rfl; rfl) | (apply WL.nil) | (apply EX.thenN) | (apply CW.seq) | (apply CW.region)))
      rw [hz1]
      (repeat (first | (apply WL.pure; rfl; rfl; rfl) | (apply WL.nil) | (apply EX.thenN) | (apply CW.seq) | (apply CW.region) | (apply CW.condT; rfl) | (apply CW.ret) | (apply EX.thenR) | (apply EX.inR)))
      exact EX.ret2 rfl rfl rfl ⟨_, _, rfl, hM.rd, hM.kso.oldN, hE6⟩
    rw [if_neg (by simp [hz2])] at hT1 hT2
    rw [hz2]
    generalize (fireE (ns, fl) m k).1 = m' at *
    obtain ⟨yo, yc, rfl, hym⟩ := hoy.slF (F' := Fx w6 mv lv) (fun _ h => h.elim) (fun g hg => by
      have h1 := hoy.lt g hg
      refine ⟨h1.2.1, fun e => ?_, fun e => ?_⟩
      · have := (hM5.own.lt g e).2.1; omega
      · have := (hM5.kso.lt g e).2.1; omega)
    clear hoy hM5 hcs hu hox
    (repeat (first | (apply WL.pure; rfl; rfl; rfl) | (apply WL.nil) | (apply EX.thenN) | (apply CW.seq) | (apply CW.region) | (apply CW.condF; rfl) | (apply CW.skip)))
    refine WL.app1 (α := Raw) (F := Non) (yv := (⟨.slice yo m'.length yc⟩ : Raw)) rfl rfl (fun _ => rfl) rfl rfl (fun _ => rfl) hM.own (Rd.mkRaw _ _ _ rfl) e6'.size (fun _ h => h.elim) (by decide) (by unfold maxLen; omega) (by omega) (fun mv' w7 p ho7 hg7 hnb7 => ?_)
    have hM7 := hM.push hym ho7 hg7 hnb7
    have hm7 := Fx.step1 hg7 hnb7 hym
    have e7 : Ext w2 w7 := e6'.grown hg7 e6'.size (fun b hb => (hM.own.lt b hb).1)
    (repeat (apply WL.pure; rfl; rfl; rfl))
    refine WL.app1 (F := Non) (yv := k) rfl rfl (fun _ => rfl) rfl rfl (fun _ => rfl) hM7.kso (Rd.mkInt _ _ _) e7.size (fun _ h => h.elim) (by decide) (by unfold maxLen; omega) (by omega) (fun lv' w8 p ho8 hg8 hnb8 => ?_)
    have hM8 := hM7.pushK ho8 hg8 hnb8
    have hm8 := Fx.step2 hg8 hnb8 hm7
    have e8 : Ext w2 w8 := e7.grown hg8 e7.size (fun b hb => (hM7.kso.lt b hb).1)
    (repeat (first | (apply WL.add; rfl; rfl; rfl; rfl; omega; omega) | (apply WL.pure; rfl; rfl; rfl) | (apply WL.nil) | (apply EX.thenN) | (apply CW.region) | (apply EX.inN)))
    exact EX.back (i + 1, (yo, yc), (mv', lv'), vs ++ [⟨.slice yo m'.length yc⟩], xs ++ [m'], ks ++ [k], m') (by repeat (first | exact trivial | refine ⟨rfl, ?_⟩)) ⟨hi', by simpa using hT1, by simpa using hT2, hM8, hm8, by simp [hvl], by simp [hkl], e8⟩ (by dsimp only; omega)
  · obtain rfl : i = dice.length := by simp at h; omega
    rw [List.drop_length, walkGo, List.append_nil] at hT1 hT2
    rw [← hT1, ← hT2]
    (repeat (first | (apply WL.pure; rfl; rfl; rfl) | (apply WL.nil) | (apply EX.thenN) | (apply CW.seq) | (apply CW.region) | (apply CW.exit) | (apply EX.thenX) | (apply EX.inX) | (apply CW.ret)))
    exact EX.ret2 rfl rfl rfl ⟨_, _, rfl, hM.rd, hM.kso.oldN, hE4⟩
end Go.Proofs.Ytljcnopekjinjaa
/-
  Tokens: what a step takes and puts; plain lists.
-/
set_option linter.unusedVariables false
set_option linter.unusedSimpArgs false
namespace Go.Proofs.Ytljcnopekjinjaa

theorem getDset {l : List Int} {i j : Nat} {v : Int} (h : i < l.length) : (l.set i v).getD j 0 = if i = j then v else l.getD j 0 := by
  simp only [List.getD_eq_getElem?_getD, List.getElem?_set]
  split
  · subst_vars; simp [h]
  · rfl
/-- numbers of places -/
def inL (N : Nat) (l : List Int) : Prop := ∀ x ∈ l, 0 ≤ x ∧ x < N
theorem inL_ins {fl : List LFlow} {n : Int} : inL fl.length (insL fl n) := fun x hx => by
  obtain ⟨j, rfl, h, _⟩ := insP_mem.1 hx; omega
theorem inL_outs {fl : List LFlow} {n : Int} : inL fl.length (outsL fl n) := fun x hx => by
  obtain ⟨j, rfl, h, _⟩ := outsP_mem.1 hx; omega
theorem outsL_nodup {fl : List LFlow} {n : Int} : (outsL fl n).Nodup := by
  unfold outsL outsP
  rw [List.Nodup, List.pairwise_map]
  exact (List.nodup_range.filter _).imp fun hab e => hab (by omega)
section
variable {s : LStep}
theorem takeAll_len : ∀ (l : List Int) (m : List Int), (takeAll s m l).length = m.length
  | [], m => rfl
  | f :: r, m => by rw [takeAll, takeAll_len r, List.length_set]
theorem takes_eq {m m' : List Int} {f : Int} (h : m.getD f.toNat 0 = m'.getD f.toNat 0) : takes m s f = takes m' s f := by unfold takes; rw [h]
theorem takeAll_get : ∀ (l : List Int) (m : List Int), inL m.length l → l.Nodup → ∀ j : Nat, (takeAll s m l).getD j 0 = if (j : Int) ∈ l then takes m s (j : Int) else m.getD j 0
  | [], m, _, _, j => by simp [takeAll]
  | f :: r, m, hl, hd, j => by
    rw [List.nodup_cons] at hd
    have hf := hl f (by simp)
    have ih := takeAll_get r (m.set f.toNat (takes m s f)) (fun x hx => by rw [List.length_set]; exact hl x (by simp [hx])) hd.2 j
    rw [takeAll, ih, getDset (by omega)]
    by_cases e : f.toNat = j
    · have ej : (j : Int) = f := by omega
      rw [if_pos e, ej, if_neg hd.1, if_pos (by simp)]
    · have ej : ¬ (j : Int) = f := by omega
      rw [if_neg e]
      by_cases hm : (j : Int) ∈ r
      · rw [if_pos hm, if_pos (by simp [hm])]
        exact takes_eq (by rw [Int.toNat_natCast, getDset (by omega), if_neg e])
      · rw [if_neg hm, if_neg (by simp [hm, ej])]
end
theorem putAll_len {n : Int} : ∀ (l : List Int) (k : Nat) (m m' : List Int), putAll n k m l = some m' → m'.length = m.length
  | [], k, m, m', h => by rw [putAll] at h; injection h with h; rw [h]
  | f :: r, k, m, m', h => by
    rw [putAll] at h
    split at h
    · split at h
      · cases h
      · rw [putAll_len r _ _ _ h, List.length_set]
    · exact putAll_len r _ _ _ h
/-- the bit of flow j, if it is among l -/
def bitAt (n : Int) : Nat → List Int → Int → Int
  | _, [], _ => 0
  | k, f :: r, j => if f = j then bitK n k else bitAt n (k + 1) r j
theorem bitAt_no {n : Int} : ∀ (l : List Int) (k : Nat) (j : Int), j ∉ l → bitAt n k l j = 0
  | [], k, j, _ => rfl
  | f :: r, k, j, h => by
    rw [bitAt, if_neg (fun e => h (by simp [e])), bitAt_no r _ j (fun hm => h (by simp [hm]))]
theorem bitK_01 (n : Int) (k : Nat) : bitK n k = 0 ∨ bitK n k = 1 := by unfold bitK; omega
/-- puts: each place within its bound -/
theorem putAll_get {n : Int} : ∀ (l : List Int) (k : Nat) (m : List Int), inL m.length l → l.Nodup →
    ((∀ x ∈ l, m.getD x.toNat 0 + bitAt n k l x ≤ 9 ∨ bitAt n k l x = 0) → ∃ m', putAll n k m l = some m' ∧ ∀ j : Nat, m'.getD j 0 = m.getD j 0 + bitAt n k l (j : Int)) ∧
    (∀ m', putAll n k m l = some m' → ∀ x ∈ l, m.getD x.toNat 0 + bitAt n k l x ≤ 9 ∨ bitAt n k l x = 0)
  | [], k, m, _, _ => ⟨fun _ => ⟨m, rfl, fun j => by simp [bitAt]⟩, fun _ _ x hx => by cases hx⟩
  | f :: r, k, m, hl, hd => by
    rw [List.nodup_cons] at hd
    have hf := hl f (by simp)
    have hlr : inL m.length r := fun x hx => hl x (by simp [hx])
    have hbf : bitAt n k (f :: r) f = bitK n k := by rw [bitAt, if_pos rfl]
    have hbx : ∀ x, x ≠ f → bitAt n k (f :: r) x = bitAt n (k + 1) r x := fun x h => by rw [bitAt, if_neg (fun e => h e.symm)]
    have hxr : ∀ x ∈ r, x ≠ f := fun x hx e => hd.1 (e ▸ hx)
    rcases bitK_01 n k with hb | hb
    · have ih := putAll_get (n := n) r (k + 1) m hlr hd.2
      have he : putAll n k m (f :: r) = putAll n (k + 1) m r := by rw [putAll, if_neg (by omega)]
      rw [he]
      refine ⟨fun h => ?_, fun m' h x hx => ?_⟩
      · obtain ⟨m', h1, h2⟩ := ih.1 (fun x hx => by have := h x (by simp [hx]); rwa [hbx x (hxr x hx)] at this)
        refine ⟨m', h1, fun j => ?_⟩
        rw [h2 j]
        by_cases e : (j : Int) = f
        · rw [e, hbf, hb, bitAt_no r _ f hd.1]
        · rw [hbx _ e]
      · rcases List.mem_cons.1 hx with rfl | hx
        · right; rw [hbf, hb]
        · rw [hbx x (hxr x hx)]; exact ih.2 m' h x hx
    · have hset : ∀ x : Int, 0 ≤ x → x ≠ f → (m.set f.toNat (m.getD f.toNat 0 + 1)).getD x.toNat 0 = m.getD x.toNat 0 := fun x h0 h => by
        rw [getDset (by omega), if_neg (by omega)]
      have ih := putAll_get (n := n) r (k + 1) (m.set f.toNat (m.getD f.toNat 0 + 1)) (fun x hx => by rw [List.length_set]; exact hlr x hx) hd.2
      have he : putAll n k m (f :: r) = if m.getD f.toNat 0 + 1 > 9 then none else putAll n (k + 1) (m.set f.toNat (m.getD f.toNat 0 + 1)) r := by rw [putAll, if_pos hb]
      rw [he]
      refine ⟨fun h => ?_, fun m' h x hx => ?_⟩
      · have h9 : ¬ m.getD f.toNat 0 + 1 > 9 := by
          have := h f (by simp)
          rw [hbf, hb] at this
          omega
        rw [if_neg h9]
        obtain ⟨m', h1, h2⟩ := ih.1 (fun x hx => by
          have := h x (by simp [hx])
          rw [hbx x (hxr x hx)] at this
          rwa [hset x (hlr x hx).1 (hxr x hx)])
        refine ⟨m', h1, fun j => ?_⟩
        rw [h2 j]
        by_cases e : (j : Int) = f
        · rw [getDset (by omega), if_pos (by omega), e, hbf, hb, bitAt_no r _ f hd.1]
          have : f.toNat = j := by omega
          rw [this]; omega
        · have := hset (j : Int) (by omega) e
          rw [Int.toNat_natCast] at this
          rw [hbx _ e, this]
      · split at h
        · cases h
        · rename_i h9
          rcases List.mem_cons.1 hx with rfl | hx
          · left; rw [hbf, hb]; omega
          · rw [hbx x (hxr x hx)]
            have := ih.2 m' h x hx
            rwa [hset x (hlr x hx).1 (hxr x hx)] at this
/- SUMS -/
theorem sum_set : ∀ (m : List Int) (i : Nat) (v : Int), i < m.length → (m.set i v).sum = m.sum - m.getD i 0 + v
  | [], i, v, h => by cases h
  | a :: r, 0, v, _ => by simp [List.getD_eq_getElem?_getD]; omega
  | a :: r, i + 1, v, h => by
    have := sum_set r i v (by simpa using h)
    simp only [List.set_cons_succ, List.sum_cons, List.getD_cons_succ, this]; omega
/-- how many are taken off l -/
def tookN (s : LStep) (m : List Int) (l : List Int) : Int := (l.map fun f => m.getD f.toNat 0 - takes m s f).sum
theorem takeAll_sum {s : LStep} : ∀ (l : List Int) (m : List Int), inL m.length l → l.Nodup → (takeAll s m l).sum = m.sum - tookN s m l
  | [], m, _, _ => by simp [takeAll, tookN]
  | f :: r, m, hl, hd => by
    rw [List.nodup_cons] at hd
    have hf := hl f (by simp)
    have ih := takeAll_sum (s := s) r (m.set f.toNat (takes m s f)) (fun x hx => by rw [List.length_set]; exact hl x (by simp [hx])) hd.2
    have ht : tookN s (m.set f.toNat (takes m s f)) r = tookN s m r := by
      unfold tookN
      congr 1
      apply List.map_congr_left
      intro x hx
      have hx0 := (hl x (by simp [hx])).1
      have hne : x ≠ f := fun e => hd.1 (e ▸ hx)
      have e1 : (m.set f.toNat (takes m s f)).getD x.toNat 0 = m.getD x.toNat 0 := by rw [getDset (by omega), if_neg (by omega)]
      rw [e1, takes_eq e1]
    rw [takeAll, ih, ht, sum_set m f.toNat _ (by omega)]
    unfold tookN
    simp only [List.map_cons, List.sum_cons]; omega
/-- how many are put -/
def putN (n : Int) (k c : Nat) : Int := ((List.range c).map fun i => bitK n (k + i)).sum
theorem putN_succ {n : Int} {k c : Nat} : putN n k (c + 1) = bitK n k + putN n (k + 1) c := by
  unfold putN
  rw [List.range_succ_eq_map, List.map_cons, List.sum_cons, List.map_map]
  congr 1
  congr 1
  apply List.map_congr_left
  intro i _
  show bitK n (k + (i + 1)) = bitK n (k + 1 + i)
  congr 1; omega
theorem putN_last {n : Int} {c : Nat} : putN n 0 (c + 1) = putN n 0 c + bitK n c := by
  unfold putN
  rw [List.range_succ, List.map_append, List.sum_append]; simp
theorem putAll_sum {n : Int} : ∀ (l : List Int) (k : Nat) (m m' : List Int), inL m.length l → putAll n k m l = some m' → m'.sum = m.sum + putN n k l.length
  | [], k, m, m', _, h => by rw [putAll] at h; injection h with h; subst h; simp [putN]
  | f :: r, k, m, m', hl, h => by
    have hf := hl f (by simp)
    have hlr : inL m.length r := fun x hx => hl x (by simp [hx])
    rw [List.length_cons, putN_succ]
    rw [putAll] at h
    split at h
    · rename_i hb
      split at h
      · cases h
      · have := putAll_sum r _ _ _ (fun x hx => by rw [List.length_set]; exact hlr x hx) h
        rw [this, sum_set m f.toNat _ (by omega), hb]; omega
    · rename_i hb
      have := putAll_sum r _ _ _ hlr h
      have := bitK_01 n k
      omega
theorem map1_sum : ∀ l : List Int, (l.map fun _ => (1 : Int)).sum = l.length
  | [] => rfl
  | a :: r => by rw [List.map_cons, List.sum_cons, map1_sum r, List.length_cons]; omega
theorem map01_sum {a : Int} : ∀ l : List Int, l.Nodup → (l.map fun f => if a = f then (1 : Int) else 0).sum = if a ∈ l then 1 else 0
  | [], _ => by simp
  | f :: r, hd => by
    rw [List.nodup_cons] at hd
    rw [List.map_cons, List.sum_cons, map01_sum r hd.2]
    by_cases e : a = f
    · subst e
      rw [if_pos rfl, if_neg hd.1, if_pos (by simp)]; rfl
    · rw [if_neg e]
      by_cases hm : a ∈ r
      · rw [if_pos hm, if_pos (by simp [hm])]; omega
      · rw [if_neg hm, if_neg (by simp [hm, e])]; rfl
/-- what is taken: one, or all -/
theorem took_one {s : LStep} {m l : List Int} (hd : l.Nodup) (h0 : 0 ≤ s.2.1) (hm : s.2.1 ∈ l) : tookN s m l = 1 := by
  have := map01_sum (a := s.2.1) l hd
  rw [if_pos hm] at this
  rw [← this]
  unfold tookN
  congr 1
  apply List.map_congr_left
  intro f _
  unfold takes
  by_cases e : s.2.1 = f
  · rw [if_pos (.inl e), if_pos e]; omega
  · rw [if_neg (by rintro (h | ⟨h, _⟩); exact e h; omega), if_neg e]; omega
theorem took_all {s : LStep} {m l : List Int} (h0 : s.2.1 < 0) (hm : ∀ f ∈ l, m.getD f.toNat 0 > 0) : tookN s m l = l.length := by
  rw [← map1_sum]
  unfold tookN
  congr 1
  apply List.map_congr_left
  intro f hf
  unfold takes
  rw [if_pos (.inr ⟨h0, hm f hf⟩)]; omega
end Go.Proofs.Ytljcnopekjinjaa
/-
  Tokens: a walk by dice: each marking is one, each step is enabled and leads on.
-/
set_option linter.unusedVariables false
set_option linter.unusedSimpArgs false
namespace Go.Proofs.Ytljcnopekjinjaa

def MarkOk (p : LProc) (m : List Int) : Prop := m.length = p.2.length ∧ ∀ j : Nat, 0 ≤ m.getD j 0 ∧ m.getD j 0 ≤ 9
theorem markOk_chk {p : LProc} {m : List Int} (hz : (stepsE p).2 = 0) (h : MarkOk p m) : chkM p m = 0 := by
  unfold chkM
  rw [if_neg (by simp [hz]), if_neg]
  rintro (e | e)
  · exact e h.1
  · obtain ⟨x, hx, ht⟩ := List.any_eq_true.1 e
    obtain ⟨j, hj, rfl⟩ := List.mem_iff_getElem.1 hx
    have := h.2 j
    rw [getDm_at hj] at this
    unfold tokB at ht
    simp at ht
    omega
theorem chk_markOk {p : LProc} {m : List Int} (h : chkM p m = 0) : MarkOk p m := by
  obtain ⟨_, h1, h2, _⟩ := chkM_ok h
  have h3 := tokI_of h2
  refine ⟨h1, fun j => ?_⟩
  by_cases hj : j < m.length
  · rw [getDm_at hj]; have := h3 j hj; omega
  · rw [List.getD_eq_getElem?_getD, List.getElem?_eq_none (by omega)]
    exact ⟨Int.le_refl _, by decide⟩
theorem begin_ok {p : LProc} : MarkOk p (beginL p) := by
  refine ⟨by simp [beginL], fun j => ?_⟩
  by_cases hj : j < (beginL p).length
  · rw [getDm_at hj]
    have e : (beginL p)[j] = if kindAt p (p.2[j]'(by simpa [beginL] using hj)).1.toNat = 1 then 1 else 0 := by simp [beginL]
    rw [e]
    split <;> omega
  · rw [List.getD_eq_getElem?_getD, List.getElem?_eq_none (by omega)]
    exact ⟨Int.le_refl _, by decide⟩
def StepAt (p : LProc) (m : List Int) (k : Int) (m' : List Int) : Prop :=
  0 ≤ k ∧ k < (stepsL p).length ∧ enabledP p m ((stepsL p).getD k.toNat (0, 0, 0)) = true ∧ fireP p m ((stepsL p).getD k.toNat (0, 0, 0)) = some m'
theorem fireE_ok {p : LProc} {m : List Int} {k : Int} (h : (fireE p m k).2 = 0) : chkM p m = 0 ∧ StepAt p m k (fireE p m k).1 := by
  unfold fireE at h ⊢
  split at h
  · rename_i h1; exact absurd h h1
  · rename_i h1
    split at h
    · cases h
    · rename_i h2
      split at h
      · cases h
      · rename_i h3
        rw [if_neg h1, if_neg h2, if_neg h3]
        refine ⟨by simpa using h1, by omega, by omega, by simpa using h3, ?_⟩
        dsimp only at h ⊢
        cases e : fireP p m ((stepsL p).getD k.toNat (0, 0, 0)) with
        | none => rw [e] at h; cases h
        | some r => rfl
theorem takes_range {m : List Int} {s : LStep} {f : Int} (h0 : 0 ≤ m.getD f.toNat 0) (h9 : m.getD f.toNat 0 ≤ 9) (hp : s.2.1 = f → m.getD f.toNat 0 > 0) : 0 ≤ takes m s f ∧ takes m s f ≤ 9 := by
  unfold takes
  split
  · rename_i h
    rcases h with h | h
    · have := hp h; omega
    · omega
  · exact ⟨h0, h9⟩
theorem bitAt_01 {n : Int} : ∀ (l : List Int) (k : Nat) (j : Int), 0 ≤ bitAt n k l j ∧ bitAt n k l j ≤ 1
  | [], k, j => ⟨Int.le_refl _, (by decide : (0 : Int) ≤ 1)⟩
  | f :: r, k, j => by
    rw [bitAt]
    split
    · have := bitK_01 n k; omega
    · exact bitAt_01 r _ j
theorem fire_next {p : LProc} {m m' : List Int} {s : LStep} (hm : MarkOk p m) (hen : enabledP p m s = true) (h : fireP p m s = some m') : MarkOk p m' := by
  unfold fireP at h
  split at h
  · injection h with h
    subst h
    refine ⟨by simpa using hm.1, fun j => ?_⟩
    by_cases hj : j < m.length
    · rw [getDm_at (by simpa using hj), List.getElem_map]; omega
    · rw [List.getD_eq_getElem?_getD, List.getElem?_eq_none (by simpa using hj)]
      exact ⟨Int.le_refl _, by decide⟩
  · have hil : inL m.length (insL p.2 s.1) := by rw [hm.1]; exact inL_ins
    have hg := takeAll_get (s := s) (insL p.2 s.1) m hil insL_nodup
    have hTl : (takeAll s m (insL p.2 s.1)).length = m.length := takeAll_len _ _
    have hol : inL (takeAll s m (insL p.2 s.1)).length (outsL p.2 s.1) := by rw [hTl, hm.1]; exact inL_outs
    have hP := putAll_get (n := s.2.2) (outsL p.2 s.1) 0 _ hol outsL_nodup
    have hb := hP.2 m' h
    obtain ⟨m2, h1, h2⟩ := hP.1 hb
    rw [h] at h1
    injection h1 with h1
    subst h1
    have hT : ∀ j : Nat, 0 ≤ (takeAll s m (insL p.2 s.1)).getD j 0 ∧ (takeAll s m (insL p.2 s.1)).getD j 0 ≤ 9 := fun j => by
      rw [hg j]
      have hmj := hm.2 j
      split
      · refine takes_range (by rw [Int.toNat_natCast]; exact hmj.1) (by rw [Int.toNat_natCast]; exact hmj.2) (fun e => ?_)
        unfold enabledP at hen
        rw [if_pos (by omega), e] at hen
        simpa using hen
      · exact hmj
    refine ⟨by rw [putAll_len _ _ _ _ h, hTl]; exact hm.1, fun j => ?_⟩
    rw [h2 j]
    have h3 := hT j
    have h4 := bitAt_01 (n := s.2.2) (outsL p.2 s.1) 0 (j : Int)
    by_cases hj : (j : Int) ∈ outsL p.2 s.1
    · have h5 := hb _ hj
      rw [Int.toNat_natCast] at h5
      omega
    · have h5 := bitAt_no (n := s.2.2) (outsL p.2 s.1) 0 (j : Int) hj
      omega
theorem walkGo_ok {p : LProc} : ∀ (dice : List Int) (m : List Int), MarkOk p m →
    (walkGo p dice m).1.length = (walkGo p dice m).2.length ∧ (∀ i, i < (walkGo p dice m).2.length → StepAt p ((m :: (walkGo p dice m).1).getD i []) ((walkGo p dice m).2.getD i 0) ((m :: (walkGo p dice m).1).getD (i + 1) [])) ∧ ∀ x ∈ (walkGo p dice m).1, MarkOk p x
  | [], m, _ => ⟨rfl, fun i h => absurd h (by simp [walkGo]), fun x hx => by simp [walkGo] at hx⟩
  | d :: r, m, hm => by
    rw [walkGo]
    split
    · exact ⟨rfl, fun i h => absurd h (by simp), fun x hx => by simp at hx⟩
    · split
      · exact ⟨rfl, fun i h => absurd h (by simp), fun x hx => by simp at hx⟩
      · rename_i h1 h2
        have h2 : (fireE p m (pickD d (canE p m))).2 = 0 := by simpa using h2
        obtain ⟨_, hst⟩ := fireE_ok h2
        have hn := fire_next hm hst.2.2.1 hst.2.2.2
        obtain ⟨i1, i2, i3⟩ := walkGo_ok r _ hn
        generalize pickD d (canE p m) = k at *
        generalize (fireE p m k).1 = m1 at *
        refine ⟨by simp [i1], fun i h => ?_, fun x hx => ?_⟩
        · cases i with
          | zero => exact hst
          | succ i => exact i2 i (by simpa using h)
        · rcases List.mem_cons.1 hx with rfl | hx
          · exact hn
          · exact i3 x hx
theorem walked_law {p : LProc} (dice : List Int) (h0 : (walkedP p dice).1 ≠ []) : (stepsE p).2 = 0 ∧ (walkedP p dice).1.length = (walkedP p dice).2.length + 1 ∧
    (∀ i, i < (walkedP p dice).2.length → StepAt p ((walkedP p dice).1.getD i []) ((walkedP p dice).2.getD i 0) ((walkedP p dice).1.getD (i + 1) [])) ∧ ∀ x ∈ (walkedP p dice).1, MarkOk p x := by
  unfold walkedP at h0 ⊢
  split at h0
  · exact absurd rfl h0
  · rename_i hz
    rw [if_neg hz]
    obtain ⟨i1, i2, i3⟩ := walkGo_ok dice (beginL p) begin_ok
    refine ⟨by simpa using hz, by simp [i1], i2, fun x hx => ?_⟩
    rcases List.mem_cons.1 hx with rfl | hx
    · exact begin_ok
    · exact i3 x hx
/-- the sum of the tokens -/
theorem step_sum {p : LProc} {m m' : List Int} {k : Int} {n : Nat} (hm : MarkOk p m) (h : StepAt p m k m') (hn : n < p.1.length) (hsn : (stepsL p).getD k.toNat (0, 0, 0) ∈ stepsN p n) (h7 : kindAt p n ≠ 7) (h3 : kindAt p n ≠ 3) :
    m'.sum = m.sum - (if kindAt p n = 6 then ((insL p.2 (n : Int)).length : Int) else 1) + putN ((stepsL p).getD k.toNat (0, 0, 0)).2.2 0 (outsL p.2 (n : Int)).length := by
  obtain ⟨_, _, hen, hf⟩ := h
  generalize (stepsL p).getD k.toNat (0, 0, 0) = s at *
  have q1 := stepsK_node _ hsn
  unfold fireP at hf
  rw [q1, Int.toNat_natCast, if_neg h3] at hf
  have hil : inL m.length (insL p.2 (n : Int)) := by rw [hm.1]; exact inL_ins
  have hTl : (takeAll s m (insL p.2 (n : Int))).length = m.length := takeAll_len _ _
  have hol : inL (takeAll s m (insL p.2 (n : Int))).length (outsL p.2 (n : Int)) := by rw [hTl, hm.1]; exact inL_outs
  rw [putAll_sum _ _ _ _ hol hf, takeAll_sum _ _ hil insL_nodup]
  congr 2
  unfold stepsN stepsK at hsn
  unfold enabledP at hen
  rw [q1, Int.toNat_natCast] at hen
  split at hsn
  · rename_i hk
    obtain ⟨f, hfm, rfl⟩ := List.mem_map.1 hsn
    rw [if_neg (by omega)]
    exact took_one insL_nodup (inL_ins f hfm).1 hfm
  split at hsn
  · rename_i hk
    obtain ⟨f, hfm, hsn⟩ := List.mem_flatMap.1 hsn
    obtain ⟨j, _, rfl⟩ := List.mem_map.1 hsn
    rw [if_neg (by omega)]
    exact took_one insL_nodup (inL_ins f hfm).1 hfm
  split at hsn
  · rename_i hk
    rw [List.mem_singleton] at hsn
    subst hsn
    rw [if_pos hk]
    refine took_all (by dsimp only; decide) (fun f hfm => ?_)
    dsimp only at hen
    rw [if_neg (by decide), if_neg (by omega), Bool.not_eq_true', List.any_eq_false] at hen
    have h1 := hen f hfm
    have h2 := hm.2 f.toNat
    have h3 : m.getD f.toNat 0 ≠ 0 := by simpa using h1
    omega
  cases hsn
end Go.Proofs.Ytljcnopekjinjaa
/-
  GameTokens: walked.
-/
set_option linter.unusedVariables false
set_option linter.unusedSimpArgs false
namespace Go.Proofs.Ytljcnopekjinjaa
open Go.RowKit

theorem sum_range {m : List Int} (h : ∀ j : Nat, 0 ≤ m.getD j 0 ∧ m.getD j 0 ≤ 9) : ∀ i, i ≤ m.length → 0 ≤ (m.take i).sum ∧ (m.take i).sum ≤ 9 * (i : Int)
  | 0, _ => by simp
  | i + 1, hi => by
    have ih := sum_range h i (by omega)
    have hj := h i
    rw [getDm_at (by omega)] at hj
    rw [← List.take_append_getElem (by omega), List.sum_append, List.sum_cons, List.sum_nil]
    omega
theorem sumOf_ok (w : World) {mo : Option Addr} {mc : Nat} {m : List Int} (hm : Sl w (Old w) mo mc m) (h09 : ∀ j : Nat, 0 ≤ m.getD j 0 ∧ m.getD j 0 ≤ 9) (hl : m.length ≤ 30) :
    Rt Try.prog 23 [.slice mo m.length mc].toArray w fun v w' => v = .int .i64 m.sum ∧ Ext w w' := by
  refine Rt.enter1 Try.func23 Try.ntmps23 rfl rfl ?_
  (repeat (first | (apply WL.add; rfl; rfl; rfl; rfl; omega; omega) | (apply QL.add; rfl; rfl; rfl; rfl; omega; omega) | (apply WL.sub'; rfl; rfl; rfl; rfl; omega; omega) | (apply QL.sub'; rfl; rfl; rfl; rfl; omega; omega) | (apply WL.mul; rfl; rfl; rfl; rfl; omega; omega) | (apply QL.mul; rfl; rfl; rfl; rfl; omega; omega) | (apply WL.pure; rfl; rfl; rfl) | (apply QL.pure; rfl; rfl; rfl) | (apply WL.nil) | (apply EX.thenN) | (apply CW.seq) | (apply CW.region) | (apply WL.pass; rfl; rfl) | (apply QL.pass; rfl; rfl) | (apply WL.eqB; rfl; rfl; rfl; rfl) | (apply QL.eqB; rfl; rfl; rfl; rfl) | (apply WL.neB; rfl; rfl; rfl; rfl) | (apply QL.neB; rfl; rfl; rfl; rfl) | (apply WL.lenS; rfl; rfl; rfl) | (apply QL.lenS; rfl; rfl; rfl) | (apply WL.makeFunc; rfl; rfl; rfl; rfl) | (apply QL.makeFunc; rfl; rfl; rfl; rfl) | (apply WL.fa; rfl; rfl; rfl) | (apply QL.fa; rfl; rfl; rfl) | (apply WL.nck; rfl; rfl; rfl) | (apply QL.nck; rfl; rfl; rfl) | (apply WL.ld; rfl; rfl; rfl; assumption; rfl) | (apply QL.ld; rfl; rfl; rfl; assumption; rfl) | (apply WL.ldA; rfl; rfl; rfl; assumption; rfl) | (apply QL.ldA; rfl; rfl; rfl; assumption; rfl) | (apply CW.block) | (apply EX.inN) | (apply CW.condT; rfl) | (apply CW.condF; rfl) | (apply CW.exit) | (apply EX.thenX) | (apply EX.inX) | (apply EX.inXne; rfl) | (apply CW.ret) | (apply EX.thenR) | (apply EX.inR) | (apply CW.skip) | (refine WL.lenO rfl rfl rfl (by assumption) ?_) | (apply WL.isNil; rfl; rfl; rfl) | (apply CW.draw; exact mixed; kernel_rfl)))
  refine CW.loop (S := Nat) (fun i => [(3, .int .i64 (m.take i).sum), (6, .slice mo m.length mc), (7, .int .i64 m.length), (8, .int .i64 i)])
    (fun i w' => i ≤ m.length ∧ Ext w w') (fun i => m.length - i) 0 (by repeat (first | exact trivial | refine ⟨rfl, ?_⟩)) ⟨Nat.zero_le _, Ext.refl _⟩ ?_
  rintro i w1 ⟨hi, e1⟩
  (repeat (first | (apply WL.add; rfl; rfl; rfl; rfl; omega; omega) | (apply QL.add; rfl; rfl; rfl; rfl; omega; omega) | (apply WL.sub'; rfl; rfl; rfl; rfl; omega; omega) | (apply QL.sub'; rfl; rfl; rfl; rfl; omega; omega) | (apply WL.mul; rfl; rfl; rfl; rfl; omega; omega) | (apply QL.mul; rfl; rfl; rfl; rfl; omega; omega) | (apply WL.pure; rfl; rfl; rfl) | (apply QL.pure; rfl; rfl; rfl) | (apply WL.nil) | (apply EX.thenN) | (apply CW.seq) | (apply CW.region) | (apply WL.pass; rfl; rfl) | (apply QL.pass; rfl; rfl) | (apply WL.eqB; rfl; rfl; rfl; rfl) | (apply QL.eqB; rfl; rfl; rfl; rfl) | (apply WL.neB; rfl; rfl; rfl; rfl) | (apply QL.neB; rfl; rfl; rfl; rfl) | (apply WL.lenS; rfl; rfl; rfl) | (apply QL.lenS; rfl; rfl; rfl) | (apply WL.makeFunc; rfl; rfl; rfl; rfl) | (apply QL.makeFunc; rfl; rfl; rfl; rfl) | (apply WL.fa; rfl; rfl; rfl) | (apply QL.fa; rfl; rfl; rfl) | (apply WL.nck; rfl; rfl; rfl) | (apply QL.nck; rfl; rfl; rfl) | (apply WL.ld; rfl; rfl; rfl; assumption; rfl) | (apply QL.ld; rfl; rfl; rfl; assumption; rfl) | (apply WL.ldA; rfl; rfl; rfl; assumption; rfl) | (apply QL.ldA; rfl; rfl; rfl; assumption; rfl) | (apply CW.block) | (apply EX.inN) | (apply CW.condT; rfl) | (apply CW.condF; rfl) | (apply CW.exit) | (apply EX.thenX) | (apply EX.inX) | (apply EX.inXne; rfl) | (apply CW.ret) | (apply EX.thenR) | (apply EX.inR) | (apply CW.skip) | (refine WL.lenO rfl rfl rfl (by assumption) ?_) | (apply WL.isNil; rfl; rfl; rfl) | (apply CW.draw; exact mixed; kernel_rfl)))
  refine CW.cond rfl (fun h => ?_) (fun h => ?_)
  · have hi' : i < m.length := by simp at h; omega
    have h1 := sum_range h09 i hi
    have hj := h09 i
    rw [getDm_at hi'] at hj
    have hs : (m.take (i + 1)).sum = (m.take i).sum + m[i] := by rw [← List.take_append_getElem hi', List.sum_append, List.sum_cons, List.sum_nil]; omega
    (repeat (first | (apply WL.add; rfl; rfl; rfl; rfl; omega; omega) | (apply QL.add; rfl; rfl; rfl; rfl; omega; omega) | (apply WL.sub'; rfl; rfl; rfl; rfl; omega; omega) | (apply QL.sub'; rfl; rfl; rfl; rfl; omega; omega) | (apply WL.mul; rfl; rfl; rfl; rfl; omega; omega) | (apply QL.mul; rfl; rfl; rfl; rfl; omega; omega) | (apply WL.pure; rfl; rfl; rfl) | (apply QL.pure; rfl; rfl; rfl) | (apply WL.nil) | (apply EX.thenN) | (apply CW.seq) | (apply CW.region) | (apply WL.pass; rfl; rfl) | (apply QL.pass; rfl; rfl) | (apply WL.eqB; rfl; rfl; rfl; rfl) | (apply QL.eqB; rfl; rfl; rfl; rfl) | (apply WL.neB; rfl; rfl; rfl; rfl) | (apply QL.neB; rfl; rfl; rfl; rfl) | (apply WL.lenS; rfl; rfl; rfl) | (apply QL.lenS; rfl; rfl; rfl) | (apply WL.makeFunc; rfl; rfl; rfl; rfl) | (apply QL.makeFunc; rfl; rfl; rfl; rfl) | (apply WL.fa; rfl; rfl; rfl) | (apply QL.fa; rfl; rfl; rfl) | (apply WL.nck; rfl; rfl; rfl) | (apply QL.nck; rfl; rfl; rfl) | (apply WL.ld; rfl; rfl; rfl; assumption; rfl) | (apply QL.ld; rfl; rfl; rfl; assumption; rfl) | (apply WL.ldA; rfl; rfl; rfl; assumption; rfl) | (apply QL.ldA; rfl; rfl; rfl; assumption; rfl) | (apply CW.block) | (apply EX.inN) | (apply CW.condT; rfl) | (apply CW.condF; rfl) | (apply CW.exit) | (apply EX.thenX) | (apply EX.inX) | (apply EX.inXne; rfl) | (apply CW.ret) | (apply EX.thenR) | (apply EX.inR) | (apply CW.skip) | (refine WL.lenO rfl rfl rfl (by assumption) ?_) | (apply WL.isNil; rfl; rfl; rfl) | (apply CW.draw; exact mixed; kernel_rfl)))
    refine WL.elemI rfl rfl rfl rfl rfl (hm.up e1) hi' rfl (fun _ => rfl) (fun q => ?_)
    (repeat (first | (apply WL.add; rfl; rfl; rfl; rfl; omega; omega) | (apply QL.add; rfl; rfl; rfl; rfl; omega; omega) | (apply WL.sub'; rfl; rfl; rfl; rfl; omega; omega) | (apply QL.sub'; rfl; rfl; rfl; rfl; omega; omega) | (apply WL.mul; rfl; rfl; rfl; rfl; omega; omega) | (apply QL.mul; rfl; rfl; rfl; rfl; omega; omega) | (apply WL.pure; rfl; rfl; rfl) | (apply QL.pure; rfl; rfl; rfl) | (apply WL.nil) | (apply EX.thenN) | (apply CW.seq) | (apply CW.region) | (apply WL.pass; rfl; rfl) | (apply QL.pass; rfl; rfl) | (apply WL.eqB; rfl; rfl; rfl; rfl) | (apply QL.eqB; rfl; rfl; rfl; rfl) | (apply WL.neB; rfl; rfl; rfl; rfl) | (apply QL.neB; rfl; rfl; rfl; rfl) | (apply WL.lenS; rfl; rfl; rfl) | (apply QL.lenS; rfl; rfl; rfl) | (apply WL.makeFunc; rfl; rfl; rfl; rfl) | (apply QL.makeFunc; rfl; rfl; rfl; rfl) | (apply WL.fa; rfl; rfl; rfl) | (apply QL.fa; rfl; rfl; rfl) | (apply WL.nck; rfl; rfl; rfl) | (apply QL.nck; rfl; rfl; rfl) | (apply WL.ld; rfl; rfl; rfl; assumption; rfl) | (apply QL.ld; rfl; rfl; rfl; assumption; rfl) | (apply WL.ldA; rfl; rfl; rfl; assumption; rfl) | (apply QL.ldA; rfl; rfl; rfl; assumption; rfl) | (apply CW.block) | (apply EX.inN) | (apply CW.condT; rfl) | (apply CW.condF; rfl) | (apply CW.exit) | (apply EX.thenX) | (apply EX.inX) | (apply EX.inXne; rfl) | (apply CW.ret) | (apply EX.thenR) | (apply EX.inR) | (apply CW.skip) | (refine WL.lenO rfl rfl rfl (by assumption) ?_) | (apply WL.isNil; rfl; rfl; rfl) | (apply CW.draw; exact mixed; kernel_rfl)))
    rw [← hs]
    exact EX.back (i + 1) (by repeat (first | exact trivial | refine ⟨rfl, ?_⟩)) ⟨hi', e1⟩ (by omega)
  · obtain rfl : i = m.length := by simp at h; omega
    rw [List.take_length]
    (repeat (first | (apply WL.add; rfl; rfl; rfl; rfl; omega; omega) | (apply QL.add; rfl; rfl; rfl; rfl; omega; omega) | (apply WL.sub'; rfl; rfl; rfl; rfl; omega; omega) | (apply QL.sub'; rfl; rfl; rfl; rfl; omega; omega) | (apply WL.mul; rfl; rfl; rfl; rfl; omega; omega) | (apply QL.mul; rfl; rfl; rfl; rfl; omega; omega) | (apply WL.pure; rfl; rfl; rfl) | (apply QL.pure; rfl; rfl; rfl) | (apply WL.nil) | (apply EX.thenN) | (apply CW.seq) | (apply CW.region) | (apply WL.pass; rfl; rfl) | (apply QL.pass; rfl; rfl) | (apply WL.eqB; rfl; rfl; rfl; rfl) | (apply QL.eqB; rfl; rfl; rfl; rfl) | (apply WL.neB; rfl; rfl; rfl; rfl) | (apply QL.neB; rfl; rfl; rfl; rfl) | (apply WL.lenS; rfl; rfl; rfl) | (apply QL.lenS; rfl; rfl; rfl) | (apply WL.makeFunc; rfl; rfl; rfl; rfl) | (apply QL.makeFunc; rfl; rfl; rfl; rfl) | (apply WL.fa; rfl; rfl; rfl) | (apply QL.fa; rfl; rfl; rfl) | (apply WL.nck; rfl; rfl; rfl) | (apply QL.nck; rfl; rfl; rfl) | (apply WL.ld; rfl; rfl; rfl; assumption; rfl) | (apply QL.ld; rfl; rfl; rfl; assumption; rfl) | (apply WL.ldA; rfl; rfl; rfl; assumption; rfl) | (apply QL.ldA; rfl; rfl; rfl; assumption; rfl) | (apply CW.block) | (apply EX.inN) | (apply CW.condT; rfl) | (apply CW.condF; rfl) | (apply CW.exit) | (apply EX.thenX) | (apply EX.inX) | (apply EX.inXne; rfl) | (apply CW.ret) | (apply EX.thenR) | (apply EX.inR) | (apply CW.skip) | (refine WL.lenO rfl rfl rfl (by assumption) ?_) | (apply WL.isNil; rfl; rfl; rfl) | (apply CW.draw; exact mixed; kernel_rfl)))
    exact EX.ret1 rfl rfl ⟨rfl, e1⟩
theorem straight_fire : fireE straightP [1, 0] 0 = ([0, 1], 0) := by
  have hz : (stepsE straightP).2 = 0 := by rw [straight_steps]
  have hl : stepsL straightP = [(1, 0, 1), (2, 1, 0)] := by decide
  have hm : chkM straightP [1, 0] = 0 := markOk_chk hz ⟨rfl, fun j => by
    rcases j with _ | _ | j
    · decide
    · decide
    · exact ⟨Int.le_refl _, (by decide : (0 : Int) ≤ 9)⟩⟩
  unfold fireE
  rw [if_neg (by simp [hm]), hl, if_neg (by decide), if_neg (by decide)]
  decide
theorem getDG_atM {l : List (List Int)} {j : Nat} (h : j < l.length) : l.getD j [] = l[j] := by rw [List.getD_eq_getElem?_getD, List.getElem?_eq_getElem h]; rfl
theorem steps_at {p : LProc} {k : Int} (h0 : 0 ≤ k) (h1 : k < (stepsL p).length) : ∃ n, n < p.1.length ∧ (stepsL p).getD k.toNat (0, 0, 0) ∈ stepsN p n := by
  rw [stepsL_at (by omega)]
  exact stepsP_mem.1 (List.getElem_mem _)
theorem putN_range {n : Int} : ∀ c : Nat, 0 ≤ putN n 0 c ∧ putN n 0 c ≤ c
  | 0 => by simp [putN]
  | c + 1 => by
    have := putN_range (n := n) c
    have := bitK_01 n c
    rw [putN_last]; omega
end Go.Proofs.Ytljcnopekjinjaa
/-
  Package scc: what turn, far and Way compute, in plain Lean.
-/
set_option linter.unusedVariables false
set_option linter.unusedSimpArgs false
namespace Go.Proofs.Ytljcnopekjinjaa

/- TURN -/
/-- who leads to m: of the rows before n, and of row n's first j -/
def trow (g : List (List Int)) (n j : Nat) (m : Nat) : List Int :=
  ((List.range n).filter (fun k => (g.getD k []).contains (m : Int))).map (fun k : Nat => (k : Int)) ++ (if ((g.getD n []).take j).contains (m : Int) then [(n : Int)] else [])
def turnP (g : List (List Int)) (n j : Nat) : List (List Int) := (List.range g.length).map (trow g n j)
def turnL (g : List (List Int)) : List (List Int) := turnP g g.length 0
theorem turnP_len (g : List (List Int)) (n j : Nat) : (turnP g n j).length = g.length := by simp [turnP]
theorem turnP_get {g : List (List Int)} {n j i : Nat} (h : i < (turnP g n j).length) : (turnP g n j)[i] = trow g n j i := by simp [turnP]
theorem trow_len (g : List (List Int)) (n j m : Nat) : (trow g n j m).length ≤ n + 1 := by
  unfold trow
  have h1 := List.length_filter_le (fun k => (g.getD k []).contains (m : Int)) (List.range n)
  rw [List.length_range] at h1
  rw [List.length_append, List.length_map]
  split
  · simp only [List.length_singleton]; omega
  · simp only [List.length_nil]; omega
theorem trow_start (g : List (List Int)) (m : Nat) : trow g 0 0 m = [] := by simp [trow]
theorem turnP_start (g : List (List Int)) : turnP g 0 0 = List.replicate g.length [] := by
  apply List.ext_getElem (by simp [turnP])
  intro i h1 h2
  rw [turnP_get, trow_start]; simp
theorem trow_next {g : List (List Int)} {n : Nat} (m : Nat) : trow g (n + 1) 0 m = trow g n (g.getD n []).length m := by
  unfold trow
  rw [List.take_length, List.take_zero, List.range_succ, List.filter_append, List.map_append]
  cases h : (g.getD n []).contains (m : Int) <;> simp at h <;> simp [h]
theorem turnP_next {g : List (List Int)} {n : Nat} : turnP g (n + 1) 0 = turnP g n (g.getD n []).length := by
  unfold turnP; congr 1; funext m; exact trow_next m
theorem take_next {l : List Int} {j : Nat} (h : j < l.length) (x : Int) : (l.take (j + 1)).contains x = ((l.take j).contains x || x == l[j]) := by
  rw [List.take_succ_eq_append_getElem h, List.contains_eq_any_beq, List.contains_eq_any_beq, List.any_append]
  simp
theorem trow_new {g : List (List Int)} {n j m : Nat} (hj : j < (g.getD n []).length) (hm : (g.getD n [])[j] = (m : Int)) (hn : ((g.getD n []).take j).contains (m : Int) = false) : trow g n (j + 1) m = trow g n j m ++ [(n : Int)] := by
  unfold trow
  rw [take_next hj, hn, hm]; simp
theorem trow_old {g : List (List Int)} {n j m : Nat} (hj : j < (g.getD n []).length) (hn : ((g.getD n []).take j).contains (m : Int) = true) : trow g n (j + 1) m = trow g n j m := by
  unfold trow
  rw [take_next hj, hn]; simp
theorem trow_other {g : List (List Int)} {n j m : Nat} (hj : j < (g.getD n []).length) (hm : (g.getD n [])[j] ≠ (m : Int)) : trow g n (j + 1) m = trow g n j m := by
  unfold trow
  rw [take_next hj]
  have : ((m : Int) == (g.getD n [])[j]) = false := by rw [beq_eq_false_iff_ne]; exact Ne.symm hm
  rw [this, Bool.or_false]
/-- its last one is n just if n was put there -/
theorem trow_last {g : List (List Int)} {n j m : Nat} (h : 0 < (trow g n j m).length) : ((trow g n j m)[(trow g n j m).length - 1] = (n : Int)) ↔ ((g.getD n []).take j).contains (m : Int) = true := by
  have hl : (trow g n j m)[(trow g n j m).length - 1] = (trow g n j m).getLast (List.ne_nil_of_length_pos h) := by rw [List.getLast_eq_getElem]
  rw [hl]
  constructor
  · intro e
    apply Classical.byContradiction
    intro hc
    have hc' : ((g.getD n []).take j).contains (m : Int) = false := by simpa using hc
    have : (n : Int) ∈ trow g n j m := by rw [← e]; exact List.getLast_mem _
    unfold trow at this
    rw [hc'] at this
    simp at this
    omega
  · intro hc
    have : trow g n j m = ((List.range n).filter (fun k => (g.getD k []).contains (m : Int))).map (fun k : Nat => (k : Int)) ++ [(n : Int)] := by unfold trow; rw [if_pos hc]
    simp only [this]
    simp
theorem trow_nil {g : List (List Int)} {n j m : Nat} (h : (trow g n j m).length = 0) : ((g.getD n []).take j).contains (m : Int) = false := by
  cases hc : ((g.getD n []).take j).contains (m : Int)
  · rfl
  · unfold trow at h; rw [if_pos hc] at h; simp at h
theorem turnP_set {g : List (List Int)} {n j : Nat} (hj : j < (g.getD n []).length) {m : Nat} (hm : (g.getD n [])[j] = (m : Int)) (hmg : m < g.length) (hn : ((g.getD n []).take j).contains (m : Int) = false) :
    (turnP g n j).set m (trow g n j m ++ [(n : Int)]) = turnP g n (j + 1) := by
  apply List.ext_getElem (by simp [turnP])
  intro i h1 h2
  rw [List.getElem_set]
  by_cases e : m = i
  · subst e; rw [if_pos rfl, turnP_get, trow_new hj hm hn]
  · rw [if_neg e, turnP_get, turnP_get, trow_other hj (by rw [hm]; omega)]
theorem turnP_same {g : List (List Int)} {n j : Nat} (hj : j < (g.getD n []).length) {m : Nat} (hm : (g.getD n [])[j] = (m : Int)) (hn : ((g.getD n []).take j).contains (m : Int) = true) : turnP g n j = turnP g n (j + 1) := by
  apply List.ext_getElem (by simp [turnP])
  intro i h1 h2
  rw [turnP_get, turnP_get]
  by_cases e : m = i
  · subst e; rw [trow_old hj hn]
  · rw [trow_other hj (by rw [hm]; omega)]
theorem turnL_len (g : List (List Int)) : (turnL g).length = g.length := turnP_len _ _ _
theorem turnL_mem {g : List (List Int)} {m k : Nat} (hm : m < g.length) : (k : Int) ∈ (turnL g).getD m [] ↔ k < g.length ∧ (m : Int) ∈ g.getD k [] := by
  have : (turnL g).getD m [] = trow g g.length 0 m := by
    rw [List.getD_eq_getElem?_getD, List.getElem?_eq_getElem (by rw [turnL_len]; exact hm)]
    exact turnP_get _
  rw [this]
  unfold trow
  simp
  constructor
  · rintro ⟨a, ⟨h1, h2⟩, h3⟩
    have : a = k := by omega
    subst this; exact ⟨h1, h2⟩
  · rintro ⟨h1, h2⟩
    exact ⟨k, ⟨h1, h2⟩, rfl⟩
theorem turnL_ok (g : List (List Int)) : okG (turnL g) := by
  intro l hl x hx
  obtain ⟨m, hm, rfl⟩ := List.mem_iff_getElem.1 hl
  rw [turnL_len] at hm ⊢
  have e : (turnL g)[m]'(by rw [turnL_len]; exact hm) = trow g g.length 0 m := turnP_get _
  rw [e] at hx
  unfold trow at hx
  simp at hx
  obtain ⟨k, ⟨h1, _⟩, rfl⟩ := hx
  omega

/- FAR -/
def farStep (n : Int) (s : List Int × List Int) (k : Int) : List Int × List Int := if s.1.getD k.toNat 0 < 0 then (s.1.set k.toNat (s.1.getD n.toNat 0 + 1), s.2 ++ [k]) else s
def farGo (back : List (List Int)) : Nat → List Int → List Int → List Int
  | 0, d, _ => d
  | _ + 1, d, [] => d
  | f + 1, d, n :: r => farGo back f ((back.getD n.toNat []).foldl (farStep n) (d, r)).1 ((back.getD n.toNat []).foldl (farStep n) (d, r)).2
def farD (to : List Bool) : List Int := to.map fun b => if b then 0 else -1
def farN (to : List Bool) (n : Nat) : List Int := ((List.range n).filter (fun k => to.getD k false)).map fun k : Nat => (k : Int)
def farL (g : List (List Int)) (to : List Bool) : List Int := farGo (turnL g) (2 * g.length + 2) (farD to) (farN to to.length)
def negs (d : List Int) : Nat := d.countP fun x => decide (x < 0)
theorem negs_set {d : List Int} {k : Nat} {v : Int} (hk : k < d.length) (h : d[k] < 0) (hv : 0 ≤ v) : negs (d.set k v) + 1 = negs d := by
  unfold negs
  have e : d = d.take k ++ d[k] :: d.drop (k + 1) := by simp
  have e2 : d.set k v = d.take k ++ v :: d.drop (k + 1) := by rw [List.set_eq_take_append_cons_drop, if_pos hk]
  rw [e2]
  conv => rhs; rw [e]
  simp only [List.countP_append, List.countP_cons, h, decide_true, if_true]
  have : decide (v < 0) = false := by simp; omega
  rw [this]; simp; omega
/-- while one goes: what is marked stands; a number above 0 has one less beside it; who is done has all behind it numbered -/
structure FInv (g : List (List Int)) (to : List Bool) (d now : List Int) (cur : Option (Nat × Nat)) : Prop where
  len : d.length = g.length
  tol : to.length = g.length
  ge : ∀ n (h : n < d.length), -1 ≤ d[n]
  le : ∀ n (h : n < d.length), d[n] + negs d + 1 ≤ g.length
  zero : ∀ n (h : n < d.length), d[n] = 0 ↔ to.getD n false = true
  pos : ∀ n (h : n < d.length), 0 < d[n] → ∃ m, ∃ hm : m < d.length, (m : Int) ∈ g.getD n [] ∧ d[m] = d[n] - 1
  inN : ∀ x ∈ now, 0 ≤ x ∧ x < g.length
  nowd : ∀ x ∈ now, 0 ≤ d.getD x.toNat (-1)
  done : ∀ m (h : m < d.length), 0 ≤ d[m] → (m : Int) ∈ now ∨ (∃ j, cur = some (m, j)) ∨ ∀ k (hk : k < d.length), (m : Int) ∈ g.getD k [] → 0 ≤ d[k]
  curd : ∀ m j, cur = some (m, j) → ∃ hm : m < d.length, 0 ≤ d[m] ∧ ∀ x ∈ ((turnL g).getD m []).take j, 0 ≤ d.getD x.toNat (-1)
theorem getD_at {d : List Int} {n : Nat} {x : Int} (h : n < d.length) : d.getD n x = d[n] := by rw [List.getD_eq_getElem?_getD, List.getElem?_eq_getElem h]; rfl
theorem FInv.step {g : List (List Int)} {to : List Bool} {d now : List Int} {m j : Nat} (h : FInv g to d now (some (m, j))) (hj : j < ((turnL g).getD m []).length) {k : Int} (hk : ((turnL g).getD m [])[j] = k) :
    FInv g to (farStep m (d, now) k).1 (farStep m (d, now) k).2 (some (m, j + 1)) ∧ (farStep m (d, now) k).2.length + negs (farStep m (d, now) k).1 = now.length + negs d := by
  obtain ⟨hm, hdm, hpre⟩ := h.curd m j rfl
  have hml : m < g.length := by rw [← h.len]; exact hm
  have hrow : ((turnL g).getD m []) ∈ turnL g := by
    rw [List.getD_eq_getElem?_getD, List.getElem?_eq_getElem (by rw [turnL_len]; exact hml)]
    exact List.getElem_mem _
  have hk2 : 0 ≤ k ∧ k < g.length := by
    have := turnL_ok g _ hrow k (hk ▸ List.getElem_mem _)
    rwa [turnL_len] at this
  obtain ⟨kn, rfl⟩ := Int.eq_ofNat_of_zero_le hk2.1
  have hkn : kn < g.length := by omega
  have hkd : kn < d.length := by rw [h.len]; exact hkn
  have hmem : (m : Int) ∈ g.getD kn [] := ((turnL_mem hml).1 (hk ▸ List.getElem_mem hj)).2
  have htk : ∀ x, x ∈ ((turnL g).getD m []).take (j + 1) → x ∈ ((turnL g).getD m []).take j ∨ x = (kn : Int) := by
    intro x hx
    rw [List.take_succ_eq_append_getElem hj, hk] at hx
    simpa using hx
  unfold farStep
  simp only [Int.toNat_natCast]
  rw [getD_at hkd, getD_at hm]
  split
  · rename_i hneg
    have hne : m ≠ kn := fun e => by subst e; omega
    have hn := negs_set hkd hneg (v := d[m] + 1) (by omega)
    have hget : ∀ n (hn : n < (d.set kn (d[m] + 1)).length), (d.set kn (d[m] + 1))[n] = if kn = n then d[m] + 1 else d[n]'(by rw [List.length_set] at hn; exact hn) := fun n hn => List.getElem_set ..
    have hup : ∀ x, 0 ≤ d.getD x (-1) → 0 ≤ (d.set kn (d[m] + 1)).getD x (-1) := by
      intro x hx
      by_cases hxl : x < d.length
      · rw [getD_at (by rw [List.length_set]; exact hxl), hget]
        split
        · omega
        · rwa [getD_at hxl] at hx
      · rw [List.getD_eq_getElem?_getD, List.getElem?_eq_none (by omega)] at hx
        simp at hx
    refine ⟨⟨by rw [List.length_set]; exact h.len, h.tol, ?_, ?_, ?_, ?_, ?_, ?_, ?_, ?_⟩, by simp only [List.length_append, List.length_singleton]; omega⟩
    · intro n hn2
      rw [hget]
      split
      · omega
      · exact h.ge n _
    · intro n hn2
      rw [List.length_set] at hn2
      rw [hget]
      have h1 := h.le m hm
      have h2 := h.le n hn2
      dsimp only
      split <;> omega
    · intro n hn2
      rw [List.length_set] at hn2
      rw [hget]
      split
      · rename_i e
        subst e
        have := h.zero kn hkd
        constructor
        · intro e; omega
        · intro e; have := this.2 e; omega
      · exact h.zero n hn2
    · intro n hn2 hp
      rw [List.length_set] at hn2
      rw [hget] at hp ⊢
      split at hp
      · rename_i e
        subst e
        rw [if_pos rfl]
        refine ⟨m, by rw [List.length_set]; exact hm, hmem, ?_⟩
        rw [hget, if_neg (Ne.symm hne)]; omega
      · rename_i e
        rw [if_neg e]
        obtain ⟨m2, h1, h2, h3⟩ := h.pos n hn2 hp
        refine ⟨m2, by rw [List.length_set]; exact h1, h2, ?_⟩
        rw [hget, if_neg (fun e => by subst e; omega)]; exact h3
    · intro x hx
      rw [List.mem_append, List.mem_singleton] at hx
      rcases hx with hx | rfl
      · exact h.inN x hx
      · omega
    · intro x hx
      rw [List.mem_append, List.mem_singleton] at hx
      rcases hx with hx | rfl
      · exact hup _ (h.nowd x hx)
      · rw [Int.toNat_natCast, getD_at (by rw [List.length_set]; exact hkd), hget, if_pos rfl]; omega
    · intro m' hm' hp
      rw [List.length_set] at hm'
      rw [hget] at hp
      split at hp
      · rename_i e; subst e; exact .inl (by simp)
      · rcases h.done m' hm' hp with h1 | ⟨j', h1⟩ | h1
        · exact .inl (List.mem_append_left _ h1)
        · simp only [Option.some.injEq, Prod.mk.injEq] at h1
          exact .inr (.inl ⟨j + 1, by rw [h1.1]⟩)
        · refine .inr (.inr fun k2 hk2 hmk => ?_)
          rw [List.length_set] at hk2
          rw [hget]
          split
          · omega
          · exact h1 k2 hk2 hmk
    · intro m2 j2 e
      simp only [Option.some.injEq, Prod.mk.injEq] at e
      obtain ⟨rfl, rfl⟩ := e
      refine ⟨by rw [List.length_set]; exact hm, by rw [hget, if_neg (Ne.symm hne)]; exact hdm, fun x hx => ?_⟩
      rcases htk x hx with hx | rfl
      · exact hup _ (hpre x hx)
      · rw [Int.toNat_natCast, getD_at (by rw [List.length_set]; exact hkd), hget, if_pos rfl]; omega
  · rename_i hpos
    refine ⟨⟨h.len, h.tol, h.ge, h.le, h.zero, h.pos, h.inN, h.nowd, ?_, ?_⟩, rfl⟩
    · intro m' hm' hp
      rcases h.done m' hm' hp with h1 | ⟨j', h1⟩ | h1
      · exact .inl h1
      · simp only [Option.some.injEq, Prod.mk.injEq] at h1
        exact .inr (.inl ⟨j + 1, by rw [h1.1]⟩)
      · exact .inr (.inr h1)
    · intro m2 j2 e
      simp only [Option.some.injEq, Prod.mk.injEq] at e
      obtain ⟨rfl, rfl⟩ := e
      refine ⟨hm, hdm, fun x hx => ?_⟩
      rcases htk x hx with hx | rfl
      · exact hpre x hx
      · rw [Int.toNat_natCast, getD_at hkd]; omega
theorem FInv.steps {g : List (List Int)} {to : List Bool} {d now : List Int} {m : Nat} (h : FInv g to d now (some (m, 0))) : ∀ j, j ≤ ((turnL g).getD m []).length →
    FInv g to ((((turnL g).getD m []).take j).foldl (farStep m) (d, now)).1 ((((turnL g).getD m []).take j).foldl (farStep m) (d, now)).2 (some (m, j)) ∧
    ((((turnL g).getD m []).take j).foldl (farStep m) (d, now)).2.length + negs ((((turnL g).getD m []).take j).foldl (farStep m) (d, now)).1 = now.length + negs d
  | 0, _ => by simp only [List.take_zero, List.foldl_nil]; exact ⟨h, trivial⟩
  | j + 1, hj => by
    obtain ⟨h1, h2⟩ := FInv.steps h j (by omega)
    rw [List.take_succ_eq_append_getElem (by omega), List.foldl_append, List.foldl_cons, List.foldl_nil]
    obtain ⟨h3, h4⟩ := h1.step (by omega) rfl
    exact ⟨h3, by rw [h4, h2]⟩
theorem FInv.over {g : List (List Int)} {to : List Bool} {d now : List Int} {m : Nat} (h : FInv g to d now (some (m, ((turnL g).getD m []).length))) : FInv g to d now none := by
  obtain ⟨hm, hdm, hpre⟩ := h.curd m _ rfl
  refine ⟨h.len, h.tol, h.ge, h.le, h.zero, h.pos, h.inN, h.nowd, ?_, fun _ _ e => by cases e⟩
  intro m' hm' hp
  rcases h.done m' hm' hp with h1 | ⟨j', h1⟩ | h1
  · exact .inl h1
  · simp only [Option.some.injEq, Prod.mk.injEq] at h1
    obtain ⟨rfl, _⟩ := h1
    refine .inr (.inr fun k hk hmk => ?_)
    rw [List.take_length] at hpre
    have := hpre (k : Int) ((turnL_mem (by rw [← h.len]; exact hm)).2 ⟨by rw [← h.len]; exact hk, hmk⟩)
    rwa [Int.toNat_natCast, getD_at hk] at this
  · exact .inr (.inr h1)
theorem FInv.pop {g : List (List Int)} {to : List Bool} {d r : List Int} {n : Int} (h : FInv g to d (n :: r) none) : ∃ m : Nat, n = (m : Int) ∧ m < g.length ∧ FInv g to d r (some (m, 0)) := by
  have hn := h.inN n (by simp)
  obtain ⟨m, rfl⟩ := Int.eq_ofNat_of_zero_le hn.1
  have hm : m < d.length := by rw [h.len]; omega
  refine ⟨m, rfl, by omega, h.len, h.tol, h.ge, h.le, h.zero, h.pos, fun x hx => h.inN x (by simp [hx]), fun x hx => h.nowd x (by simp [hx]), ?_, ?_⟩
  · intro m' hm' hp
    rcases h.done m' hm' hp with h1 | ⟨j', h1⟩ | h1
    · rcases List.mem_cons.1 h1 with h1 | h1
      · exact .inr (.inl ⟨0, by rw [show m' = m by omega]⟩)
      · exact .inl h1
    · cases h1
    · exact .inr (.inr h1)
  · intro m2 j2 e
    simp only [Option.some.injEq, Prod.mk.injEq] at e
    obtain ⟨rfl, rfl⟩ := e
    refine ⟨hm, ?_, fun x hx => by simp at hx⟩
    have := h.nowd m (by simp)
    rwa [Int.toNat_natCast, getD_at hm] at this
theorem farGo_fuel {g : List (List Int)} {to : List Bool} : ∀ (f f' : Nat) (d now : List Int), FInv g to d now none → now.length + negs d ≤ f → now.length + negs d ≤ f' → farGo (turnL g) f d now = farGo (turnL g) f' d now
  | 0, f', d, now, h, h1, h2 => by
    have : now = [] := List.eq_nil_of_length_eq_zero (by omega)
    subst this
    cases f' <;> rfl
  | f + 1, 0, d, now, h, h1, h2 => by
    have : now = [] := List.eq_nil_of_length_eq_zero (by omega)
    subst this
    rfl
  | f + 1, f' + 1, d, [], h, h1, h2 => rfl
  | f + 1, f' + 1, d, n :: r, h, h1, h2 => by
    obtain ⟨m, rfl, hm, hp⟩ := h.pop
    obtain ⟨h3, h4⟩ := hp.steps _ (Nat.le_refl _)
    have h5 := h3.over
    rw [List.take_length] at h4 h5
    simp only [List.length_cons] at h1 h2
    unfold farGo
    rw [Int.toNat_natCast]
    exact farGo_fuel f f' _ _ h5 (by omega) (by omega)
theorem farGo_inv {g : List (List Int)} {to : List Bool} : ∀ (f : Nat) (d now : List Int), FInv g to d now none → now.length + negs d ≤ f → FInv g to (farGo (turnL g) f d now) [] none
  | 0, d, now, h, h1 => by
    have : now = [] := List.eq_nil_of_length_eq_zero (by omega)
    subst this
    exact h
  | f + 1, d, [], h, h1 => h
  | f + 1, d, n :: r, h, h1 => by
    obtain ⟨m, rfl, hm, hp⟩ := h.pop
    obtain ⟨h3, h4⟩ := hp.steps _ (Nat.le_refl _)
    have h5 := h3.over
    rw [List.take_length] at h4 h5
    simp only [List.length_cons] at h1
    unfold farGo
    rw [Int.toNat_natCast]
    exact farGo_inv f _ _ h5 (by omega)
theorem farD_get {to : List Bool} {n : Nat} (h : n < (farD to).length) : (farD to)[n] = if to.getD n false = true then 0 else -1 := by
  have h' : n < to.length := by simpa [farD] using h
  simp [farD, List.getD_eq_getElem?_getD, h']
theorem farD_negs (to : List Bool) : negs (farD to) + (to.countP fun b => b) = to.length := by
  unfold negs farD
  rw [List.countP_map, List.length_eq_countP_add_countP (fun b => b) (l := to), Nat.add_comm]
  congr 1
  apply List.countP_congr
  intro x _
  cases x <;> simp
theorem farN_len (to : List Bool) (n : Nat) : (farN to n).length ≤ n := by
  unfold farN
  rw [List.length_map]
  have := List.length_filter_le (fun k => to.getD k false) (List.range n)
  rwa [List.length_range] at this
theorem FInv.start {g : List (List Int)} {to : List Bool} (h : to.length = g.length) : FInv g to (farD to) (farN to to.length) none := by
  have hl : (farD to).length = g.length := by simp [farD, h]
  have hneg := farD_negs to
  refine ⟨hl, h, ?_, ?_, ?_, ?_, ?_, ?_, ?_, fun _ _ e => by cases e⟩
  · intro n hn; rw [farD_get]; split <;> omega
  · intro n hn
    rw [farD_get]
    split
    · rename_i ht
      have : 0 < to.countP fun b => b := by
        rw [List.countP_pos_iff]
        have hn' : n < to.length := by omega
        refine ⟨to[n], List.getElem_mem _, ?_⟩
        rw [List.getD_eq_getElem?_getD, List.getElem?_eq_getElem hn'] at ht
        exact ht
      omega
    · omega
  · intro n hn; rw [farD_get]; split <;> simp_all
  · intro n hn hp; rw [farD_get] at hp; split at hp <;> omega
  · intro x hx; simp [farN] at hx; obtain ⟨k, ⟨h1, _⟩, rfl⟩ := hx; omega
  · intro x hx
    simp [farN] at hx
    obtain ⟨k, ⟨h1, h2⟩, rfl⟩ := hx
    rw [Int.toNat_natCast, getD_at (by omega), farD_get, if_pos (by simpa using h2)]; omega
  · intro m hm hp
    rw [farD_get] at hp
    split at hp
    · rename_i ht
      refine .inl ?_
      simp [farN]
      exact ⟨m, ⟨by omega, by simpa using ht⟩, rfl⟩
    · omega
theorem farL_inv {g : List (List Int)} {to : List Bool} (h : to.length = g.length) : FInv g to (farL g to) [] none := by
  refine farGo_inv _ _ _ (FInv.start h) ?_
  have := farD_negs to
  have := farN_len to to.length
  omega

/- WAY -/
def dAt (d : List Int) (x : Int) : Int := d.getD x.toNat 0
def pickB (d : List Int) (at' n : Int) : Bool := decide (0 ≤ dAt d n) && (decide (at' < 0) || (decide (dAt d n < dAt d at') || (decide (dAt d n = dAt d at') && decide (n < at'))))
def wayPick (d : List Int) (l : List Int) : Int := l.foldl (fun at' n => if pickB d at' n then n else at') (-1)
def nextB (d : List Int) (at' nx n : Int) : Bool := decide (dAt d n = dAt d at' - 1) && (decide (nx < 0) || decide (n < nx))
def wayNext (d : List Int) (at' : Int) (row : List Int) : Int := row.foldl (fun nx n => if nextB d at' nx n then n else nx) (-1)
def wayGo (g : List (List Int)) (d : List Int) : Nat → Int → List Int
  | 0, a => [a]
  | f + 1, a => if 0 < dAt d a then a :: wayGo g d f (wayNext d a (g.getD a.toNat [])) else [a]
def wayF (g : List (List Int)) (from' : List Int) (to : List Bool) : List Int × Bool × Int :=
  if chkG g ≠ 0 then ([], false, chkG g) else if oddB g.length from' = true ∨ to.length ≠ g.length then ([], false, 1) else
  if wayPick (farL g to) from' < 0 then ([], false, 0) else (wayGo g (farL g to) g.length (wayPick (farL g to) from'), true, 0)
theorem pick_spec {d : List Int} : ∀ (l : List Int), (∀ x ∈ l, 0 ≤ x) → (wayPick d l = -1 ∧ ∀ x ∈ l, dAt d x < 0) ∨ (wayPick d l ∈ l ∧ 0 ≤ dAt d (wayPick d l)) := by
  have key : ∀ (l pre : List Int) (a : Int), (∀ x ∈ l, 0 ≤ x) → ((a = -1 ∧ ∀ x ∈ pre, dAt d x < 0) ∨ (a ∈ pre ∧ 0 ≤ a ∧ 0 ≤ dAt d a)) →
      ((l.foldl (fun at' n => if pickB d at' n then n else at') a = -1 ∧ ∀ x ∈ pre ++ l, dAt d x < 0) ∨ (l.foldl (fun at' n => if pickB d at' n then n else at') a ∈ pre ++ l ∧ 0 ≤ dAt d (l.foldl (fun at' n => if pickB d at' n then n else at') a))) := by
    intro l
    induction l with
    | nil => intro pre a _ h; simpa using h.imp id (fun h => ⟨h.1, h.2.2⟩)
    | cons x l ih =>
      intro pre a hl h
      have := ih (pre ++ [x]) (if pickB d a x then x else a) (fun y hy => hl y (by simp [hy])) (by
        have hx := hl x (by simp)
        rcases h with ⟨rfl, h2⟩ | ⟨h1, h2, h3⟩
        · by_cases h0 : 0 ≤ dAt d x
          · rw [if_pos (by simp [pickB, h0])]
            exact .inr ⟨by simp, hx, h0⟩
          · rw [if_neg (by simp [pickB, h0])]
            refine .inl ⟨rfl, fun y hy => ?_⟩
            rw [List.mem_append, List.mem_singleton] at hy
            rcases hy with hy | rfl
            · exact h2 y hy
            · omega
        · split
          · rename_i hp
            simp only [pickB, Bool.and_eq_true, decide_eq_true_eq] at hp
            exact .inr ⟨by simp, hx, hp.1⟩
          · exact .inr ⟨by simp [h1], h2, h3⟩)
      simpa using this
  intro l hl
  have := key l [] (-1) hl (.inl ⟨rfl, by simp⟩)
  simpa [wayPick] using this
theorem next_spec {d : List Int} {a : Int} (row : List Int) (hr : ∀ x ∈ row, 0 ≤ x) (h : ∃ m ∈ row, dAt d m = dAt d a - 1) : wayNext d a row ∈ row ∧ dAt d (wayNext d a row) = dAt d a - 1 := by
  have key : ∀ (l pre : List Int) (nx : Int), (∀ x ∈ l, 0 ≤ x) → ((nx = -1 ∧ ∀ x ∈ pre, dAt d x ≠ dAt d a - 1) ∨ (nx ∈ pre ∧ dAt d nx = dAt d a - 1)) →
      ((l.foldl (fun nx n => if nextB d a nx n then n else nx) nx = -1 ∧ ∀ x ∈ pre ++ l, dAt d x ≠ dAt d a - 1) ∨ (l.foldl (fun nx n => if nextB d a nx n then n else nx) nx ∈ pre ++ l ∧ dAt d (l.foldl (fun nx n => if nextB d a nx n then n else nx) nx) = dAt d a - 1)) := by
    intro l
    induction l with
    | nil => intro pre nx _ h; simpa using h
    | cons x l ih =>
      intro pre nx hl h
      have := ih (pre ++ [x]) (if nextB d a nx x then x else nx) (fun y hy => hl y (by simp [hy])) (by
        rcases h with ⟨rfl, h2⟩ | ⟨h1, h2⟩
        · by_cases h0 : dAt d x = dAt d a - 1
          · rw [if_pos (by simp [nextB, h0])]
            exact .inr ⟨by simp, h0⟩
          · rw [if_neg (by simp [nextB, h0])]
            refine .inl ⟨rfl, fun y hy => ?_⟩
            rw [List.mem_append, List.mem_singleton] at hy
            rcases hy with hy | rfl
            · exact h2 y hy
            · exact h0
        · split
          · rename_i hp
            simp only [nextB, Bool.and_eq_true, decide_eq_true_eq] at hp
            exact .inr ⟨by simp, hp.1⟩
          · exact .inr ⟨by simp [h1], h2⟩)
      simpa using this
  have := key row [] (-1) hr (.inl ⟨rfl, by simp⟩)
  simp only [List.nil_append] at this
  rcases this with ⟨_, h2⟩ | h2
  · obtain ⟨m, hm, he⟩ := h; exact absurd he (h2 m hm)
  · exact h2
/-- a list that is the way from a -/
structure WayOK (g : List (List Int)) (d : List Int) (l : List Int) (a : Int) : Prop where
  len : (l.length : Int) = dAt d a + 1
  hd : l[0]? = some a
  at' : ∀ i (hi : i < l.length), dAt d l[i] = dAt d a - i
  inR : ∀ i (hi : i < l.length), 0 ≤ l[i] ∧ l[i] < g.length
  go : ∀ i (hi : i < l.length) (f' : Nat), dAt d l[i] ≤ f' → wayGo g d f' l[i] = l.drop i
  edge : ∀ i (hi : i < l.length) (hp : 0 < i), l[i] ∈ g.getD (l[i - 1]'(by omega)).toNat []
section
variable {g : List (List Int)} {to : List Bool} (h : FInv g to (farL g to) [] none) (hg : okG g)
include h hg
theorem way_next {a : Int} (ha : 0 ≤ a ∧ a < g.length) (hp : 0 < dAt (farL g to) a) :
    wayNext (farL g to) a (g.getD a.toNat []) ∈ g.getD a.toNat [] ∧ dAt (farL g to) (wayNext (farL g to) a (g.getD a.toNat [])) = dAt (farL g to) a - 1 ∧ 0 ≤ wayNext (farL g to) a (g.getD a.toNat []) ∧ wayNext (farL g to) a (g.getD a.toNat []) < g.length := by
  have hr := okG_row hg a.toNat
  have hal : a.toNat < (farL g to).length := by rw [h.len]; omega
  unfold dAt at hp
  rw [getD_at hal] at hp
  obtain ⟨m, hm, h1, h2⟩ := h.pos a.toNat hal hp
  have hx := next_spec (d := farL g to) (a := a) (g.getD a.toNat []) (fun x hx => (hr x hx).1) ⟨(m : Int), h1, by unfold dAt; rw [Int.toNat_natCast, getD_at hm, getD_at hal]; exact h2⟩
  exact ⟨hx.1, hx.2, hr _ hx.1⟩
/-- the way from a -/
theorem way_all : ∀ (f : Nat) (a : Int), 0 ≤ a ∧ a < g.length → 0 ≤ dAt (farL g to) a → dAt (farL g to) a ≤ f → WayOK g (farL g to) (wayGo g (farL g to) f a) a
  | f, a, ha, h0, hf => by
    by_cases hp : 0 < dAt (farL g to) a
    · cases f with
      | zero => omega
      | succ f =>
        have hn := way_next h hg ha hp
        generalize hx : wayNext (farL g to) a (g.getD a.toNat []) = x at *
        have ih := way_all f x hn.2.2 (by omega) (by omega)
        generalize hl : wayGo g (farL g to) f x = l at *
        have hz : ∀ (h : 0 < l.length), l[0] = x := fun h => by
          have := ih.hd
          rw [List.getElem?_eq_getElem h] at this
          exact Option.some.inj this
        have hl0 : 0 < l.length := by have := ih.len; omega
        have efu : ∀ f' : Nat, dAt (farL g to) a ≤ f' → wayGo g (farL g to) f' a = a :: l := by
          intro f' hf'
          cases f' with
          | zero => omega
          | succ f' =>
            rw [wayGo, if_pos hp, hx]
            have h0 := ih.go 0 hl0 f' (by rw [hz hl0]; omega)
            rw [hz hl0] at h0
            rw [h0]; rfl
        rw [efu (f + 1) hf]
        have hlen := ih.len
        refine ⟨by rw [List.length_cons]; omega, rfl, fun i hi => ?_, fun i hi => ?_, fun i hi f' hf' => ?_, fun i hi hpos => ?_⟩
        · cases i with
          | zero => simp
          | succ i =>
            have := ih.at' i (by simpa using hi)
            simp only [List.getElem_cons_succ]; omega
        · cases i with
          | zero => exact ha
          | succ i => exact ih.inR i (by simpa using hi)
        · cases i with
          | zero => exact efu f' hf'
          | succ i => exact ih.go i (by simpa using hi) f' hf'
        · cases i with
          | zero => omega
          | succ i =>
            cases i with
            | zero =>
              simp only [List.getElem_cons_succ, Nat.zero_add, Nat.sub_self, List.getElem_cons_zero]
              rw [hz hl0]; exact hn.1
            | succ i =>
              have := ih.edge (i + 1) (by simpa using hi) (by omega)
              simpa using this
    · have e : ∀ f', wayGo g (farL g to) f' a = [a] := by
        intro f'
        cases f' with
        | zero => rfl
        | succ f' => rw [wayGo, if_neg hp]
      rw [e]
      have h1 : ∀ i, i < [a].length → i = 0 := fun i hi => by simpa using hi
      refine ⟨by simp; omega, by simp, fun i hi => ?_, fun i hi => ?_, fun i hi f' hf' => ?_, fun i hi hpos => ?_⟩ <;> obtain rfl := h1 i hi
      · simp
      · exact ha
      · exact e f'
      · omega
end
/-- what one comes to from some, if something marked is among it -/
theorem rch_way {g : List (List Int)} {to : List Bool} (h : FInv g to (farL g to) [] none) (hg : okG g) {f : List Int} (hf : okL g.length f) : (∃ n, n < g.length ∧ Rch g f n ∧ to.getD n false = true) ↔ ∃ x ∈ f, 0 ≤ dAt (farL g to) x := by
  constructor
  · rintro ⟨n, hn, hr, ht⟩
    apply Classical.byContradiction
    intro hno
    have key : ∀ m, Rch g f m → m < g.length ∧ dAt (farL g to) m < 0 := by
      intro m hm
      induction hm with
      | @base x hx =>
        have := hf x hx
        refine ⟨by omega, ?_⟩
        rw [show ((x.toNat : Nat) : Int) = x by omega]
        exact Int.not_le.1 fun h0 => hno ⟨x, hx, h0⟩
      | @step m x _ hx ih =>
        have hxr := okG_row hg m x hx
        refine ⟨by omega, ?_⟩
        rw [show ((x.toNat : Nat) : Int) = x by omega]
        apply Int.not_le.1
        intro h0
        have hxl : x.toNat < (farL g to).length := by rw [h.len]; omega
        have hml : m < (farL g to).length := by rw [h.len]; exact ih.1
        unfold dAt at h0
        rw [getD_at hxl] at h0
        have := h.done x.toNat hxl h0
        rcases this with h1 | ⟨j, h1⟩ | h1
        · cases h1
        · cases h1
        · have h2 := h1 m hml (by rw [show ((x.toNat : Nat) : Int) = x by omega]; exact hx)
          have h3 := ih.2
          unfold dAt at h3
          rw [Int.toNat_natCast, getD_at hml] at h3
          omega
    have h1 := (key n hr).2
    have hnl : n < (farL g to).length := by rw [h.len]; exact hn
    unfold dAt at h1
    rw [Int.toNat_natCast, getD_at hnl, (h.zero n hnl).2 ht] at h1
    omega
  · rintro ⟨x, hx, h0⟩
    have hxr := hf x hx
    have hW := way_all h hg (dAt (farL g to) x).toNat x hxr h0 (by omega)
    generalize wayGo g (farL g to) (dAt (farL g to) x).toNat x = l at hW
    have hlen := hW.len
    have hr : ∀ i (hi : i < l.length), Rch g f l[i].toNat := by
      intro i
      induction i with
      | zero =>
        intro hi
        have := hW.hd
        rw [List.getElem?_eq_getElem hi] at this
        rw [Option.some.inj this]
        exact .base hx
      | succ i ih =>
        intro hi
        exact .step (ih (by omega)) (by have := hW.edge (i + 1) hi (by omega); simpa using this)
    have hi : l.length - 1 < l.length := by omega
    have h1 := hW.at' _ hi
    have h2 := hW.inR _ hi
    refine ⟨l[l.length - 1].toNat, by omega, hr _ hi, ?_⟩
    have hll : l[l.length - 1].toNat < (farL g to).length := by rw [h.len]; omega
    refine (h.zero _ hll).1 ?_
    unfold dAt at h1 hlen
    rw [getD_at hll] at h1
    omega
end Go.Proofs.Ytljcnopekjinjaa
