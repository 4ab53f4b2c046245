/-
  Package game: Fire; watchkeep: sumOf: walked.
-/
import Derived.Test.YthojdcbpglipeaaGame4
import Derived.Test.YthojdcbpglipeaaHeld3
set_option linter.unusedVariables false
set_option linter.unusedSimpArgs false
namespace Go.Proofs.Ythojdcbpglipeaa
open Go.RowKit

theorem tokI_of {m : List Int} (h : m.any tokB = false) : tokI 0 m := fun k hk => by
  have := List.any_eq_false.1 h _ (List.getElem_mem hk)
  unfold tokB at this
  simp at this
  omega
theorem Fire_ok (w0 : World) {so fo mo : Option Addr} {sc fc mc : Nat} {ns : List LNode} {fl : List LFlow} {m : List Int} (hs : Sl w0 (Old w0) so sc ns) (hf : Sl w0 (Old w0) fo fc fl) (hm : Sl w0 (Old w0) mo mc m) (k : Int) :
    Rt Try.prog 42 [procV so sc fo fc ns.length fl.length, .slice mo m.length mc, .int .i64 k].toArray w0 fun v w' => ∃ x, v = .tuple ⟨[x, .int .i64 (fireE (ns, fl) m k).2]⟩ ∧ Own w' w0.heap.size 3 Non x (fireE (ns, fl) m k).1 ∧ Ext w0 w' := by
  refine Rt.enter3 Try.func42 Try.ntmps42 rfl rfl ?_
  have hE := Ext.refl w0
  (repeat (first | (apply CW.seq) | (apply CW.region)))
  refine WL.boxB rfl rfl rfl fun w1 hb3 e1 => ?_
  have hE := hE.trans e1
  (repeat (first | (apply WL.pure; rfl; rfl; rfl) | (apply WL.nil) | (apply EX.thenN) | (apply CW.seq) | (apply CW.region) | (apply WL.ldA; rfl; rfl; rfl; assumption; rfl)))
  refine WL.call rfl rfl rfl (check_ok w1 (hs.up hE) (hf.up hE) (hm.up hE)) ?_
  rintro _ w2 ⟨x, rfl, hox, e2⟩
  have hb3 := hb3.ext e2
  have hE := hE.trans e2
  unfold fireE
  by_cases hz : chkM (ns, fl) m = 0
  case neg =>
    have hz1 : (chkM (ns, fl) m != 0) = true := by simpa using hz
    rw [if_pos hz]
    (repeat (first | (apply WL.pure; rfl; rfl; rfl) | (apply WL.nil) | (apply EX.thenN) | (apply CW.seq) | (apply CW.region) | (apply CW.block)))
    rw [hz1]
    (repeat (first | (apply WL.pure; rfl; rfl; rfl) | (apply WL.nil) | (apply EX.thenN) | (apply CW.seq) | (apply CW.region) | (apply CW.condT; rfl) | (apply CW.ret) | (apply EX.thenR) | (apply EX.inR)))
    exact EX.ret2 rfl rfl rfl ⟨_, rfl, Own.nil, hE⟩
  obtain ⟨hc0, hml, htok, hl60⟩ := chkM_ok hz
  have hti := tokI_of htok
  rw [if_pos hz] at hox
  rw [if_neg (by simp [hz]), hz]
  dsimp only at hml
  obtain ⟨xo, xc, rfl, hxs⟩ := hox.oldN.sl
  clear hox
  (repeat (first | (apply WL.pure; rfl; rfl; rfl) | (apply WL.nil) | (apply EX.thenN) | (apply CW.seq) | (apply CW.region) | (apply CW.block) | (apply CW.condF; rfl)))
  by_cases hr : k < 0 ∨ k ≥ (stepsL (ns, fl)).length
  · rw [if_pos hr]
    by_cases hk : k < 0
    · rw [decide_eq_true hk]
      (repeat (first | (apply WL.pure; rfl; rfl; rfl) | (apply WL.nil) | (apply EX.thenN) | (apply CW.seq) | (apply CW.region) | (apply WL.pass; rfl; rfl) | (apply CW.condT; rfl) | (apply CW.ret) | (apply EX.thenR) | (apply EX.inR)))
      exact EX.ret2 rfl rfl rfl ⟨_, rfl, Own.nil, hE⟩
    · rw [decide_eq_false hk]
      (repeat (first | (apply WL.pure; rfl; rfl; rfl) | (apply WL.nil) | (apply EX.thenN) | (apply WL.lenS; rfl; rfl; rfl)))
      rw [decide_eq_true (show k ≥ ((stepsL (ns, fl)).length : Int) from hr.resolve_left hk)]
      (repeat (first | (apply WL.pure; rfl; rfl; rfl) | (apply WL.nil) | (apply EX.thenN) | (apply CW.seq) | (apply CW.region) | (apply CW.condT; rfl) | (apply CW.ret) | (apply EX.thenR) | (apply EX.inR)))
      exact EX.ret2 rfl rfl rfl ⟨_, rfl, Own.nil, hE⟩
  rw [if_neg hr]
  have hk0 : ¬ k < 0 := fun h => hr (.inl h)
  have hk1 : ¬ k ≥ ((stepsL (ns, fl)).length : Int) := fun h => hr (.inr h)
  rw [decide_eq_false hk0]
  (repeat (first | (apply WL.pure; rfl; rfl; rfl) | (apply WL.nil) | (apply EX.thenN) | (apply WL.lenS; rfl; rfl; rfl)))
  rw [decide_eq_false hk1]
  obtain ⟨i, rfl⟩ := Int.eq_ofNat_of_zero_le (show 0 ≤ k by omega)
  have hi' : i < (stepsL (ns, fl)).length := by omega
  obtain ⟨n, hn, hsn⟩ := stepsP_mem.1 (List.getElem_mem hi')
  rw [Int.toNat_natCast, stepsL_at hi']
  have hen := fun w hs hf hm => enabled_ok w (so := so) (fo := fo) (mo := mo) (sc := sc) (fc := fc) (mc := mc) hs hf hm hc0 hml hn hsn
  have hfi := fun w hs hf hm => fire_ok w (so := so) (fo := fo) (mo := mo) (sc := sc) (fc := fc) (mc := mc) hs hf hm hc0 hml hti hn hsn
  obtain ⟨s, hsdef⟩ : ∃ s, s = (stepsL (ns, fl))[i] := ⟨_, rfl⟩
  rw [← hsdef] at hen hfi ⊢
  (repeat (first | (apply QL.pure; rfl; rfl; rfl) | (apply CW.seq) | (apply QL.ldA; rfl; rfl; rfl; assumption; rfl) | (apply CW.condF; rfl) | (apply CW.draw; exact mixed; kernel_rfl)))
  refine QL.elemN rfl rfl rfl rfl rfl (fun _ h => h) hxs hi' (fun _ => rfl) (fun u q hu => ?_)
  rw [hu.step, ← hsdef]
  refine QL.call rfl rfl rfl (fun w hw => hen w (hs.up (hE.trans hw)) (hf.up (hE.trans hw)) (hm.up (hE.trans hw))) ?_
  (repeat (apply QL.pure; rfl; rfl; rfl))
  refine QL.nil (fun w3 e3 => ?_)
  have hb3 := hb3.ext e3
  have hE := hE.trans e3
  have hxs := hxs.up e3
  clear hu
  (repeat (apply EX.thenN))
  refine CW.cond rfl (fun h => ?_) (fun h => ?_)
  · have h : enabledP (ns, fl) m s = false := by simpa using h
    rw [if_pos h]
    (repeat (first | (apply WL.pure; rfl; rfl; rfl) | (apply WL.nil) | (apply EX.thenN) | (apply CW.seq) | (apply CW.region) | (apply CW.ret) | (apply EX.thenR) | (apply EX.inR)))
    exact EX.ret2 rfl rfl rfl ⟨_, rfl, Own.nil, hE⟩
  have h : ¬ enabledP (ns, fl) m s = false := by simpa using h
  rw [if_neg h]
  have hd := Ext.drew w3
  have hSE : ∀ x, (fun x => Ext w3 x) x → Ext w3 x := fun _ h => h
  have hE4 := hE.trans hd
  (repeat (first | (apply EX.thenN) | (apply CW.seq) | (apply EX.inN) | (apply CW.skip)))
  refine CW.drawH (fun x => Ext w3 x) [(0, true), (1, true), (2, true), (3, true), (4, true), (5, true), (6, false), (7, true), (8, true), (9, true), (10, true)] mixed (by kernel_rfl) (Ext.drew w3) ?_
  (repeat (first | (apply HL.pure; rfl; rfl; rfl; rfl) | (refine HL.ldA (by assumption) rfl rfl rfl rfl (by assumption) rfl ?_)))
  refine HL.elemN (α := LStep) (k := i) hSE rfl rfl rfl rfl rfl rfl rfl (fun _ h => h) hxs hi' (fun _ => rfl) (fun u q hu => ?_)
  rw [hu.step, ← hsdef]
  skip
  refine HL.mut rfl (WL.call rfl rfl rfl (hfi (drew w3) (hs.up hE4) (hf.up hE4) (hm.up hE4)) ?_)
  rintro _ w4 ⟨x, rfl, hox, e4⟩
  have hT4 : Ext w3 w4 := hd.trans e4
  refine WL.nil (EX.mut hT4 ?_)
  (repeat (first | (apply HL.pure; rfl; rfl; rfl; rfl) | (apply HL.nil)))
  (repeat (first | (apply EX.thenN) | (apply CW.ret)))
  exact EX.ret2 rfl rfl rfl ⟨_, rfl, hox.low hE4.size, hE.trans hT4⟩
end Go.Proofs.Ythojdcbpglipeaa
