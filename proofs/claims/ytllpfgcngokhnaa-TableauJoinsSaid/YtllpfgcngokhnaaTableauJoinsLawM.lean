import Derived.WalkKit
import Derived.ProofKit
import Derived.Test.YtllpfgcngokhnaaPtTableauJoins19
/-
  conjunction corresponds to intersection and disjunction to union of accepted words
  Conditions: none.
-/
set_option linter.unusedVariables false
set_option linter.unusedSimpArgs false
namespace Go.Proofs.Ytllpfgcngokhnaa.lawTableauJoins
open Go.ChangeShapes Go.WideShapes Go.ChangeAt Go.RowKit

theorem own : ownKnob Try.prog.godebug = none := by kernel_rfl
theorem laid : laidOutB Try.prog = true := by kernel_rfl
theorem rows : ∀ t ∈ Try.f6.params.toList, Try.prog.readableRec t = true ∧ t < Try.prog.types.size := by
  rw [Try.params6]
  intro t ht
  have h0 : Try.prog.readableRec 68 = true := by kernel_rfl
  have k0 : decide (68 < Try.prog.types.size) = true := by kernel_rfl
  have h1 : Try.prog.readableRec 39 = true := by kernel_rfl
  have k1 : decide (39 < Try.prog.types.size) = true := by kernel_rfl
  simp at ht
  rcases ht with rfl | rfl
  · exact ⟨h0, of_decide_eq_true k0⟩
  · exact ⟨h1, of_decide_eq_true k1⟩

set_option maxRecDepth 100000 in
theorem contract (H : Type) (enc : TypeId × Value → H) (W : World) (base : Nat) (args : Array Value) (ds gs : List (DataW H)) (before : List MemPlace)
    (hval : ∀ (j : Nat) t v, Try.f6.params[j]? = some t → args[j]? = some v → Value.okWide Try.prog W .any base t v)
    (hW : DataW.Whole enc Try.prog Try.f6.params.toList Rows.tableauJoinsSpec.vars false W args.toList ds gs before) :
    Calls Try.prog 6 args W fun e W' => ∃ v, e = .returned v ∧ Rows.tableauJoinsSpec.post enc Try.prog Try.f6 false true false false W args v W' := by
  have hW' := hW
  obtain ⟨p, q, hA, hV, rfl, _, _⟩ := hW
  rw [Try.params6] at hA hval
  obtain ⟨rfl, rfl⟩ := trodVars_none hV
  obtain ⟨v0, v1, v2, d0, d1, d2, p0, p1, p2, rfl, rfl, rfl, h0, h1, h2⟩ := trodAll_three hA
  have hv0 := hval 0 68 v0 (by simp) (by simp)
  have hv1 := hval 1 68 v1 (by simp) (by simp)
  have hv2 := hval 2 39 v2 (by simp) (by simp)
  clear hval
  obtain ⟨x0, r0, b0⟩ := Opn.arg (α := Ltl) (P := Try.prog) (t := 68) hv0 h0
  obtain ⟨x1, r1, b1⟩ := Opn.arg (α := Ltl) (P := Try.prog) (t := 68) hv1 h1
  obtain ⟨x2, r2, b2⟩ := Opn.arg (α := (List Nat × List Nat)) (P := Try.prog) (t := 39) hv2 h2
  obtain ⟨so, sc, lo, lc, rfl, hs, hl⟩ := r2.word
  refine Calls.mono (TableauJoins_ok W r0 r1 hs hl) ?_
  rintro e W' ⟨v, rfl, rfl, hE⟩
  exact ⟨_, rfl, law_post laid hW' rfl rows ⟨rfl, rfl, rfl⟩ rfl Try.underlying4 hE⟩

set_option maxRecDepth 100000 in
theorem lifted (os : Os) (started : os.Started) (H : Type) (enc : TypeId × Value → H) :
    ReturnsInHanded {} Try.checked os 6 .any (Rows.tableauJoinsSpec.pre6 enc Try.prog Try.f6 Rows.tableauJoinsRow.domain false) (Rows.tableauJoinsSpec.post enc Try.prog Try.f6 false true false false) := by
  refine returnsInHanded_of_change (C := Try.checked) own started (by kernel_rfl) Try.func6
    (ChangeSpec.witness6 (enc := enc) (C := Try.checked) false ⟨#[], #[.agg #[.int .i64 0, .int .i64 0, .slice none 0 0], .agg #[.int .i64 0, .int .i64 0, .slice none 0 0], .agg #[.slice none 0 0, .slice none 0 0]], []⟩ 8 (by kernel_rfl) (by kernel_rfl) (by kernel_rfl) (by kernel_rfl)) ?_
  intro W base args ds gs before hval hW _ _
  exact contract H enc W base args ds gs before hval hW

theorem proved : Rows.TableauJoinsSaid :=
  OpenClaim.holds_of_wide 6 Try.f6 rfl rfl rfl rfl rfl rfl rfl ⟨rfl, rfl, rfl, rfl, rfl⟩ rfl rfl rfl rfl rfl (by kernel_rfl) Try.func6 (by kernel_rfl)
    (of_decide_eq_true (by kernel_rfl)) (by unfold Func.isWrapper; first | (rw [if_pos (by decide +kernel)]; kernel_rfl) | (rw [if_neg (by decide +kernel)]; exact ⟨rfl, rfl⟩))
    (fun os started H enc _ => lifted os started H enc)
end Go.Proofs.Ytllpfgcngokhnaa.lawTableauJoins
