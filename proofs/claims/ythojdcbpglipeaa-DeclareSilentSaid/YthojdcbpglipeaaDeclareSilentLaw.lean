/-
  The law DeclareSilent of watchkeep: a place at which nothing is seen makes no difference to a template.
  Conditions: none.
-/
import Derived.Test.YthojdcbpglipeaaDeclareSilent
import Derived.Test.YthojdcbpglipeaaOpn
import Derived.WalkKit
import Derived.ProofKit
set_option linter.unusedVariables false
set_option linter.unusedSimpArgs false
namespace Go.Proofs.Ythojdcbpglipeaa.lawDeclareSilent
open Go.ChangeShapes Go.WideShapes Go.ChangeAt Go.RowKit

theorem own : ownKnob Try.prog.godebug = none := by kernel_rfl
theorem laid : laidOutB Try.prog = true := by kernel_rfl
theorem rows : ∀ t ∈ Try.f4.params.toList, Try.prog.readableRec t = true ∧ t < Try.prog.types.size := by
  rw [Try.params4]
  intro t ht
  have h0 : Try.prog.readableRec 42 = true := by kernel_rfl
  have k0 : decide (42 < Try.prog.types.size) = true := by kernel_rfl
  have h1 : Try.prog.readableRec 44 = true := by kernel_rfl
  have k1 : decide (44 < Try.prog.types.size) = true := by kernel_rfl
  have h2 : Try.prog.readableRec 3 = true := by kernel_rfl
  have k2 : decide (3 < Try.prog.types.size) = true := by kernel_rfl
  simp at ht
  rcases ht with rfl | rfl | rfl
  · exact ⟨h0, of_decide_eq_true k0⟩
  · exact ⟨h1, of_decide_eq_true k1⟩
  · exact ⟨h2, of_decide_eq_true k2⟩

set_option maxRecDepth 100000 in
theorem contract (H : Type) (enc : TypeId × Value → H) (W : World) (base : Nat) (args : Array Value) (ds gs : List (DataW H)) (before : List MemPlace)
    (hval : ∀ (j : Nat) t v, Try.f4.params[j]? = some t → args[j]? = some v → Value.okWide Try.prog W .any base t v)
    (hW : DataW.Whole enc Try.prog Try.f4.params.toList Rows.declareSilentSpec.vars false W args.toList ds gs before) :
    Calls Try.prog 4 args W fun e W' => ∃ v, e = .returned v ∧ Rows.declareSilentSpec.post enc Try.prog Try.f4 false true false false W args v W' := by
  have hW' := hW
  obtain ⟨p, q, hA, hV, rfl, _, _⟩ := hW
  rw [Try.params4] at hA hval
  obtain ⟨rfl, rfl⟩ := trodVars_none hV
  obtain ⟨v0, v1, v2, d0, d1, d2, p0, p1, p2, rfl, rfl, rfl, h0, h1, h2⟩ := trodAll_three hA
  have hv0 := hval 0 42 v0 (by simp) (by simp)
  have hv1 := hval 1 44 v1 (by simp) (by simp)
  have hv2 := hval 2 3 v2 (by simp) (by simp)
  clear hval
  obtain ⟨x0, r0, b0⟩ := Opn.arg (α := (Int × Int × Int × Int)) (P := Try.prog) (t := 42) hv0 h0
  obtain ⟨x1, r1, b1⟩ := Opn.arg (α := (List Nat × List Nat)) (P := Try.prog) (t := 44) hv1 h1
  obtain ⟨x2, r2, b2⟩ := Opn.arg (α := Int) (P := Try.prog) (t := 3) hv2 h2
  have g0 := r0.tpl
  subst g0
  obtain ⟨so, sc, lo, lc, rfl, hs, hl⟩ := r1.word
  obtain rfl := r2.int
  refine Calls.mono (declareSilent_ok W hs hl x0 x2) ?_
  rintro e W' ⟨v, rfl, rfl, hE⟩
  exact ⟨_, rfl, law_post laid hW' rfl rows ⟨rfl, rfl, rfl⟩ rfl Try.underlying4 hE⟩

set_option maxRecDepth 100000 in
theorem lifted (os : Os) (started : os.Started) (H : Type) (enc : TypeId × Value → H) :
    ReturnsInHanded {} Try.checked os 4 .any (Rows.declareSilentSpec.pre6 enc Try.prog Try.f4 Rows.declareSilentRow.domain false) (Rows.declareSilentSpec.post enc Try.prog Try.f4 false true false false) := by
  refine returnsInHanded_of_change (C := Try.checked) own started (by kernel_rfl) Try.func4
    (ChangeSpec.witness6 (enc := enc) (C := Try.checked) false ⟨#[], #[.agg #[.int .i64 0, .int .i64 0, .int .i64 0, .int .i64 0], .agg #[.slice none 0 0, .slice none 0 0], .int .i64 0], []⟩ 8 (by kernel_rfl) (by kernel_rfl) (by kernel_rfl) (by kernel_rfl)) ?_
  intro W base args ds gs before hval hW _ _
  exact contract H enc W base args ds gs before hval hW

theorem proved : Rows.DeclareSilentSaid :=
  OpenClaim.holds_of_wide 4 Try.f4 rfl rfl rfl rfl rfl rfl rfl ⟨rfl, rfl, rfl, rfl, rfl⟩ rfl rfl rfl rfl rfl (by kernel_rfl) Try.func4 (by kernel_rfl)
    (of_decide_eq_true (by kernel_rfl)) (by unfold Func.isWrapper; first | (rw [if_pos (by decide +kernel)]; kernel_rfl) | (rw [if_neg (by decide +kernel)]; exact ⟨rfl, rfl⟩))
    (fun os started H enc _ => lifted os started H enc)
end Go.Proofs.Ythojdcbpglipeaa.lawDeclareSilent
