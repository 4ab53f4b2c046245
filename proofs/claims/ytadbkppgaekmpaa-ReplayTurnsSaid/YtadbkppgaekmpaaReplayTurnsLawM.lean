import Derived.WalkKit
import Derived.ProofKit
import Derived.Test.YtadbkppgaekmpaaPtReplayTurns16
/-
  The law ReplayTurns of watchkeep holds for every input: a verdict in another representation can still be replayed and proves the same.
  Conditions: none.
-/
set_option linter.unusedVariables false
set_option linter.unusedSimpArgs false
namespace Go.Proofs.Ytadbkppgaekmpaa.lawReplayTurns
open Go.ChangeShapes Go.WideShapes Go.ChangeAt Go.RowKit

theorem own : ownKnob Try.prog.godebug = none := by kernel_rfl
theorem laid : laidOutB Try.prog = true := by kernel_rfl
theorem rows : ∀ t ∈ Try.f11.params.toList, Try.prog.readableRec t = true ∧ t < Try.prog.types.size := by
  rw [Try.params11]
  intro t ht
  have h0 : Try.prog.readableRec 53 = true := by kernel_rfl
  have k0 : decide (53 < Try.prog.types.size) = true := by kernel_rfl
  have h1 : Try.prog.readableRec 116 = true := by kernel_rfl
  have k1 : decide (116 < Try.prog.types.size) = true := by kernel_rfl
  have h2 : Try.prog.readableRec 119 = true := by kernel_rfl
  have k2 : decide (119 < Try.prog.types.size) = true := by kernel_rfl
  have h3 : Try.prog.readableRec 3 = true := by kernel_rfl
  have k3 : decide (3 < Try.prog.types.size) = true := by kernel_rfl
  simp at ht
  rcases ht with rfl | rfl | rfl | rfl
  · exact ⟨h0, of_decide_eq_true k0⟩
  · exact ⟨h1, of_decide_eq_true k1⟩
  · exact ⟨h2, of_decide_eq_true k2⟩
  · exact ⟨h3, of_decide_eq_true k3⟩

set_option maxRecDepth 100000 in
theorem contract (H : Type) (enc : TypeId × Value → H) (W : World) (base : Nat) (args : Array Value) (ds gs : List (DataW H)) (before : List MemPlace)
    (hval : ∀ (j : Nat) t v, Try.f11.params[j]? = some t → args[j]? = some v → Value.okWide Try.prog W .any base t v)
    (hW : DataW.Whole enc Try.prog Try.f11.params.toList Rows.replayTurnsSpec.vars false W args.toList ds gs before) :
    Calls Try.prog 11 args W fun e W' => ∃ v, e = .returned v ∧ Rows.replayTurnsSpec.post enc Try.prog Try.f11 false true false false W args v W' := by
  have hW' := hW
  obtain ⟨p, q, hA, hV, rfl, _, _⟩ := hW
  rw [Try.params11] at hA hval
  obtain ⟨rfl, rfl⟩ := trodVars_none hV
  obtain ⟨v0, v1, v2, v3, d0, d1, d2, d3, p0, p1, p2, p3, rfl, rfl, rfl, h0, h1, h2, h3⟩ := trodAll_four hA
  have hv0 := hval 0 53 v0 (by simp) (by simp)
  have hv1 := hval 1 116 v1 (by simp) (by simp)
  have hv2 := hval 2 119 v2 (by simp) (by simp)
  have hv3 := hval 3 3 v3 (by simp) (by simp)
  clear hval
  obtain ⟨x0, r0, b0⟩ := Opn.arg (α := (List (ByteArray × Int) × List (Int × Int))) (P := Try.prog) (t := 53) hv0 h0
  obtain ⟨x1, r1, b1⟩ := Opn.arg (α := (Bool × List Int × List Int)) (P := Try.prog) (t := 116) hv1 h1
  obtain ⟨x2, r2, b2⟩ := Opn.arg (α := Ltl) (P := Try.prog) (t := 119) hv2 h2
  obtain ⟨x3, r3, b3⟩ := Opn.arg (α := Int) (P := Try.prog) (t := 3) hv3 h3
  obtain ⟨so, sc, fo, fc, rfl, hs, hf⟩ := r0.proc
  obtain ⟨hb, ao, ac, bo, bc, rfl, hst, hlp⟩ := r1.verd
  obtain ⟨to, tc, rfl, ht⟩ := r2.ltl
  obtain rfl := r3.int
  refine Calls.mono (ReplayTurns_ok W hs hf hst hlp ht x3) ?_
  rintro e W' ⟨v, rfl, rfl, hE⟩
  exact ⟨_, rfl, law_post laid hW' rfl rows ⟨rfl, rfl, rfl⟩ rfl Try.underlying4 hE⟩

set_option maxRecDepth 100000 in
theorem lifted (os : Os) (started : os.Started) (H : Type) (enc : TypeId × Value → H) :
    ReturnsInHanded {} Try.checked os 11 .any (Rows.replayTurnsSpec.pre6 enc Try.prog Try.f11 Rows.replayTurnsRow.domain false) (Rows.replayTurnsSpec.post enc Try.prog Try.f11 false true false false) := by
  refine returnsInHanded_of_change (C := Try.checked) own started (by kernel_rfl) Try.func11
    (ChangeSpec.witness6 (enc := enc) (C := Try.checked) false ⟨#[], #[.agg #[.slice none 0 0, .slice none 0 0], .agg #[.bool false, .slice none 0 0, .slice none 0 0], .agg #[.int .i64 0, .int .i64 0, .slice none 0 0], .int .i64 0], []⟩ 8 (by kernel_rfl) (by kernel_rfl) (by kernel_rfl) (by kernel_rfl)) ?_
  intro W base args ds gs before hval hW _ _
  exact contract H enc W base args ds gs before hval hW

theorem proved : Rows.ReplayTurnsSaid :=
  OpenClaim.holds_of_wide 11 Try.f11 rfl rfl rfl rfl rfl rfl rfl ⟨rfl, rfl, rfl, rfl, rfl⟩ rfl rfl rfl rfl rfl (by kernel_rfl) Try.func11 (by kernel_rfl)
    (of_decide_eq_true (by kernel_rfl)) (by unfold Func.isWrapper; first | (rw [if_pos (by decide +kernel)]; kernel_rfl) | (rw [if_neg (by decide +kernel)]; exact ⟨rfl, rfl⟩))
    (fun os started H enc _ => lifted os started H enc)
end Go.Proofs.Ytadbkppgaekmpaa.lawReplayTurns
