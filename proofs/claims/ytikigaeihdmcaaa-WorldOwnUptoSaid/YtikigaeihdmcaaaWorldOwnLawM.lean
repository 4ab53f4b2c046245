import Derived.WalkKit
import Derived.ProofKit
import Derived.Test.YtikigaeihdmcaaaPtWorldOwn14
/-
  The law WorldOwn of watchkeep holds for every input of moderate size: transition systems are not modified.
  Conditions: the arguments are together of bulk at most 1048576.
-/
set_option linter.unusedVariables false
set_option linter.unusedSimpArgs false
namespace Go.Proofs.Ytikigaeihdmcaaa.lawWorldOwn
open Go.ChangeShapes Go.WideShapes Go.ChangeAt Go.RowKit

theorem own : ownKnob Try.prog.godebug = none := by kernel_rfl
theorem laid : laidOutB Try.prog = true := by kernel_rfl
theorem rows : ∀ t ∈ Try.f3.params.toList, Try.prog.readableRec t = true ∧ t < Try.prog.types.size := by
  rw [Try.params3]
  intro t ht
  have h0 : Try.prog.readableRec 26 = true := by kernel_rfl
  have k0 : decide (26 < Try.prog.types.size) = true := by kernel_rfl
  have h1 : Try.prog.readableRec 29 = true := by kernel_rfl
  have k1 : decide (29 < Try.prog.types.size) = true := by kernel_rfl
  have h2 : Try.prog.readableRec 3 = true := by kernel_rfl
  have k2 : decide (3 < Try.prog.types.size) = true := by kernel_rfl
  simp at ht
  rcases ht with rfl | rfl | rfl
  · exact ⟨h0, of_decide_eq_true k0⟩
  · exact ⟨h1, of_decide_eq_true k1⟩
  · exact ⟨h2, of_decide_eq_true k2⟩

set_option maxRecDepth 100000 in
theorem contract (H : Type) (enc : TypeId × Value → H) (W : World) (base : Nat) (args : Array Value) (ds gs : List (DataW H)) (before : List MemPlace)
    (hval : ∀ (j : Nat) t v, Try.f3.params[j]? = some t → args[j]? = some v → Value.okWide Try.prog W .any base t v)
    (hW : DataW.Whole enc Try.prog Try.f3.params.toList Rows.worldOwnSpec.vars false W args.toList ds gs before) (hk : Rows.uptoSmall H (ds ++ gs) = true) :
    Calls Try.prog 3 args W fun e W' => ∃ v, e = .returned v ∧ Rows.worldOwnSpec.post enc Try.prog Try.f3 false true false false W args v W' := by
  have hW' := hW
  obtain ⟨p, q, hA, hV, rfl, _, _⟩ := hW
  rw [Try.params3] at hA hval
  obtain ⟨rfl, rfl⟩ := trodVars_none hV
  obtain ⟨v0, v1, v2, d0, d1, d2, p0, p1, p2, rfl, rfl, rfl, h0, h1, h2⟩ := trodAll_three hA
  have hv0 := hval 0 26 v0 (by simp) (by simp)
  have hv1 := hval 1 29 v1 (by simp) (by simp)
  have hv2 := hval 2 3 v2 (by simp) (by simp)
  clear hval
  obtain ⟨x0, r0, b0⟩ := Opn.arg (α := (List Int × List (List Int) × List Nat × List (List Int))) (P := Try.prog) (t := 26) hv0 h0
  obtain ⟨x1, r1, b1⟩ := Opn.arg (α := Ltl) (P := Try.prog) (t := 29) hv1 h1
  obtain ⟨x2, r2, b2⟩ := Opn.arg (α := Int) (P := Try.prog) (t := 3) hv2 h2
  simp only [List.append_nil] at hk
  have hb := bound hk
  simp only [Rows.uptoBulkAll] at hb
  have e1 := bulk_gg x0.2.1
  have e2 := bulk_gg x0.2.2.2
  have e4 := bulk_l x0.1
  have e5 := bulk_n x0.2.2.1
  have e3 : bk x0 = bk x0.1 + (bk x0.2.1 + (bk x0.2.2.1 + bk x0.2.2.2)) := rfl
  obtain ⟨a1, c1, a2, c2, a3, c3, a4, c4, rfl, g1, g2, g3, g4⟩ := r0.world
  obtain ⟨fo, fc, rfl, hf⟩ := r1.ltl
  obtain rfl := r2.int
  refine Calls.mono (WorldOwn_ok W g1 g2 g3 g4 hf x2 (by omega)) ?_
  rintro e W' ⟨v, rfl, rfl, hE⟩
  exact ⟨_, rfl, law_post laid hW' rfl rows ⟨rfl, rfl, rfl⟩ rfl Try.underlying4 hE⟩

set_option maxRecDepth 100000 in
theorem lifted (os : Os) (started : os.Started) (H : Type) (enc : TypeId × Value → H) (F : Stop.Interp) :
    ReturnsInHanded {} Try.checked os 3 .any ((Rows.OpenSpec.upto Rows.worldOwnSpec).pre6 enc Try.prog Try.f3 Rows.worldOwnUptoRow.domain false) (((Rows.OpenSpec.upto Rows.worldOwnSpec).at F).post enc Try.prog Try.f3 false true false false) := by
  refine returnsInHanded_of_cond (C := Try.checked) (s := Rows.OpenSpec.upto Rows.worldOwnSpec) (k := Rows.uptoSmall) rfl own started (by kernel_rfl) Try.func3
    (OpenSpec.witness (enc := enc) (C := Try.checked) (s := Rows.OpenSpec.upto Rows.worldOwnSpec) (k := Rows.uptoSmall) rfl false ⟨#[], #[.agg #[.slice none 0 0, .slice none 0 0, .slice none 0 0, .slice none 0 0], .agg #[.int .i64 0, .int .i64 0, .slice none 0 0], .int .i64 0], []⟩ 8 (by kernel_rfl) (by kernel_rfl) (by kernel_rfl)
      (x := ([.agg [.nil, .nil, .nil, .nil], .agg [.lit (.int .i64 0), .lit (.int .i64 0), .nil], .lit (.int .i64 0)], [], [])) (by kernel_rfl) rfl (by kernel_rfl)) ?_
  intro W base args ds gs before hval hW _ hk _
  exact contract H enc W base args ds gs before hval hW hk

theorem proved : Rows.WorldOwnUptoSaid :=
  OpenClaim.holds_of_cond 3 Try.f3 rfl rfl rfl rfl rfl rfl rfl ⟨rfl, rfl, rfl, rfl, rfl⟩ rfl rfl rfl rfl rfl (by kernel_rfl) Try.func3 (by kernel_rfl)
    (of_decide_eq_true (by kernel_rfl)) (by unfold Func.isWrapper; first | (rw [if_pos (by decide +kernel)]; kernel_rfl) | (rw [if_neg (by decide +kernel)]; exact ⟨rfl, rfl⟩))
    (fun os started H enc _ F => lifted os started H enc F)
end Go.Proofs.Ytikigaeihdmcaaa.lawWorldOwn

