import Derived.WalkKit
import Derived.ProofKit
import Derived.Test.YtadbkppgaekmpaaPtRunsWalks15
/-
  The law RunsWalks of watchkeep holds for every input of moderate size: every execution of the process is a run of the transition system with the corresponding letters.
  Conditions: the arguments are together of bulk at most 1048576.
-/
set_option linter.unusedVariables false
set_option linter.unusedSimpArgs false
namespace Go.Proofs.Ytadbkppgaekmpaa.lawRunsWalks
open Go.ChangeShapes Go.WideShapes Go.ChangeAt Go.RowKit

theorem own : ownKnob Try.prog.godebug = none := by kernel_rfl
theorem laid : laidOutB Try.prog = true := by kernel_rfl
theorem rows : ∀ t ∈ Try.f7.params.toList, Try.prog.readableRec t = true ∧ t < Try.prog.types.size := by
  rw [Try.params7]
  intro t ht
  have h0 : Try.prog.readableRec 53 = true := by kernel_rfl
  have k0 : decide (53 < Try.prog.types.size) = true := by kernel_rfl
  have h1 : Try.prog.readableRec 3 = true := by kernel_rfl
  have k1 : decide (3 < Try.prog.types.size) = true := by kernel_rfl
  have h2 : Try.prog.readableRec 22 = true := by kernel_rfl
  have k2 : decide (22 < Try.prog.types.size) = true := by kernel_rfl
  simp at ht
  rcases ht with rfl | rfl | rfl
  · exact ⟨h0, of_decide_eq_true k0⟩
  · exact ⟨h1, of_decide_eq_true k1⟩
  · exact ⟨h2, of_decide_eq_true k2⟩

set_option maxRecDepth 100000 in
theorem contract (H : Type) (enc : TypeId × Value → H) (W : World) (base : Nat) (args : Array Value) (ds gs : List (DataW H)) (before : List MemPlace)
    (hval : ∀ (j : Nat) t v, Try.f7.params[j]? = some t → args[j]? = some v → Value.okWide Try.prog W .any base t v)
    (hW : DataW.Whole enc Try.prog Try.f7.params.toList Rows.runsWalksSpec.vars false W args.toList ds gs before) (hk : Rows.uptoSmall H (ds ++ gs) = true) :
    Calls Try.prog 7 args W fun e W' => ∃ v, e = .returned v ∧ Rows.runsWalksSpec.post enc Try.prog Try.f7 false true false false W args v W' := by
  have hW' := hW
  obtain ⟨p, q, hA, hV, rfl, _, _⟩ := hW
  rw [Try.params7] at hA hval
  obtain ⟨rfl, rfl⟩ := trodVars_none hV
  obtain ⟨v0, v1, v2, v3, d0, d1, d2, d3, p0, p1, p2, p3, rfl, rfl, rfl, h0, h1, h2, h3⟩ := trodAll_four hA
  have hv0 := hval 0 53 v0 (by simp) (by simp)
  have hv1 := hval 1 3 v1 (by simp) (by simp)
  have hv2 := hval 2 3 v2 (by simp) (by simp)
  have hv3 := hval 3 22 v3 (by simp) (by simp)
  clear hval
  obtain ⟨x0, r0, b0⟩ := Opn.arg (α := (List (ByteArray × Int) × List (Int × Int))) (P := Try.prog) (t := 53) hv0 h0
  obtain ⟨x1, r1, b1⟩ := Opn.arg (α := Int) (P := Try.prog) (t := 3) hv1 h1
  obtain ⟨x2, r2, b2⟩ := Opn.arg (α := Int) (P := Try.prog) (t := 3) hv2 h2
  obtain ⟨x3, r3, b3⟩ := Opn.arg (α := (List Int)) (P := Try.prog) (t := 22) hv3 h3
  simp only [List.append_nil] at hk
  have hb := bound hk
  simp only [Rows.uptoBulkAll] at hb
  have e3 := bulk_l x3
  obtain ⟨so, sc, fo, fc, rfl, hs, hf⟩ := r0.proc
  obtain rfl := r1.int
  obtain rfl := r2.int
  obtain ⟨dO, dc, rfl, hd⟩ := r3.sl
  refine Calls.mono (RunsWalks_ok W hs hf hd (by omega) x1 x2) ?_
  rintro e W' ⟨v, rfl, rfl, hE⟩
  exact ⟨_, rfl, law_post laid hW' rfl rows ⟨rfl, rfl, rfl⟩ rfl Try.underlying4 hE⟩

set_option maxRecDepth 100000 in
theorem lifted (os : Os) (started : os.Started) (H : Type) (enc : TypeId × Value → H) (F : Stop.Interp) :
    ReturnsInHanded {} Try.checked os 7 .any ((Rows.OpenSpec.upto Rows.runsWalksSpec).pre6 enc Try.prog Try.f7 Rows.runsWalksUptoRow.domain false) (((Rows.OpenSpec.upto Rows.runsWalksSpec).at F).post enc Try.prog Try.f7 false true false false) := by
  refine returnsInHanded_of_cond (C := Try.checked) (s := Rows.OpenSpec.upto Rows.runsWalksSpec) (k := Rows.uptoSmall) rfl own started (by kernel_rfl) Try.func7
    (OpenSpec.witness (enc := enc) (C := Try.checked) (s := Rows.OpenSpec.upto Rows.runsWalksSpec) (k := Rows.uptoSmall) rfl false ⟨#[], #[.agg #[.slice none 0 0, .slice none 0 0], .int .i64 0, .int .i64 0, .slice none 0 0], []⟩ 8 (by kernel_rfl) (by kernel_rfl) (by kernel_rfl)
      (x := ([.agg [.nil, .nil], .lit (.int .i64 0), .lit (.int .i64 0), .nil], [], [])) (by kernel_rfl) rfl (by kernel_rfl)) ?_
  intro W base args ds gs before hval hW _ hk _
  exact contract H enc W base args ds gs before hval hW hk

theorem proved : Rows.RunsWalksUptoSaid :=
  OpenClaim.holds_of_cond 7 Try.f7 rfl rfl rfl rfl rfl rfl rfl ⟨rfl, rfl, rfl, rfl, rfl⟩ rfl rfl rfl rfl rfl (by kernel_rfl) Try.func7 (by kernel_rfl)
    (of_decide_eq_true (by kernel_rfl)) (by unfold Func.isWrapper; first | (rw [if_pos (by decide +kernel)]; kernel_rfl) | (rw [if_neg (by decide +kernel)]; exact ⟨rfl, rfl⟩))
    (fun os started H enc _ F => lifted os started H enc F)
end Go.Proofs.Ytadbkppgaekmpaa.lawRunsWalks
