import Derived.WalkKit
import Derived.ProofKit
import Derived.Test.YtadbkppgaekmpaaPtProcOwn13
/-
  The law ProcOwn of watchkeep holds for every input of bulk at most 1048576: processes and markings are not modified, and results do not share memory with them.
  Conditions: the arguments are together of bulk at most 1048576.
-/
set_option linter.unusedVariables false
set_option linter.unusedSimpArgs false
namespace Go.Proofs.Ytadbkppgaekmpaa.lawProcOwn
open Go.ChangeShapes Go.WideShapes Go.ChangeAt Go.RowKit

theorem own : ownKnob Try.prog.godebug = none := by kernel_rfl
theorem laid : laidOutB Try.prog = true := by kernel_rfl
theorem rows : ∀ t ∈ Try.f6.params.toList, Try.prog.readableRec t = true ∧ t < Try.prog.types.size := by
  rw [Try.params6]
  intro t ht
  have h0 : Try.prog.readableRec 53 = true := by kernel_rfl
  have k0 : decide (53 < Try.prog.types.size) = true := by kernel_rfl
  have h1 : Try.prog.readableRec 22 = true := by kernel_rfl
  have k1 : decide (22 < Try.prog.types.size) = true := by kernel_rfl
  simp at ht
  rcases ht with rfl | rfl
  · exact ⟨h0, of_decide_eq_true k0⟩
  · exact ⟨h1, of_decide_eq_true k1⟩

set_option maxRecDepth 100000 in
theorem contract (H : Type) (enc : TypeId × Value → H) (W : World) (base : Nat) (args : Array Value) (ds gs : List (DataW H)) (before : List MemPlace)
    (hval : ∀ (j : Nat) t v, Try.f6.params[j]? = some t → args[j]? = some v → Value.okWide Try.prog W .any base t v)
    (hW : DataW.Whole enc Try.prog Try.f6.params.toList Rows.procOwnSpec.vars false W args.toList ds gs before) (hk : Rows.uptoSmall H (ds ++ gs) = true) :
    Calls Try.prog 6 args W fun e W' => ∃ v, e = .returned v ∧ Rows.procOwnSpec.post enc Try.prog Try.f6 false true false false W args v W' := by
  have hW' := hW
  obtain ⟨p, q, hA, hV, rfl, _, _⟩ := hW
  rw [Try.params6] at hA hval
  obtain ⟨rfl, rfl⟩ := trodVars_none hV
  obtain ⟨v0, v1, d0, d1, p0, p1, rfl, rfl, rfl, h0, h1⟩ := trodAll_two hA
  have hv0 := hval 0 53 v0 (by simp) (by simp)
  have hv1 := hval 1 22 v1 (by simp) (by simp)
  clear hval
  obtain ⟨x0, r0, b0⟩ := Opn.arg (α := (List (ByteArray × Int) × List (Int × Int))) (P := Try.prog) (t := 53) hv0 h0
  obtain ⟨x1, r1, b1⟩ := Opn.arg (α := (List Int)) (P := Try.prog) (t := 22) hv1 h1
  simp only [List.append_nil] at hk
  have hb := bound hk
  simp only [Rows.uptoBulkAll] at hb
  have e1 := bulk_ge (α := ByteArray × Int) (fun x => by have : bk x = bk x.1 + 1 := rfl; omega) x0.1
  have e2 := bulk_ge (α := Int × Int) (fun x => by have : bk x = 1 + 1 := rfl; omega) x0.2
  have e3 : bk x0 = (bkL x0.1 + 1) + (bkL x0.2 + 1) := rfl
  have e4 := bulk_l x1
  obtain ⟨so, sc, fo, fc, rfl, hs, hf⟩ := r0.proc
  obtain ⟨mo, mc, rfl, hm⟩ := r1.sl
  refine Calls.mono (ProcOwn_ok W hs hf hm (by omega)) ?_
  rintro e W' ⟨v, rfl, rfl, hE⟩
  exact ⟨_, rfl, law_post laid hW' rfl rows ⟨rfl, rfl, rfl⟩ rfl Try.underlying4 hE⟩

set_option maxRecDepth 100000 in
theorem lifted (os : Os) (started : os.Started) (H : Type) (enc : TypeId × Value → H) (F : Stop.Interp) :
    ReturnsInHanded {} Try.checked os 6 .any ((Rows.OpenSpec.upto Rows.procOwnSpec).pre6 enc Try.prog Try.f6 Rows.procOwnUptoRow.domain false) (((Rows.OpenSpec.upto Rows.procOwnSpec).at F).post enc Try.prog Try.f6 false true false false) := by
  refine returnsInHanded_of_cond (C := Try.checked) (s := Rows.OpenSpec.upto Rows.procOwnSpec) (k := Rows.uptoSmall) rfl own started (by kernel_rfl) Try.func6
    (OpenSpec.witness (enc := enc) (C := Try.checked) (s := Rows.OpenSpec.upto Rows.procOwnSpec) (k := Rows.uptoSmall) rfl false ⟨#[], #[.agg #[.slice none 0 0, .slice none 0 0], .slice none 0 0], []⟩ 8 (by kernel_rfl) (by kernel_rfl) (by kernel_rfl)
      (x := ([.agg [.nil, .nil], .nil], [], [])) (by kernel_rfl) rfl (by kernel_rfl)) ?_
  intro W base args ds gs before hval hW _ hk _
  exact contract H enc W base args ds gs before hval hW hk

theorem proved : Rows.ProcOwnUptoSaid :=
  OpenClaim.holds_of_cond 6 Try.f6 rfl rfl rfl rfl rfl rfl rfl ⟨rfl, rfl, rfl, rfl, rfl⟩ rfl rfl rfl rfl rfl (by kernel_rfl) Try.func6 (by kernel_rfl)
    (of_decide_eq_true (by kernel_rfl)) (by unfold Func.isWrapper; first | (rw [if_pos (by decide +kernel)]; kernel_rfl) | (rw [if_neg (by decide +kernel)]; exact ⟨rfl, rfl⟩))
    (fun os started H enc _ F => lifted os started H enc F)
end Go.Proofs.Ytadbkppgaekmpaa.lawProcOwn
