/-
  The law SccJoined of watchkeep holds for every input of bulk at most 1048576: reachability is additive in the start nodes and idempotent.
  Conditions: none beside the bulk.
-/
import Derived.Test.YtacpdifbpeajbaaSccJoined
import Derived.Test.YtacpdifbpeajbaaOpen
import Derived.WalkKit
import Derived.ProofKit
set_option linter.unusedVariables false
set_option linter.unusedSimpArgs false
namespace Go.Proofs.Ytacpdifbpeajbaa.lawSccJoined
open Go.ChangeShapes Go.WideShapes Go.ChangeAt Go.RowKit

theorem own : ownKnob Try.prog.godebug = none := by kernel_rfl
theorem laid : laidOutB Try.prog = true := by kernel_rfl
theorem rows : ∀ t ∈ Try.f3.params.toList, Try.prog.readableRec t = true ∧ t < Try.prog.types.size := by
  rw [Try.params3]
  intro t ht
  have h1 : Try.prog.readableRec 22 = true := by kernel_rfl
  have h2 : Try.prog.readableRec 23 = true := by kernel_rfl
  have h3 : decide (22 < Try.prog.types.size) = true := by kernel_rfl
  have h4 : decide (23 < Try.prog.types.size) = true := by kernel_rfl
  simp at ht
  rcases ht with rfl | rfl
  · exact ⟨h1, of_decide_eq_true h3⟩
  · exact ⟨h2, of_decide_eq_true h4⟩

theorem bulk_g : ∀ g : List (List Int), edges g + g.length ≤ bkL g
  | [] => by simp [edges, bkL]
  | l :: g => by
    have h1 := bulk_g g
    have h2 : ∀ l : List Int, bkL l = l.length := by
      intro l; induction l with
      | nil => rfl
      | cons x l ih => show 1 + bkL l = _; rw [ih]; simp; omega
    have h3 : bk l = l.length + 1 := by show bkL l + 1 = _; rw [h2]
    simp only [bkL, h3, edges, List.map_cons, List.sum_cons, List.length_cons] at h1 ⊢
    omega
theorem bulk_l (l : List Int) : l.length + 1 = bk l := by
  have h2 : ∀ l : List Int, bkL l = l.length := by
    intro l; induction l with
    | nil => rfl
    | cons x l ih => show 1 + bkL l = _; rw [ih]; simp; omega
  show _ = bkL l + 1
  rw [h2]

set_option maxRecDepth 100000 in
theorem contract (H : Type) (enc : TypeId × Value → H) (W : World) (base : Nat) (args : Array Value) (ds gs : List (DataW H)) (before : List MemPlace)
    (hval : ∀ (j : Nat) t v, Try.f3.params[j]? = some t → args[j]? = some v → Value.okWide Try.prog W .any base t v)
    (hW : DataW.Whole enc Try.prog Try.f3.params.toList Rows.sccJoinedSpec.vars false W args.toList ds gs before) (hk : Rows.uptoSmall H (ds ++ gs) = true) :
    Calls Try.prog 3 args W fun e W' => ∃ v, e = .returned v ∧ Rows.sccJoinedSpec.post enc Try.prog Try.f3 false true false false W args v W' := by
  have hW' := hW
  obtain ⟨p, q, hA, hV, rfl, _, _⟩ := hW
  rw [Try.params3] at hA hval
  obtain ⟨rfl, rfl⟩ := trodVars_none hV
  obtain ⟨v0, v1, v2, d0, d1, d2, p0, p1, p2, rfl, rfl, rfl, h0, h1, h2⟩ := trodAll_three hA
  have hv0 := hval 0 22 v0 (by simp) (by simp)
  have hv1 := hval 1 23 v1 (by simp) (by simp)
  have hv2 := hval 2 23 v2 (by simp) (by simp)
  clear hval
  obtain ⟨g, rg, bg⟩ := Opn.arg (α := List (List Int)) (P := Try.prog) (t := 22) hv0 h0
  obtain ⟨a, ra, ba⟩ := Opn.arg (α := List Int) (P := Try.prog) (t := 23) hv1 h1
  obtain ⟨b, rb, bb⟩ := Opn.arg (α := List Int) (P := Try.prog) (t := 23) hv2 h2
  simp only [List.append_nil] at hk
  have hb := bound hk
  simp only [Rows.uptoBulkAll] at hb
  have e0 : bk g = bkL g + 1 := rfl
  have e1 := bulk_g g
  have e2 := bulk_l a
  have e3 := bulk_l b
  obtain ⟨go, gcap, rfl, hg⟩ := rg.sl
  obtain ⟨ao, acap, rfl, ha⟩ := ra.sl
  obtain ⟨bo, bcap, rfl, hbb⟩ := rb.sl
  refine Calls.mono (joined_ok W hg ha hbb (by omega)) ?_
  rintro e W' ⟨v, rfl, rfl, hE⟩
  exact ⟨_, rfl, law_post laid hW' rfl rows ⟨rfl, rfl, rfl⟩ rfl Try.underlying4 hE⟩

set_option maxRecDepth 100000 in
theorem lifted (os : Os) (started : os.Started) (H : Type) (enc : TypeId × Value → H) (F : Stop.Interp) :
    ReturnsInHanded {} Try.checked os 3 .any ((Rows.OpenSpec.upto Rows.sccJoinedSpec).pre6 enc Try.prog Try.f3 Rows.sccJoinedUptoRow.domain false) (((Rows.OpenSpec.upto Rows.sccJoinedSpec).at F).post enc Try.prog Try.f3 false true false false) := by
  refine returnsInHanded_of_cond (C := Try.checked) (s := Rows.OpenSpec.upto Rows.sccJoinedSpec) (k := Rows.uptoSmall) rfl own started (by kernel_rfl) Try.func3
    (OpenSpec.witness (enc := enc) (C := Try.checked) (s := Rows.OpenSpec.upto Rows.sccJoinedSpec) (k := Rows.uptoSmall) rfl false ⟨#[], #[.slice none 0 0, .slice none 0 0, .slice none 0 0], []⟩ 8 (by kernel_rfl) (by kernel_rfl) (by kernel_rfl)
      (x := ([.nil, .nil, .nil], [], [])) (by kernel_rfl) rfl (by kernel_rfl)) ?_
  intro W base args ds gs before hval hW _ hk _
  exact contract H enc W base args ds gs before hval hW hk

theorem proved : Rows.SccJoinedUptoSaid :=
  OpenClaim.holds_of_cond 3 Try.f3 rfl rfl rfl rfl rfl rfl rfl ⟨rfl, rfl, rfl, rfl, rfl⟩ rfl rfl rfl rfl rfl (by kernel_rfl) Try.func3 (by kernel_rfl)
    (of_decide_eq_true (by kernel_rfl)) (by unfold Func.isWrapper; first | (rw [if_pos (by decide +kernel)]; kernel_rfl) | (rw [if_neg (by decide +kernel)]; exact ⟨rfl, rfl⟩))
    (fun os started H enc _ F => lifted os started H enc F)
end Go.Proofs.Ytacpdifbpeajbaa.lawSccJoined
