import Derived.Test.YtikigaeihdmcaaaGreatDoorCards
import Derived.Test.YtikigaeihdmcaaaGreatDoorTie
import Derived.ChangeSame
import Derived.ChangeVars
import Derived.JoinedOf
import Derived.RowKit
import Derived.RowKitTokens
import Derived.LaidLaws
import Derived.LaidHandle
import Derived.LaidSub
import Derived.Lay
import Derived.MakeChecks
import Derived.Stop.Joined
import Derived.JoinedCond
import Derived.Deep.DeepHandedRow
import Derived.SevenTiedAt
import Derived.WalkKit
import Derived.ProofKit
import Derived.Test.YtikigaeihdmcaaaGreatDoorPtReportLines17
/-
  The law ReportLines of watchkeep.
  The tied card of the second form. Conditions: the arguments are together of bulk at most 1048576.
-/
set_option linter.unusedVariables false
set_option linter.unusedSimpArgs false
namespace Go.Proofs.YtikigaeihdmcaaaGreatDoor.lawReportLines
open Go.ChangeShapes Go.WideShapes Go.ChangeAt Go.RowKit

theorem own : ownKnob Tryz.prog.godebug = none := by kernel_rfl
theorem laid : laidOutB Tryz.prog = true := by kernel_rfl
theorem rows : ∀ t ∈ Tryz.f5.params.toList, Tryz.prog.readableRec t = true ∧ t < Tryz.prog.types.size := by
  rw [Tryz.params5]
  intro t ht
  have h0 : Tryz.prog.readableRec 9 = true := by kernel_rfl
  have k0 : decide (9 < Tryz.prog.types.size) = true := by kernel_rfl
  have h1 : Tryz.prog.readableRec 34 = true := by kernel_rfl
  have k1 : decide (34 < Tryz.prog.types.size) = true := by kernel_rfl
  simp at ht
  rcases ht with rfl | rfl
  · exact ⟨h0, of_decide_eq_true k0⟩
  · exact ⟨h1, of_decide_eq_true k1⟩

theorem et : Tryz.prog.globalNamed "errors.errorType" = some 4 := by kernel_rfl
theorem rt : (Tryz.prog.cutTypes.find? (·.1 == "internal/reflectlite.rtype")).map (·.2) = some 181 := by kernel_rfl
theorem oneRow : ((List.range 235).filter fun t => Tryz.prog.rowNamed t [101, 114, 114, 111, 114]) = [127] := by kernel_rfl
theorem size : Tryz.prog.types.size = 235 := by kernel_rfl
/-- what the row lists -/
abbrev lst : List (String × DataW Unit) := Rows.reportLinesUptoRow.laid
abbrev lstD : List (String × DataW Unit) := lst.filter fun x => x.2.handleName?.isNone
theorem lst_sen : (lstD.filter fun x => x.1 == "watchway/ltl.errStand" || x.1 == "watchway/ltl.errOpen" || x.1 == "watchway/ltl.errWord") = senL := by kernel_rfl
theorem lst_han : (lst.filter fun x => x.2.handleName?.isSome) = [("errors.errorType", Rows.laid_errors_errorType)] := by kernel_rfl
/-- what the condition gives a walk -/
theorem handle_of_laid {W : World} (h : laidMetH Tryz.prog lst W) : ErrH W ∧ ∃ sa, SenH W sa := by
  obtain ⟨h1, h2⟩ := laidMetH_iff.1 h
  rw [lst_han] at h2
  have h3 := h1.filter (fun x => x.1 == "watchway/ltl.errStand" || x.1 == "watchway/ltl.errOpen" || x.1 == "watchway/ltl.errWord")
  rw [lst_sen] at h3
  refine ⟨?_, sen_of_laid h3⟩
  obtain ⟨name, u, ty, e1, e2, e3, e4, e5⟩ := h2 _ (List.mem_singleton.2 rfl)
  have en : name = [101, 114, 114, 111, 114] := (Option.some.inj e1).symm
  subst en
  obtain rfl := Option.some.inj (rt.symm.trans e2)
  have hm : ty ∈ (List.range 235).filter fun t => Tryz.prog.rowNamed t [101, 114, 114, 111, 114] := List.mem_filter.2 ⟨List.mem_range.2 (by rw [← size]; exact e3), e4⟩
  rw [oneRow] at hm
  obtain rfl := List.mem_singleton.1 hm
  have hh : typeHandle Tryz.prog 127 = .pointer (some ⟨7, 127, none⟩) := by kernel_rfl
  rw [hh] at e5
  unfold ErrH
  simpa using World.var?_cell et e5 0
/-- all listed data laid by the function -/
theorem lay_all {P : Program} {w0 w' : World} {laid : List (String × DataW Unit)} (hf : w0.layFits P laid [] = true) (hi : w0.layIfaces P laid (w0.layVars P laid) = true) (hh : (w0.layVars P laid).heap = w'.heap) : laidMet P laid w' := by
  have e1 : (laid.filter fun x => (laid.map (·.1)).contains x.1) = laid := List.filter_eq_self.2 fun x hx => List.contains_iff_mem.2 (List.mem_map.2 ⟨x, hx, rfl⟩)
  have e2 : (laid.filter fun x => !(laid.map (·.1)).contains x.1) = [] := List.filter_eq_nil_iff.2 fun x hx => by rw [List.contains_iff_mem.2 (List.mem_map.2 ⟨x, hx, rfl⟩)]; simp
  have h : laidMet P laid (w0.layVars P laid) := laidMet_layVars (w0 := w0) (laid.map (·.1)) [] (by rw [e1]) (by rw [e1]; exact hf) (by rw [e1]; exact hi) (by rw [e2]; exact LaidIn.none)
  exact h.of_heap hh
/-- a world that meets it -/
noncomputable def world0 (os : Os) : World :=
  let w0 := World.holding Tryz.prog os ⟨#[], #[], []⟩
  { w0 with heap := w0.heap.modify 4 fun
      | .cells _ t frozen => .cells #[.iface 181 (.agg #[.pointer (some ⟨7, 127, none⟩)])] t frozen
      | o => o }
noncomputable def laidWorld (os : Os) : World := (world0 os).layVars Tryz.prog lstD
theorem laidWorld_os (os : Os) : (laidWorld os).os = os := World.layVars_os _ _ _
theorem laidWorld_met (os : Os) (args : Array Value) : laidMetH Tryz.prog lst ((laidWorld os).forCall (fun _ _ => 0) ⟨#[], args, []⟩).memory :=
  laidMetH_of_parts (lay_all (w0 := world0 os) (by kernel_rfl) (by kernel_rfl) (by simp [World.memory, World.forCall, Input.heap, laidWorld])) (by kernel_rfl)
set_option maxRecDepth 100000 in
theorem contract (H : Type) (enc : TypeId × Value → H) (W : World) (base : Nat) (args : Array Value) (ds gs : List (DataW H)) (before : List MemPlace)
    (hval : ∀ (j : Nat) t v, Tryz.f5.params[j]? = some t → args[j]? = some v → Value.okWide Tryz.prog W .any base t v)
    (hW : DataW.Whole enc Tryz.prog Tryz.f5.params.toList Rows.reportLinesSpec.vars false W args.toList ds gs before) (hM : MaxH W) (hH : ErrH W) {sa : Nat → Addr} (hSn : SenH W sa) (hk : Rows.uptoSmall H (ds ++ gs) = true) :
    Calls Tryz.prog 5 args W fun e W' => ∃ v, e = .returned v ∧ Rows.reportLinesSpec.post enc Tryz.prog Tryz.f5 false true false false W args v W' := by
  have hW' := hW
  obtain ⟨p, q, hA, hV, rfl, _, _⟩ := hW
  rw [Tryz.params5] at hA hval
  obtain ⟨rfl, rfl⟩ := trodVars_none hV
  obtain ⟨v0, v1, d0, d1, p0, p1, rfl, rfl, rfl, h0, h1⟩ := trodAll_two hA
  have hv0 := hval 0 9 v0 (by simp) (by simp)
  have hv1 := hval 1 34 v1 (by simp) (by simp)
  clear hval
  obtain ⟨x0, r0, b0⟩ := Opn.arg (α := ByteArray) (P := Tryz.prog) (t := 9) hv0 h0
  obtain ⟨x1, r1, b1⟩ := Opn.arg (α := (List ByteArray)) (P := Tryz.prog) (t := 34) hv1 h1
  simp only [List.append_nil] at hk
  have hb := bound hk
  simp only [Rows.uptoBulkAll] at hb
  have e0 : bk x0 = x0.size + 1 := rfl
  obtain ⟨rfl, _⟩ := r0.str
  obtain ⟨no, nc, rfl, hn⟩ := r1.sl
  have hlen : x0.data.toList.length = x0.size := by rw [← txA_size, txA_eta]
  have hk := reportLines_ok W hM hH hSn (s := x0.data.toList) (by omega) hn
  rw [tV, txA_eta] at hk
  refine Calls.mono hk ?_
  rintro e W' ⟨v, rfl, rfl, hE⟩
  exact ⟨_, rfl, law_post laid hW' rfl rows ⟨rfl, rfl, rfl⟩ rfl Tryz.underlying4 hE⟩

set_option maxRecDepth 100000 in
theorem lifted (os : Os) (started : os.Started) (H : Type) (enc : TypeId × Value → H) (F : Stop.Interp) :
    ReturnsInHanded {} Tryz.checked os 5 .any ((Rows.OpenSpec.upto Rows.reportLinesSpec).preRow enc Tryz.prog Tryz.f5 Rows.reportLinesUptoRow.domain false lst) (((Rows.OpenSpec.upto Rows.reportLinesSpec).at F).post enc Tryz.prog Tryz.f5 false true false false) := by
  have hok : Input.okWideB Tryz.checked.prog ((laidWorld os).forCall (fun _ _ => 0) ⟨#[], #[.string ⟨#[]⟩, .slice none 0 0], []⟩) 5 ⟨#[], #[.string ⟨#[]⟩, .slice none 0 0], []⟩ = true := by kernel_rfl
  refine returnsInHanded_of_row (C := Tryz.checked) (s := Rows.OpenSpec.upto Rows.reportLinesSpec) own started (by kernel_rfl) Tryz.func5
    ⟨laidWorld os, fun _ _ => 0, ⟨#[], #[.string ⟨#[]⟩, .slice none 0 0], []⟩, laidWorld_os os, World.shaped_of_ZipB (by kernel_rfl) (by kernel_rfl), (Input.okWide_of_okWideB (base := 0) hok).1, (Input.okWide_of_okWideB hok).2,
      OpenSpec.preRow_of_cond 8 (x := ([.lit (.string []), .nil], [], [])) (by kernel_rfl) (by kernel_rfl) (fun k hk => by cases hk; kernel_rfl) (by kernel_rfl) (laidWorld_met os _), by
        simp only [Assume.holds]
        exact ⟨by simp, by simp, fun _ => Modest.zero, by simp, by simp⟩⟩ ?_
  intro W base args ds gs before hval hW _ hcond _ hL hsh _
  obtain ⟨hH, sa, hSn⟩ := handle_of_laid hL
  exact contract H enc W base args ds gs before hval hW (maxH_of hsh) hH hSn (hcond _ rfl)

theorem row : Rows.ReportLinesUptoSaid :=
  OpenClaim.holds_of_cond 5 Tryz.f5 rfl rfl rfl rfl rfl rfl rfl ⟨rfl, rfl, rfl, rfl, rfl⟩ rfl rfl rfl rfl rfl (by kernel_rfl) Tryz.func5 (by kernel_rfl)
    (of_decide_eq_true (by kernel_rfl)) (by unfold Func.isWrapper; first | (rw [if_pos (by decide +kernel)]; kernel_rfl) | (rw [if_neg (by decide +kernel)]; exact ⟨rfl, rfl⟩))
    (fun os started H enc _ F => by rw [OpenClaim.pre_eq_preRow]; exact lifted os started H enc F)

theorem proved : Rows.ReportLinesUptoCardSaid :=
  Claim7.holds_tied_plain_at .later [] [.data, .handle, .sentinel, .sentinel, .sentinel, .pinned] true (true, "9508b0f91eaff681501089077b27ce715a5385d53699531a08f4b9791f6960a3") true
    row (fun _ h => by cases h) (by kernel_rfl) (fun _ h => by cases h) reportLinesUpto_row_tie rfl ⟨rfl, rfl⟩ (by kernel_rfl) rfl
    (fun f fn hf hfn => by
      obtain rfl : f = 5 := Option.some.inj ((show Tryz.prog.funcNamed "watchway/watchkeep.ReportLines" = some 5 by kernel_rfl).symm.trans hf) |>.symm
      obtain rfl : fn = Tryz.f5 := (Option.some.inj (Tryz.func5.symm.trans hfn)).symm
      exact ⟨by kernel_rfl, fun j t ht => by
        rw [Tryz.params5] at ht
        have hm : t ∈ [9, 34] := by
          have := List.mem_of_getElem? (by simpa using ht)
          simpa using this
        have s0 : Tryz.prog.wantsStandIn 9 = false := by kernel_rfl
        have s1 : Tryz.prog.wantsStandIn 34 = false := by kernel_rfl
        simp only [List.mem_cons, List.not_mem_nil, or_false] at hm
        rcases hm with rfl | rfl
        · exact s0
        · exact s1⟩)
    (by kernel_rfl)
end Go.Proofs.YtikigaeihdmcaaaGreatDoor.lawReportLines

