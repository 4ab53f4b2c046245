import Derived.Test.YtikigaeihdmcaaaDoorCards
import Derived.Test.YtikigaeihdmcaaaDoorTie
import Derived.ChangeSame
import Derived.ChangeVars
import Derived.JoinedOf
import Derived.RowKit
import Derived.RowKitTokens
import Derived.LaidLaws
import Derived.LaidHandle
import Derived.Stop.Joined
import Derived.SevenTiedAt
import Derived.WalkKit
import Derived.ProofKit
import Derived.Test.YtikigaeihdmcaaaDoorPtLtlAgain16
/-
  The law LtlAgain of watchkeep.
  The tied card. Conditions: none.
-/
set_option linter.unusedVariables false
set_option linter.unusedSimpArgs false
namespace Go.Proofs.YtikigaeihdmcaaaDoor.lawLtlAgain
open Go.ChangeShapes Go.WideShapes Go.ChangeAt Go.RowKit

theorem own : ownKnob Tryd.prog.godebug = none := by kernel_rfl
theorem laid : laidOutB Tryd.prog = true := by kernel_rfl
theorem rows : ∀ t ∈ Tryd.f6.params.toList, Tryd.prog.readableRec t = true ∧ t < Tryd.prog.types.size := by
  rw [Tryd.params6]
  intro t ht
  have h0 : Tryd.prog.readableRec 9 = true := by kernel_rfl
  have k0 : decide (9 < Tryd.prog.types.size) = true := by kernel_rfl
  have h1 : Tryd.prog.readableRec 25 = true := by kernel_rfl
  have k1 : decide (25 < Tryd.prog.types.size) = true := by kernel_rfl
  simp at ht
  rcases ht with rfl | rfl
  · exact ⟨h0, of_decide_eq_true k0⟩
  · exact ⟨h1, of_decide_eq_true k1⟩

theorem et : Tryd.prog.globalNamed "errors.errorType" = some 1 := by kernel_rfl
theorem rt : (Tryd.prog.cutTypes.find? (·.1 == "internal/reflectlite.rtype")).map (·.2) = some 159 := by kernel_rfl
theorem oneRow : ((List.range 232).filter fun t => Tryd.prog.rowNamed t [101, 114, 114, 111, 114]) = [69] := by kernel_rfl
theorem size : Tryd.prog.types.size = 232 := by kernel_rfl
/-- what the row lists -/
abbrev lst : List (String × DataW Unit) := ("errors.errorType", Rows.laid_errors_errorType) :: senL
/-- what the condition gives a walk -/
theorem handle_of_laid {W : World} (h : laidMetH Tryd.prog lst W) : ErrH W ∧ ∃ sa, SenH W sa := by
  have h' : laidMet Tryd.prog senL W ∧ handlesMet Tryd.prog [("errors.errorType", Rows.laid_errors_errorType)] W := h
  refine ⟨?_, sen_of_laid h'.1⟩
  obtain ⟨name, u, ty, e1, e2, e3, e4, e5⟩ := h'.2 _ (List.mem_singleton.2 rfl)
  have en : name = [101, 114, 114, 111, 114] := (Option.some.inj e1).symm
  subst en
  obtain rfl := Option.some.inj (rt.symm.trans e2)
  have hm : ty ∈ (List.range 232).filter fun t => Tryd.prog.rowNamed t [101, 114, 114, 111, 114] := List.mem_filter.2 ⟨List.mem_range.2 (by rw [← size]; exact e3), e4⟩
  rw [oneRow] at hm
  obtain rfl := List.mem_singleton.1 hm
  have hh : typeHandle Tryd.prog 69 = .pointer (some ⟨7, 69, none⟩) := by kernel_rfl
  rw [hh] at e5
  unfold ErrH
  simpa using World.var?_cell et e5 0
noncomputable def low : Nat := (World.holding Tryd.prog default ⟨#[], #[], []⟩).heap.size
/-- a world that meets it -/
noncomputable def laidWorld (os : Os) : World :=
  let w0 := World.holding Tryd.prog os ⟨#[.cells #[.string ⟨#[116, 104, 105, 115, 32, 99, 97, 110, 39, 116, 32, 115, 116, 97, 110, 100, 32, 104, 101, 114, 101]⟩] 220, .cells #[.string ⟨#[116, 111, 111, 32, 109, 117, 99, 104, 32, 105, 115, 32, 111, 112, 101, 110]⟩] 220, .cells #[.string ⟨#[110, 111, 32, 115, 117, 99, 104, 32, 110, 97, 109, 101]⟩] 220], #[], []⟩
  { w0 with heap := (((w0.heap.modify 1 fun
      | .cells _ t frozen => .cells #[.iface 159 (.agg #[.pointer (some ⟨7, 69, none⟩)])] t frozen
      | o => o).modify 0 fun
      | .cells _ t frozen => .cells #[.iface 201 (.pointer (some ⟨low, 0, none⟩))] t frozen
      | o => o).modify 2 fun
      | .cells _ t frozen => .cells #[.iface 201 (.pointer (some ⟨low + 1, 0, none⟩))] t frozen
      | o => o).modify 3 fun
      | .cells _ t frozen => .cells #[.iface 201 (.pointer (some ⟨low + 2, 0, none⟩))] t frozen
      | o => o }
theorem laidWorld_met (os : Os) (args : Array Value) : laidMetH Tryd.prog lst ((laidWorld os).forCall (fun _ _ => 0) ⟨#[], args, []⟩).memory :=
  laidMetH_of_parts (laidMet_of_run (ps := [.cell 0 0, .cell low 0, .cell 2 0, .cell (low + 1) 0, .cell 3 0, .cell (low + 2) 0]) 8 (by kernel_rfl) (by kernel_rfl) (by kernel_rfl)) (by kernel_rfl)

set_option maxRecDepth 100000 in
theorem contract (H : Type) (enc : TypeId × Value → H) (W : World) (base : Nat) (args : Array Value) (ds gs : List (DataW H)) (before : List MemPlace)
    (hval : ∀ (j : Nat) t v, Tryd.f6.params[j]? = some t → args[j]? = some v → Value.okWide Tryd.prog W .any base t v)
    (hW : DataW.Whole enc Tryd.prog Tryd.f6.params.toList Rows.ltlAgainSpec.vars false W args.toList ds gs before) (hH : ErrH W) {sa : Nat → Addr} (hSn : SenH W sa) :
    Calls Tryd.prog 6 args W fun e W' => ∃ v, e = .returned v ∧ Rows.ltlAgainSpec.post enc Tryd.prog Tryd.f6 false true false false W args v W' := by
  have hW' := hW
  obtain ⟨p, q, hA, hV, rfl, _, _⟩ := hW
  rw [Tryd.params6] at hA hval
  obtain ⟨rfl, rfl⟩ := trodVars_none hV
  obtain ⟨v0, v1, d0, d1, p0, p1, rfl, rfl, rfl, h0, h1⟩ := trodAll_two hA
  have hv0 := hval 0 9 v0 (by simp) (by simp)
  have hv1 := hval 1 25 v1 (by simp) (by simp)
  clear hval
  obtain ⟨x0, r0, b0⟩ := Opn.arg (α := ByteArray) (P := Tryd.prog) (t := 9) hv0 h0
  obtain ⟨x1, r1, b1⟩ := Opn.arg (α := (List ByteArray)) (P := Tryd.prog) (t := 25) hv1 h1
  obtain ⟨rfl, _⟩ := r0.str
  obtain ⟨no, nc, rfl, hn⟩ := r1.sl
  have hk := ltlAgain_ok W hH hSn (s := x0.data.toList) hn
  rw [tV, txA_eta] at hk
  refine Calls.mono hk ?_
  rintro e W' ⟨v, rfl, rfl, hE⟩
  exact ⟨_, rfl, law_post laid hW' rfl rows ⟨rfl, rfl, rfl⟩ rfl Tryd.underlying4 hE⟩

set_option maxRecDepth 100000 in
theorem lifted (os : Os) (started : os.Started) (H : Type) (enc : TypeId × Value → H) :
    ReturnsInHanded {} Tryd.checked os 6 .any (fun w args => (Rows.ltlAgainSpec.pre enc Tryd.prog Tryd.f6 [] false w args ∧ laidMetH Tryd.prog lst w) ∧ sizedMet enc Tryd.prog Tryd.f6 (OpenSpec.ofChange Rows.ltlAgainSpec) false w args)
      (Rows.ltlAgainSpec.post enc Tryd.prog Tryd.f6 false true false false) := by
  refine returnsInHanded_of_change_and (C := Tryd.checked) (X := fun w _ => laidMetH Tryd.prog lst w) (fun _ _ _ hh h => h.of_heap hh) own started (by kernel_rfl) Tryd.func6
    (ChangeSpec.witness_at (enc := enc) (C := Tryd.checked) (os := os) (X := fun w _ => laidMetH Tryd.prog lst w) false (laidWorld os) #[.string ⟨#[]⟩, .slice none 0 0] 8 rfl (by kernel_rfl) (by kernel_rfl) (by kernel_rfl) (by kernel_rfl) (by kernel_rfl) (laidWorld_met os _)) ?_
  intro W base args ds gs before hval hW _ _ hL _
  obtain ⟨hH, sa, hSn⟩ := handle_of_laid hL
  exact contract H enc W base args ds gs before hval hW hH hSn

theorem row : Rows.LtlAgainSaid :=
  OpenClaim.holds_of_wide 6 Tryd.f6 rfl rfl rfl rfl rfl rfl rfl ⟨rfl, rfl, rfl, rfl, rfl⟩ rfl rfl rfl rfl rfl (by kernel_rfl) Tryd.func6 (by kernel_rfl)
    (of_decide_eq_true (by kernel_rfl)) (by unfold Func.isWrapper; first | (rw [if_pos (by decide +kernel)]; kernel_rfl) | (rw [if_neg (by decide +kernel)]; exact ⟨rfl, rfl⟩))
    (fun os started H enc _ => lifted os started H enc)

theorem proved : Rows.LtlAgainCardSaid :=
  Claim7.holds_tied_plain_at .later [] [.handle, .sentinel, .sentinel, .sentinel] true (true, "4ffe589768195fed4a224a4a767c9437a9c8e9ee0bf59311a0ec54e8c2d542ce") true
    row (fun _ h => by cases h) (by kernel_rfl) (fun _ h => by cases h) ltlAgain_row_tie rfl ⟨rfl, rfl⟩ (by kernel_rfl) rfl
    (fun f fn hf hfn => by
      obtain rfl : f = 6 := Option.some.inj ((show Tryd.prog.funcNamed "watchway/watchkeep.LtlAgain" = some 6 by kernel_rfl).symm.trans hf) |>.symm
      obtain rfl : fn = Tryd.f6 := (Option.some.inj (Tryd.func6.symm.trans hfn)).symm
      exact ⟨by kernel_rfl, fun j t ht => by
        rw [Tryd.params6] at ht
        have hm : t ∈ [9, 25] := by
          have := List.mem_of_getElem? (by simpa using ht)
          simpa using this
        have s0 : Tryd.prog.wantsStandIn 9 = false := by kernel_rfl
        have s1 : Tryd.prog.wantsStandIn 25 = false := by kernel_rfl
        simp only [List.mem_cons, List.not_mem_nil, or_false] at hm
        rcases hm with rfl | rfl
        · exact s0
        · exact s1⟩)
    (by kernel_rfl)
end Go.Proofs.YtikigaeihdmcaaaDoor.lawLtlAgain

