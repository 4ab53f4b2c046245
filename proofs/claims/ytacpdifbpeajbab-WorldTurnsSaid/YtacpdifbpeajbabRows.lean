/-
  No cell of these rows narrows 'for every input' (looked for: loops, veiled, ifaces, maps, wideKeys, modest, calm, conditions, laid).
  DERIVED. THE GIVEN ROWS OF THIS SEAT. 6 by the template 'for every input the law returns true; each argument reads behind the call as it read before'; 0 by the template 'total and deterministic' (their statements: YtacpdifbpeajbabTotals.lean).
  GIVEN WITH THE SEED: the statements are not yours to turn. If you find one false, say at which input.
  Laid BY PROGRAM, IN A SANDBOX (cutbox-rows.mjs): the forced cells as the released guide's own fill.sh prints them over the translation 7bc9156b89b7f6ff… (all of the seat's roots in one cut). By AI agents, Wed Nov 11 2026. No macro, syntax, notation, axiom, sorry.
-/
import Derived.Test.YtacpdifbpeajbabChecked
import GoSem.Claim
import GoSem.ClaimJoined
import GoSem.ClaimMapViews
import Derived.JoinedTies
import Derived.KernelRfl
namespace Go.Proofs.Ytacpdifbpeajbab
/- THE CELL 'sum', in the pinned program and in every row, IS THE sha256 OF THE DUMP (.gsa) THAT YtacpdifbpeajbabProg.lean LOADS. Nothing in Lean hashes anything: it is a label: what it is worth is what the hold of that sum in a sandbox is worth. -/
noncomputable def Try.pinned : Pinned := { name := "ytacpdifbpeajbab", sum := "7bc9156b89b7f6ff175ecaf2be2099f16bb0d7676fb06663a35efdec36fe878a", checked := Try.checked }
namespace Rows
def none {H : Type} : Left H := { results := [], args := [] }

/-- 'watchkeep.DwyerNots': WHATEVER THE INPUT: true; the input reads as it did. -/
def dwyerNotsSpec : ChangeSpec := { name := "dwyerNots", fn := fun _ => fun
  | [d1, d2, d3, d4] => { results := [.lit (.bool true)], args := [d1, d2, d3, d4] }
  | _ => none }
def dwyerNotsRow : OpenClaim := { program := "ytacpdifbpeajbab", sum := "7bc9156b89b7f6ff175ecaf2be2099f16bb0d7676fb06663a35efdec36fe878a", func := "watchway/watchkeep.DwyerNots", spec := "dwyerNots", apart := false }
def DwyerNotsSaid : Prop := dwyerNotsRow.holds Try.pinned (OpenSpec.ofChange dwyerNotsSpec)

/-- ITS FALSE NEIGHBOUR: 'it returns false'. Refute it at one input. -/
def dwyerNotsWrong : ChangeSpec := { name := "dwyerNots", fn := fun _ => fun
  | [d1, d2, d3, d4] => { results := [.lit (.bool false)], args := [d1, d2, d3, d4] }
  | _ => none }
def DwyerNotsWrongFalsely : Prop := dwyerNotsRow.holds Try.pinned (OpenSpec.ofChange dwyerNotsWrong)

/-- 'watchkeep.SccParts': WHATEVER THE INPUT: true; the input reads as it did. -/
def sccPartsSpec : ChangeSpec := { name := "sccParts", fn := fun _ => fun
  | [d] => { results := [.lit (.bool true)], args := [d] }
  | _ => none }
def sccPartsRow : OpenClaim := { program := "ytacpdifbpeajbab", sum := "7bc9156b89b7f6ff175ecaf2be2099f16bb0d7676fb06663a35efdec36fe878a", func := "watchway/watchkeep.SccParts", spec := "sccParts", unfollowed := true, recurses := true, apart := false }
def SccPartsSaid : Prop := sccPartsRow.holds Try.pinned (OpenSpec.ofChange sccPartsSpec)

/-- ITS FALSE NEIGHBOUR: 'it returns false'. Refute it at one input. -/
def sccPartsWrong : ChangeSpec := { name := "sccParts", fn := fun _ => fun
  | [d] => { results := [.lit (.bool false)], args := [d] }
  | _ => none }
def SccPartsWrongFalsely : Prop := sccPartsRow.holds Try.pinned (OpenSpec.ofChange sccPartsWrong)

/-- 'watchkeep.DeclareJoins': WHATEVER THE INPUT: true; the input reads as it did. -/
def declareJoinsSpec : ChangeSpec := { name := "declareJoins", fn := fun _ => fun
  | [d1, d2, d3, d4] => { results := [.lit (.bool true)], args := [d1, d2, d3, d4] }
  | _ => none }
def declareJoinsRow : OpenClaim := { program := "ytacpdifbpeajbab", sum := "7bc9156b89b7f6ff175ecaf2be2099f16bb0d7676fb06663a35efdec36fe878a", func := "watchway/watchkeep.DeclareJoins", spec := "declareJoins", unfollowed := true, recurses := true, apart := false }
def DeclareJoinsSaid : Prop := declareJoinsRow.holds Try.pinned (OpenSpec.ofChange declareJoinsSpec)

/-- ITS FALSE NEIGHBOUR: 'it returns false'. Refute it at one input. -/
def declareJoinsWrong : ChangeSpec := { name := "declareJoins", fn := fun _ => fun
  | [d1, d2, d3, d4] => { results := [.lit (.bool false)], args := [d1, d2, d3, d4] }
  | _ => none }
def DeclareJoinsWrongFalsely : Prop := declareJoinsRow.holds Try.pinned (OpenSpec.ofChange declareJoinsWrong)

/-- 'watchkeep.SccShort': WHATEVER THE INPUT: true; the input reads as it did. -/
def sccShortSpec : ChangeSpec := { name := "sccShort", fn := fun _ => fun
  | [d1, d2, d3] => { results := [.lit (.bool true)], args := [d1, d2, d3] }
  | _ => none }
def sccShortRow : OpenClaim := { program := "ytacpdifbpeajbab", sum := "7bc9156b89b7f6ff175ecaf2be2099f16bb0d7676fb06663a35efdec36fe878a", func := "watchway/watchkeep.SccShort", spec := "sccShort", unfollowed := true, recurses := true, apart := false }
def SccShortSaid : Prop := sccShortRow.holds Try.pinned (OpenSpec.ofChange sccShortSpec)

/-- ITS FALSE NEIGHBOUR: 'it returns false'. Refute it at one input. -/
def sccShortWrong : ChangeSpec := { name := "sccShort", fn := fun _ => fun
  | [d1, d2, d3] => { results := [.lit (.bool false)], args := [d1, d2, d3] }
  | _ => none }
def SccShortWrongFalsely : Prop := sccShortRow.holds Try.pinned (OpenSpec.ofChange sccShortWrong)

/-- 'watchkeep.WorldTurns': WHATEVER THE INPUT: true; the input reads as it did. -/
def worldTurnsSpec : ChangeSpec := { name := "worldTurns", fn := fun _ => fun
  | [d1, d2, d3] => { results := [.lit (.bool true)], args := [d1, d2, d3] }
  | _ => none }
def worldTurnsRow : OpenClaim := { program := "ytacpdifbpeajbab", sum := "7bc9156b89b7f6ff175ecaf2be2099f16bb0d7676fb06663a35efdec36fe878a", func := "watchway/watchkeep.WorldTurns", spec := "worldTurns", unfollowed := true, recurses := true, apart := false }
def WorldTurnsSaid : Prop := worldTurnsRow.holds Try.pinned (OpenSpec.ofChange worldTurnsSpec)

/-- ITS FALSE NEIGHBOUR: 'it returns false'. Refute it at one input. -/
def worldTurnsWrong : ChangeSpec := { name := "worldTurns", fn := fun _ => fun
  | [d1, d2, d3] => { results := [.lit (.bool false)], args := [d1, d2, d3] }
  | _ => none }
def WorldTurnsWrongFalsely : Prop := worldTurnsRow.holds Try.pinned (OpenSpec.ofChange worldTurnsWrong)

/-- 'watchkeep.SccTurned': WHATEVER THE INPUT: true; the input reads as it did. -/
def sccTurnedSpec : ChangeSpec := { name := "sccTurned", fn := fun _ => fun
  | [d1, d2] => { results := [.lit (.bool true)], args := [d1, d2] }
  | _ => none }
def sccTurnedRow : OpenClaim := { program := "ytacpdifbpeajbab", sum := "7bc9156b89b7f6ff175ecaf2be2099f16bb0d7676fb06663a35efdec36fe878a", func := "watchway/watchkeep.SccTurned", spec := "sccTurned", unfollowed := true, recurses := true, apart := false }
def SccTurnedSaid : Prop := sccTurnedRow.holds Try.pinned (OpenSpec.ofChange sccTurnedSpec)

/-- ITS FALSE NEIGHBOUR: 'it returns false'. Refute it at one input. -/
def sccTurnedWrong : ChangeSpec := { name := "sccTurned", fn := fun _ => fun
  | [d1, d2] => { results := [.lit (.bool false)], args := [d1, d2] }
  | _ => none }
def SccTurnedWrongFalsely : Prop := sccTurnedRow.holds Try.pinned (OpenSpec.ofChange sccTurnedWrong)

/- THE SECOND FORM. 'bulk': how many values and letters a reading holds, each counted each time it is reached (what is shared counts as often as it is met; a slice's spare places count too). A statement '..UptoSaid' is the law's where the arguments, and the package variables that the reading takes, are together of bulk at most 1048576: NARROWER than '..Said'. Prove '..Said' where nothing that the law and all that it calls make is longer than what came in: it says more and counts as full. Else prove '..UptoSaid'. A law counts once. -/
mutual
def uptoBulk {H : Type} : DataW H → Nat
  | .lit (.string bytes) => bytes.length + 1
  | .lit _ => 1
  | .nil => 1
  | .ptr d => uptoBulk d + 1
  | .slice elems spare => uptoBulkAll elems + uptoBulkAll spare + 1
  | .agg parts => uptoBulkAll parts + 1
  | .iface _ d => uptoBulk d + 1
  | .map entries => uptoBulkEntries entries + 1
  | .held _ => 1
def uptoBulkAll {H : Type} : List (DataW H) → Nat
  | [] => 0
  | d :: r => uptoBulk d + uptoBulkAll r
def uptoBulkEntries {H : Type} : List (Lit × DataW H) → Nat
  | [] => 0
  | x :: r => uptoBulkEntry x + uptoBulkEntries r
def uptoBulkEntry {H : Type} : Lit × DataW H → Nat
  | (.string bytes, d) => bytes.length + uptoBulk d + 1
  | (_, d) => uptoBulk d + 1
 end
def uptoSmall : (H : Type) → List (DataW H) → Bool := fun _ ds => decide (uptoBulkAll ds ≤ 1048576)
def OpenSpec.upto (s : _root_.Go.ChangeSpec) : _root_.Go.OpenSpec := { _root_.Go.OpenSpec.ofChange s with cond := some uptoSmall }

/-- 'watchkeep.DwyerNots', WHERE WHAT IT READS IS OF BULK AT MOST 1048576: true; the input reads as it did. -/
def dwyerNotsUptoRow : OpenClaim := { program := "ytacpdifbpeajbab", sum := "7bc9156b89b7f6ff175ecaf2be2099f16bb0d7676fb06663a35efdec36fe878a", func := "watchway/watchkeep.DwyerNots", spec := "dwyerNots", apart := false, narrowed := true }
def DwyerNotsUptoSaid : Prop := dwyerNotsUptoRow.holds Try.pinned (OpenSpec.upto dwyerNotsSpec)

/-- 'watchkeep.SccParts', WHERE WHAT IT READS IS OF BULK AT MOST 1048576: true; the input reads as it did. -/
def sccPartsUptoRow : OpenClaim := { program := "ytacpdifbpeajbab", sum := "7bc9156b89b7f6ff175ecaf2be2099f16bb0d7676fb06663a35efdec36fe878a", func := "watchway/watchkeep.SccParts", spec := "sccParts", unfollowed := true, recurses := true, apart := false, narrowed := true }
def SccPartsUptoSaid : Prop := sccPartsUptoRow.holds Try.pinned (OpenSpec.upto sccPartsSpec)

/-- 'watchkeep.DeclareJoins', WHERE WHAT IT READS IS OF BULK AT MOST 1048576: true; the input reads as it did. -/
def declareJoinsUptoRow : OpenClaim := { program := "ytacpdifbpeajbab", sum := "7bc9156b89b7f6ff175ecaf2be2099f16bb0d7676fb06663a35efdec36fe878a", func := "watchway/watchkeep.DeclareJoins", spec := "declareJoins", unfollowed := true, recurses := true, apart := false, narrowed := true }
def DeclareJoinsUptoSaid : Prop := declareJoinsUptoRow.holds Try.pinned (OpenSpec.upto declareJoinsSpec)

/-- 'watchkeep.SccShort', WHERE WHAT IT READS IS OF BULK AT MOST 1048576: true; the input reads as it did. -/
def sccShortUptoRow : OpenClaim := { program := "ytacpdifbpeajbab", sum := "7bc9156b89b7f6ff175ecaf2be2099f16bb0d7676fb06663a35efdec36fe878a", func := "watchway/watchkeep.SccShort", spec := "sccShort", unfollowed := true, recurses := true, apart := false, narrowed := true }
def SccShortUptoSaid : Prop := sccShortUptoRow.holds Try.pinned (OpenSpec.upto sccShortSpec)

/-- 'watchkeep.WorldTurns', WHERE WHAT IT READS IS OF BULK AT MOST 1048576: true; the input reads as it did. -/
def worldTurnsUptoRow : OpenClaim := { program := "ytacpdifbpeajbab", sum := "7bc9156b89b7f6ff175ecaf2be2099f16bb0d7676fb06663a35efdec36fe878a", func := "watchway/watchkeep.WorldTurns", spec := "worldTurns", unfollowed := true, recurses := true, apart := false, narrowed := true }
def WorldTurnsUptoSaid : Prop := worldTurnsUptoRow.holds Try.pinned (OpenSpec.upto worldTurnsSpec)

/-- 'watchkeep.SccTurned', WHERE WHAT IT READS IS OF BULK AT MOST 1048576: true; the input reads as it did. -/
def sccTurnedUptoRow : OpenClaim := { program := "ytacpdifbpeajbab", sum := "7bc9156b89b7f6ff175ecaf2be2099f16bb0d7676fb06663a35efdec36fe878a", func := "watchway/watchkeep.SccTurned", spec := "sccTurned", unfollowed := true, recurses := true, apart := false, narrowed := true }
def SccTurnedUptoSaid : Prop := sccTurnedUptoRow.holds Try.pinned (OpenSpec.upto sccTurnedSpec)

end Rows
end Go.Proofs.Ytacpdifbpeajbab
