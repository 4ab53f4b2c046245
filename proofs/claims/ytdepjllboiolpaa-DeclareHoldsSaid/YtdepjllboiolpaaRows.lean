/-
  NARROWER THAN 'FOR EVERY INPUT', by the rows' own cells (each row's printed sentence says how): LassoTurns: loops · PushShapes: loops · FormulaOwn: loops · LassoStutters: loops · PushMeans: loops.
  DERIVED. THE GIVEN ROWS OF THIS SEAT. 6 by the template 'for every input the law returns true; each argument reads behind the call as it read before'; 0 by the template 'total and deterministic' (their statements: YtdepjllboiolpaaTotals.lean).
  GIVEN WITH THE SEED: the statements are not yours to turn. If you find one false, say at which input.
  Laid BY PROGRAM, IN A SANDBOX (cutbox-rows.mjs): the forced cells as the released guide's own fill.sh prints them over the translation 1524209c83e5bf0a… (all of the seat's roots in one cut). By AI agents, Wed Nov 11 2026. No macro, syntax, notation, axiom, sorry.
-/
import Derived.Test.YtdepjllboiolpaaChecked
import GoSem.Claim
import GoSem.ClaimJoined
import GoSem.ClaimMapViews
import Derived.JoinedTies
import Derived.KernelRfl
namespace Go.Proofs.Ytdepjllboiolpaa
/- THE CELL 'sum', in the pinned program and in every row, IS THE sha256 OF THE DUMP (.gsa) THAT YtdepjllboiolpaaProg.lean LOADS. Nothing in Lean hashes anything: it is a label: what it is worth is what the hold of that sum in a sandbox is worth. -/
noncomputable def Try.pinned : Pinned := { name := "ytdepjllboiolpaa", sum := "1524209c83e5bf0ada9f1d641e1e7b399fdfb8414b0538bbcfac927ccf58cb88", checked := Try.checked }
namespace Rows
def none {H : Type} : Left H := { results := [], args := [] }

/-- 'watchkeep.LassoTurns': WHATEVER THE INPUT: true; the input reads as it did. -/
def lassoTurnsSpec : ChangeSpec := { name := "lassoTurns", fn := fun _ => fun
  | [d1, d2, d3] => { results := [.lit (.bool true)], args := [d1, d2, d3] }
  | _ => none }
def lassoTurnsRow : OpenClaim := { program := "ytdepjllboiolpaa", sum := "1524209c83e5bf0ada9f1d641e1e7b399fdfb8414b0538bbcfac927ccf58cb88", func := "watchway/watchkeep.LassoTurns", spec := "lassoTurns", recurses := true, loops := true, apart := false }
def LassoTurnsSaid : Prop := lassoTurnsRow.holds Try.pinned (OpenSpec.ofChange lassoTurnsSpec)

/-- ITS FALSE NEIGHBOUR: 'it returns false'. Refute it at one input. -/
def lassoTurnsWrong : ChangeSpec := { name := "lassoTurns", fn := fun _ => fun
  | [d1, d2, d3] => { results := [.lit (.bool false)], args := [d1, d2, d3] }
  | _ => none }
def LassoTurnsWrongFalsely : Prop := lassoTurnsRow.holds Try.pinned (OpenSpec.ofChange lassoTurnsWrong)

/-- 'watchkeep.PushShapes': WHATEVER THE INPUT: true; the input reads as it did. -/
def pushShapesSpec : ChangeSpec := { name := "pushShapes", fn := fun _ => fun
  | [d] => { results := [.lit (.bool true)], args := [d] }
  | _ => none }
def pushShapesRow : OpenClaim := { program := "ytdepjllboiolpaa", sum := "1524209c83e5bf0ada9f1d641e1e7b399fdfb8414b0538bbcfac927ccf58cb88", func := "watchway/watchkeep.PushShapes", spec := "pushShapes", unfollowed := true, recurses := true, loops := true, apart := false }
def PushShapesSaid : Prop := pushShapesRow.holds Try.pinned (OpenSpec.ofChange pushShapesSpec)

/-- ITS FALSE NEIGHBOUR: 'it returns false'. Refute it at one input. -/
def pushShapesWrong : ChangeSpec := { name := "pushShapes", fn := fun _ => fun
  | [d] => { results := [.lit (.bool false)], args := [d] }
  | _ => none }
def PushShapesWrongFalsely : Prop := pushShapesRow.holds Try.pinned (OpenSpec.ofChange pushShapesWrong)

/-- 'watchkeep.FormulaOwn': WHATEVER THE INPUT: true; the input reads as it did. -/
def formulaOwnSpec : ChangeSpec := { name := "formulaOwn", fn := fun _ => fun
  | [d] => { results := [.lit (.bool true)], args := [d] }
  | _ => none }
def formulaOwnRow : OpenClaim := { program := "ytdepjllboiolpaa", sum := "1524209c83e5bf0ada9f1d641e1e7b399fdfb8414b0538bbcfac927ccf58cb88", func := "watchway/watchkeep.FormulaOwn", spec := "formulaOwn", unfollowed := true, recurses := true, loops := true, apart := false }
def FormulaOwnSaid : Prop := formulaOwnRow.holds Try.pinned (OpenSpec.ofChange formulaOwnSpec)

/-- ITS FALSE NEIGHBOUR: 'it returns false'. Refute it at one input. -/
def formulaOwnWrong : ChangeSpec := { name := "formulaOwn", fn := fun _ => fun
  | [d] => { results := [.lit (.bool false)], args := [d] }
  | _ => none }
def FormulaOwnWrongFalsely : Prop := formulaOwnRow.holds Try.pinned (OpenSpec.ofChange formulaOwnWrong)

/-- 'watchkeep.LassoStutters': WHATEVER THE INPUT: true; the input reads as it did. -/
def lassoStuttersSpec : ChangeSpec := { name := "lassoStutters", fn := fun _ => fun
  | [d1, d2, d3] => { results := [.lit (.bool true)], args := [d1, d2, d3] }
  | _ => none }
def lassoStuttersRow : OpenClaim := { program := "ytdepjllboiolpaa", sum := "1524209c83e5bf0ada9f1d641e1e7b399fdfb8414b0538bbcfac927ccf58cb88", func := "watchway/watchkeep.LassoStutters", spec := "lassoStutters", inPlace := ["slices.overlaps[uint64]"], unfollowed := true, recurses := true, loops := true, apart := false }
def LassoStuttersSaid : Prop := lassoStuttersRow.holds Try.pinned (OpenSpec.ofChange lassoStuttersSpec)

/-- ITS FALSE NEIGHBOUR: 'it returns false'. Refute it at one input. -/
def lassoStuttersWrong : ChangeSpec := { name := "lassoStutters", fn := fun _ => fun
  | [d1, d2, d3] => { results := [.lit (.bool false)], args := [d1, d2, d3] }
  | _ => none }
def LassoStuttersWrongFalsely : Prop := lassoStuttersRow.holds Try.pinned (OpenSpec.ofChange lassoStuttersWrong)

/-- 'watchkeep.PushMeans': WHATEVER THE INPUT: true; the input reads as it did. -/
def pushMeansSpec : ChangeSpec := { name := "pushMeans", fn := fun _ => fun
  | [d1, d2] => { results := [.lit (.bool true)], args := [d1, d2] }
  | _ => none }
def pushMeansRow : OpenClaim := { program := "ytdepjllboiolpaa", sum := "1524209c83e5bf0ada9f1d641e1e7b399fdfb8414b0538bbcfac927ccf58cb88", func := "watchway/watchkeep.PushMeans", spec := "pushMeans", unfollowed := true, recurses := true, loops := true, apart := false }
def PushMeansSaid : Prop := pushMeansRow.holds Try.pinned (OpenSpec.ofChange pushMeansSpec)

/-- ITS FALSE NEIGHBOUR: 'it returns false'. Refute it at one input. -/
def pushMeansWrong : ChangeSpec := { name := "pushMeans", fn := fun _ => fun
  | [d1, d2] => { results := [.lit (.bool false)], args := [d1, d2] }
  | _ => none }
def PushMeansWrongFalsely : Prop := pushMeansRow.holds Try.pinned (OpenSpec.ofChange pushMeansWrong)

/-- 'watchkeep.DeclareHolds': WHATEVER THE INPUT: true; the input reads as it did. -/
def declareHoldsSpec : ChangeSpec := { name := "declareHolds", fn := fun _ => fun
  | [d1, d2] => { results := [.lit (.bool true)], args := [d1, d2] }
  | _ => none }
def declareHoldsRow : OpenClaim := { program := "ytdepjllboiolpaa", sum := "1524209c83e5bf0ada9f1d641e1e7b399fdfb8414b0538bbcfac927ccf58cb88", func := "watchway/watchkeep.DeclareHolds", spec := "declareHolds", unfollowed := true, recurses := true, apart := false }
def DeclareHoldsSaid : Prop := declareHoldsRow.holds Try.pinned (OpenSpec.ofChange declareHoldsSpec)

/-- ITS FALSE NEIGHBOUR: 'it returns false'. Refute it at one input. -/
def declareHoldsWrong : ChangeSpec := { name := "declareHolds", fn := fun _ => fun
  | [d1, d2] => { results := [.lit (.bool false)], args := [d1, d2] }
  | _ => none }
def DeclareHoldsWrongFalsely : Prop := declareHoldsRow.holds Try.pinned (OpenSpec.ofChange declareHoldsWrong)

/- THE SECOND FORM. 'bulk': how many values and letters a reading holds, each counted each time it is reached (what is shared counts as often as it is met; a slice's spare places count too). A statement '..UptoSaid' is the law's where the arguments, and the package variables that the reading takes, are together of bulk at most 1048576: NARROWER than '..Said'. Prove '..Said' where nothing that the law and all that it calls make is longer than what came in: it says more and counts as full. Else prove '..UptoSaid'. A law counts once. -/
mutual
def uptoBulk {H : Type} : DataW H → Nat
  | .lit (.string bytes) => bytes.length + 1
  | .lit _ => 1
  | .nil => 1
  | .ptr d => uptoBulk d + 1
  | .slice elems spare => uptoBulkAll elems + uptoBulkAll spare + 1
  | .agg parts => uptoBulkAll parts + 1
  | .iface _ d => uptoBulk d + 1
  | .map entries => uptoBulkEntries entries + 1
  | .held _ => 1
def uptoBulkAll {H : Type} : List (DataW H) → Nat
  | [] => 0
  | d :: r => uptoBulk d + uptoBulkAll r
def uptoBulkEntries {H : Type} : List (Lit × DataW H) → Nat
  | [] => 0
  | x :: r => uptoBulkEntry x + uptoBulkEntries r
def uptoBulkEntry {H : Type} : Lit × DataW H → Nat
  | (.string bytes, d) => bytes.length + uptoBulk d + 1
  | (_, d) => uptoBulk d + 1
 end
def uptoSmall : (H : Type) → List (DataW H) → Bool := fun _ ds => decide (uptoBulkAll ds ≤ 1048576)
def OpenSpec.upto (s : _root_.Go.ChangeSpec) : _root_.Go.OpenSpec := { _root_.Go.OpenSpec.ofChange s with cond := some uptoSmall }

/-- 'watchkeep.LassoTurns', WHERE WHAT IT READS IS OF BULK AT MOST 1048576: true; the input reads as it did. -/
def lassoTurnsUptoRow : OpenClaim := { program := "ytdepjllboiolpaa", sum := "1524209c83e5bf0ada9f1d641e1e7b399fdfb8414b0538bbcfac927ccf58cb88", func := "watchway/watchkeep.LassoTurns", spec := "lassoTurns", recurses := true, loops := true, apart := false, narrowed := true }
def LassoTurnsUptoSaid : Prop := lassoTurnsUptoRow.holds Try.pinned (OpenSpec.upto lassoTurnsSpec)

/-- 'watchkeep.PushShapes', WHERE WHAT IT READS IS OF BULK AT MOST 1048576: true; the input reads as it did. -/
def pushShapesUptoRow : OpenClaim := { program := "ytdepjllboiolpaa", sum := "1524209c83e5bf0ada9f1d641e1e7b399fdfb8414b0538bbcfac927ccf58cb88", func := "watchway/watchkeep.PushShapes", spec := "pushShapes", unfollowed := true, recurses := true, loops := true, apart := false, narrowed := true }
def PushShapesUptoSaid : Prop := pushShapesUptoRow.holds Try.pinned (OpenSpec.upto pushShapesSpec)

/-- 'watchkeep.FormulaOwn', WHERE WHAT IT READS IS OF BULK AT MOST 1048576: true; the input reads as it did. -/
def formulaOwnUptoRow : OpenClaim := { program := "ytdepjllboiolpaa", sum := "1524209c83e5bf0ada9f1d641e1e7b399fdfb8414b0538bbcfac927ccf58cb88", func := "watchway/watchkeep.FormulaOwn", spec := "formulaOwn", unfollowed := true, recurses := true, loops := true, apart := false, narrowed := true }
def FormulaOwnUptoSaid : Prop := formulaOwnUptoRow.holds Try.pinned (OpenSpec.upto formulaOwnSpec)

/-- 'watchkeep.LassoStutters', WHERE WHAT IT READS IS OF BULK AT MOST 1048576: true; the input reads as it did. -/
def lassoStuttersUptoRow : OpenClaim := { program := "ytdepjllboiolpaa", sum := "1524209c83e5bf0ada9f1d641e1e7b399fdfb8414b0538bbcfac927ccf58cb88", func := "watchway/watchkeep.LassoStutters", spec := "lassoStutters", inPlace := ["slices.overlaps[uint64]"], unfollowed := true, recurses := true, loops := true, apart := false, narrowed := true }
def LassoStuttersUptoSaid : Prop := lassoStuttersUptoRow.holds Try.pinned (OpenSpec.upto lassoStuttersSpec)

/-- 'watchkeep.PushMeans', WHERE WHAT IT READS IS OF BULK AT MOST 1048576: true; the input reads as it did. -/
def pushMeansUptoRow : OpenClaim := { program := "ytdepjllboiolpaa", sum := "1524209c83e5bf0ada9f1d641e1e7b399fdfb8414b0538bbcfac927ccf58cb88", func := "watchway/watchkeep.PushMeans", spec := "pushMeans", unfollowed := true, recurses := true, loops := true, apart := false, narrowed := true }
def PushMeansUptoSaid : Prop := pushMeansUptoRow.holds Try.pinned (OpenSpec.upto pushMeansSpec)

/-- 'watchkeep.DeclareHolds', WHERE WHAT IT READS IS OF BULK AT MOST 1048576: true; the input reads as it did. -/
def declareHoldsUptoRow : OpenClaim := { program := "ytdepjllboiolpaa", sum := "1524209c83e5bf0ada9f1d641e1e7b399fdfb8414b0538bbcfac927ccf58cb88", func := "watchway/watchkeep.DeclareHolds", spec := "declareHolds", unfollowed := true, recurses := true, apart := false, narrowed := true }
def DeclareHoldsUptoSaid : Prop := declareHoldsUptoRow.holds Try.pinned (OpenSpec.upto declareHoldsSpec)

end Rows
end Go.Proofs.Ytdepjllboiolpaa
