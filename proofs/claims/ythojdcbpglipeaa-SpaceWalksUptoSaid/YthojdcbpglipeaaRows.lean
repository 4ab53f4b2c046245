/-
  NARROWER THAN 'FOR EVERY INPUT', by the rows' own cells (each row's printed sentence says how): LabelLaws: loops · LabelTwins: loops.
  DERIVED. THE GIVEN ROWS OF THIS SEAT. 12 by the template 'for every input the law returns true; each argument reads behind the call as it read before'; 0 by the template 'total and deterministic' (their statements: YthojdcbpglipeaaTotals.lean).
  GIVEN WITH THE SEED: the statements are not yours to turn. If you find one false, say at which input.
  Laid BY PROGRAM, IN A SANDBOX (cutbox-rows.mjs): the forced cells as the released guide's own fill.sh prints them over the translation 1e8a989cf0b7d171… (all of the seat's roots in one cut). By AI agents, Wed Nov 11 2026. No macro, syntax, notation, axiom, sorry.
-/
import Derived.Test.YthojdcbpglipeaaChecked
import GoSem.Claim
import GoSem.ClaimJoined
import GoSem.ClaimMapViews
import Derived.JoinedTies
import Derived.KernelRfl
namespace Go.Proofs.Ythojdcbpglipeaa
/- THE CELL 'sum', in the pinned program and in every row, IS THE sha256 OF THE DUMP (.gsa) THAT YthojdcbpglipeaaProg.lean LOADS. Nothing in Lean hashes anything: it is a label: what it is worth is what the hold of that sum in a sandbox is worth. -/
noncomputable def Try.pinned : Pinned := { name := "ythojdcbpglipeaa", sum := "1e8a989cf0b7d171a7781e2820c539028839c9d663a2e47851573371fdb86761", checked := Try.checked }
namespace Rows
def none {H : Type} : Left H := { results := [], args := [] }

/-- 'watchkeep.AutoOwn': WHATEVER THE INPUT: true; the input reads as it did. -/
def autoOwnSpec : ChangeSpec := { name := "autoOwn", fn := fun _ => fun
  | [d] => { results := [.lit (.bool true)], args := [d] }
  | _ => none }
def autoOwnRow : OpenClaim := { program := "ythojdcbpglipeaa", sum := "1e8a989cf0b7d171a7781e2820c539028839c9d663a2e47851573371fdb86761", func := "watchway/watchkeep.AutoOwn", spec := "autoOwn", unfollowed := true, recurses := true, plainKeys := false, apart := false }
def AutoOwnSaid : Prop := autoOwnRow.holds Try.pinned (OpenSpec.ofChange autoOwnSpec)

/-- ITS FALSE NEIGHBOUR: 'it returns false'. Refute it at one input. -/
def autoOwnWrong : ChangeSpec := { name := "autoOwn", fn := fun _ => fun
  | [d] => { results := [.lit (.bool false)], args := [d] }
  | _ => none }
def AutoOwnWrongFalsely : Prop := autoOwnRow.holds Try.pinned (OpenSpec.ofChange autoOwnWrong)

/-- 'watchkeep.DeclareSilent': WHATEVER THE INPUT: true; the input reads as it did. -/
def declareSilentSpec : ChangeSpec := { name := "declareSilent", fn := fun _ => fun
  | [d1, d2, d3] => { results := [.lit (.bool true)], args := [d1, d2, d3] }
  | _ => none }
def declareSilentRow : OpenClaim := { program := "ythojdcbpglipeaa", sum := "1e8a989cf0b7d171a7781e2820c539028839c9d663a2e47851573371fdb86761", func := "watchway/watchkeep.DeclareSilent", spec := "declareSilent", inPlace := ["slices.overlaps[uint64]"], unfollowed := true, recurses := true, plainKeys := false, apart := false }
def DeclareSilentSaid : Prop := declareSilentRow.holds Try.pinned (OpenSpec.ofChange declareSilentSpec)

/-- ITS FALSE NEIGHBOUR: 'it returns false'. Refute it at one input. -/
def declareSilentWrong : ChangeSpec := { name := "declareSilent", fn := fun _ => fun
  | [d1, d2, d3] => { results := [.lit (.bool false)], args := [d1, d2, d3] }
  | _ => none }
def DeclareSilentWrongFalsely : Prop := declareSilentRow.holds Try.pinned (OpenSpec.ofChange declareSilentWrong)

/-- 'watchkeep.DwyerHolds': WHATEVER THE INPUT: true; the input reads as it did. -/
def dwyerHoldsSpec : ChangeSpec := { name := "dwyerHolds", fn := fun _ => fun
  | [d1, d2] => { results := [.lit (.bool true)], args := [d1, d2] }
  | _ => none }
def dwyerHoldsRow : OpenClaim := { program := "ythojdcbpglipeaa", sum := "1e8a989cf0b7d171a7781e2820c539028839c9d663a2e47851573371fdb86761", func := "watchway/watchkeep.DwyerHolds", spec := "dwyerHolds", unfollowed := true, recurses := true, plainKeys := false, apart := false }
def DwyerHoldsSaid : Prop := dwyerHoldsRow.holds Try.pinned (OpenSpec.ofChange dwyerHoldsSpec)

/-- ITS FALSE NEIGHBOUR: 'it returns false'. Refute it at one input. -/
def dwyerHoldsWrong : ChangeSpec := { name := "dwyerHolds", fn := fun _ => fun
  | [d1, d2] => { results := [.lit (.bool false)], args := [d1, d2] }
  | _ => none }
def DwyerHoldsWrongFalsely : Prop := dwyerHoldsRow.holds Try.pinned (OpenSpec.ofChange dwyerHoldsWrong)

/-- 'watchkeep.AutoOne': WHATEVER THE INPUT: true; the input reads as it did. -/
def autoOneSpec : ChangeSpec := { name := "autoOne", fn := fun _ => fun
  | [d1, d2] => { results := [.lit (.bool true)], args := [d1, d2] }
  | _ => none }
def autoOneRow : OpenClaim := { program := "ythojdcbpglipeaa", sum := "1e8a989cf0b7d171a7781e2820c539028839c9d663a2e47851573371fdb86761", func := "watchway/watchkeep.AutoOne", spec := "autoOne", unfollowed := true, recurses := true, plainKeys := false, apart := false }
def AutoOneSaid : Prop := autoOneRow.holds Try.pinned (OpenSpec.ofChange autoOneSpec)

/-- ITS FALSE NEIGHBOUR: 'it returns false'. Refute it at one input. -/
def autoOneWrong : ChangeSpec := { name := "autoOne", fn := fun _ => fun
  | [d1, d2] => { results := [.lit (.bool false)], args := [d1, d2] }
  | _ => none }
def AutoOneWrongFalsely : Prop := autoOneRow.holds Try.pinned (OpenSpec.ofChange autoOneWrong)

/-- 'watchkeep.AutoPairs': WHATEVER THE INPUT: true; the input reads as it did. -/
def autoPairsSpec : ChangeSpec := { name := "autoPairs", fn := fun _ => fun
  | [d1, d2, d3] => { results := [.lit (.bool true)], args := [d1, d2, d3] }
  | _ => none }
def autoPairsRow : OpenClaim := { program := "ythojdcbpglipeaa", sum := "1e8a989cf0b7d171a7781e2820c539028839c9d663a2e47851573371fdb86761", func := "watchway/watchkeep.AutoPairs", spec := "autoPairs", unfollowed := true, recurses := true, plainKeys := false, apart := false }
def AutoPairsSaid : Prop := autoPairsRow.holds Try.pinned (OpenSpec.ofChange autoPairsSpec)

/-- ITS FALSE NEIGHBOUR: 'it returns false'. Refute it at one input. -/
def autoPairsWrong : ChangeSpec := { name := "autoPairs", fn := fun _ => fun
  | [d1, d2, d3] => { results := [.lit (.bool false)], args := [d1, d2, d3] }
  | _ => none }
def AutoPairsWrongFalsely : Prop := autoPairsRow.holds Try.pinned (OpenSpec.ofChange autoPairsWrong)

/-- 'watchkeep.GameSwaps': WHATEVER THE INPUT: true; the input reads as it did. -/
def gameSwapsSpec : ChangeSpec := { name := "gameSwaps", fn := fun _ => fun
  | [d1, d2, d3, d4] => { results := [.lit (.bool true)], args := [d1, d2, d3, d4] }
  | _ => none }
def gameSwapsRow : OpenClaim := { program := "ythojdcbpglipeaa", sum := "1e8a989cf0b7d171a7781e2820c539028839c9d663a2e47851573371fdb86761", func := "watchway/watchkeep.GameSwaps", spec := "gameSwaps", unfollowed := true, recurses := true, plainKeys := false, apart := false }
def GameSwapsSaid : Prop := gameSwapsRow.holds Try.pinned (OpenSpec.ofChange gameSwapsSpec)

/-- ITS FALSE NEIGHBOUR: 'it returns false'. Refute it at one input. -/
def gameSwapsWrong : ChangeSpec := { name := "gameSwaps", fn := fun _ => fun
  | [d1, d2, d3, d4] => { results := [.lit (.bool false)], args := [d1, d2, d3, d4] }
  | _ => none }
def GameSwapsWrongFalsely : Prop := gameSwapsRow.holds Try.pinned (OpenSpec.ofChange gameSwapsWrong)

/-- 'watchkeep.LabelLaws': WHATEVER THE INPUT: true; the input reads as it did. -/
def labelLawsSpec : ChangeSpec := { name := "labelLaws", fn := fun _ => fun
  | [d1, d2, d3] => { results := [.lit (.bool true)], args := [d1, d2, d3] }
  | _ => none }
def labelLawsRow : OpenClaim := { program := "ythojdcbpglipeaa", sum := "1e8a989cf0b7d171a7781e2820c539028839c9d663a2e47851573371fdb86761", func := "watchway/watchkeep.LabelLaws", spec := "labelLaws", unfollowed := true, recurses := true, loops := true, plainKeys := false, apart := false }
def LabelLawsSaid : Prop := labelLawsRow.holds Try.pinned (OpenSpec.ofChange labelLawsSpec)

/-- ITS FALSE NEIGHBOUR: 'it returns false'. Refute it at one input. -/
def labelLawsWrong : ChangeSpec := { name := "labelLaws", fn := fun _ => fun
  | [d1, d2, d3] => { results := [.lit (.bool false)], args := [d1, d2, d3] }
  | _ => none }
def LabelLawsWrongFalsely : Prop := labelLawsRow.holds Try.pinned (OpenSpec.ofChange labelLawsWrong)

/-- 'watchkeep.LabelTwins': WHATEVER THE INPUT: true; the input reads as it did. -/
def labelTwinsSpec : ChangeSpec := { name := "labelTwins", fn := fun _ => fun
  | [d1, d2, d3] => { results := [.lit (.bool true)], args := [d1, d2, d3] }
  | _ => none }
def labelTwinsRow : OpenClaim := { program := "ythojdcbpglipeaa", sum := "1e8a989cf0b7d171a7781e2820c539028839c9d663a2e47851573371fdb86761", func := "watchway/watchkeep.LabelTwins", spec := "labelTwins", unfollowed := true, recurses := true, loops := true, plainKeys := false, apart := false }
def LabelTwinsSaid : Prop := labelTwinsRow.holds Try.pinned (OpenSpec.ofChange labelTwinsSpec)

/-- ITS FALSE NEIGHBOUR: 'it returns false'. Refute it at one input. -/
def labelTwinsWrong : ChangeSpec := { name := "labelTwins", fn := fun _ => fun
  | [d1, d2, d3] => { results := [.lit (.bool false)], args := [d1, d2, d3] }
  | _ => none }
def LabelTwinsWrongFalsely : Prop := labelTwinsRow.holds Try.pinned (OpenSpec.ofChange labelTwinsWrong)

/-- 'watchkeep.GameFires': WHATEVER THE INPUT: true; the input reads as it did. -/
def gameFiresSpec : ChangeSpec := { name := "gameFires", fn := fun _ => fun
  | [d1, d2] => { results := [.lit (.bool true)], args := [d1, d2] }
  | _ => none }
def gameFiresRow : OpenClaim := { program := "ythojdcbpglipeaa", sum := "1e8a989cf0b7d171a7781e2820c539028839c9d663a2e47851573371fdb86761", func := "watchway/watchkeep.GameFires", spec := "gameFires", unfollowed := true, recurses := true, plainKeys := false, apart := false }
def GameFiresSaid : Prop := gameFiresRow.holds Try.pinned (OpenSpec.ofChange gameFiresSpec)

/-- ITS FALSE NEIGHBOUR: 'it returns false'. Refute it at one input. -/
def gameFiresWrong : ChangeSpec := { name := "gameFires", fn := fun _ => fun
  | [d1, d2] => { results := [.lit (.bool false)], args := [d1, d2] }
  | _ => none }
def GameFiresWrongFalsely : Prop := gameFiresRow.holds Try.pinned (OpenSpec.ofChange gameFiresWrong)

/-- 'watchkeep.SpaceWalks': WHATEVER THE INPUT: true; the input reads as it did. -/
def spaceWalksSpec : ChangeSpec := { name := "spaceWalks", fn := fun _ => fun
  | [d1, d2, d3, d4] => { results := [.lit (.bool true)], args := [d1, d2, d3, d4] }
  | _ => none }
def spaceWalksRow : OpenClaim := { program := "ythojdcbpglipeaa", sum := "1e8a989cf0b7d171a7781e2820c539028839c9d663a2e47851573371fdb86761", func := "watchway/watchkeep.SpaceWalks", spec := "spaceWalks", unfollowed := true, recurses := true, plainKeys := false, apart := false }
def SpaceWalksSaid : Prop := spaceWalksRow.holds Try.pinned (OpenSpec.ofChange spaceWalksSpec)

/-- ITS FALSE NEIGHBOUR: 'it returns false'. Refute it at one input. -/
def spaceWalksWrong : ChangeSpec := { name := "spaceWalks", fn := fun _ => fun
  | [d1, d2, d3, d4] => { results := [.lit (.bool false)], args := [d1, d2, d3, d4] }
  | _ => none }
def SpaceWalksWrongFalsely : Prop := spaceWalksRow.holds Try.pinned (OpenSpec.ofChange spaceWalksWrong)

/-- 'watchkeep.SpaceCounts': WHATEVER THE INPUT: true; the input reads as it did. -/
def spaceCountsSpec : ChangeSpec := { name := "spaceCounts", fn := fun _ => fun
  | [d1, d2, d3] => { results := [.lit (.bool true)], args := [d1, d2, d3] }
  | _ => none }
def spaceCountsRow : OpenClaim := { program := "ythojdcbpglipeaa", sum := "1e8a989cf0b7d171a7781e2820c539028839c9d663a2e47851573371fdb86761", func := "watchway/watchkeep.SpaceCounts", spec := "spaceCounts", unfollowed := true, recurses := true, plainKeys := false, apart := false }
def SpaceCountsSaid : Prop := spaceCountsRow.holds Try.pinned (OpenSpec.ofChange spaceCountsSpec)

/-- ITS FALSE NEIGHBOUR: 'it returns false'. Refute it at one input. -/
def spaceCountsWrong : ChangeSpec := { name := "spaceCounts", fn := fun _ => fun
  | [d1, d2, d3] => { results := [.lit (.bool false)], args := [d1, d2, d3] }
  | _ => none }
def SpaceCountsWrongFalsely : Prop := spaceCountsRow.holds Try.pinned (OpenSpec.ofChange spaceCountsWrong)

/-- 'watchkeep.SpaceBounds': WHATEVER THE INPUT: true; the input reads as it did. -/
def spaceBoundsSpec : ChangeSpec := { name := "spaceBounds", fn := fun _ => fun
  | [d1, d2, d3, d4, d5] => { results := [.lit (.bool true)], args := [d1, d2, d3, d4, d5] }
  | _ => none }
def spaceBoundsRow : OpenClaim := { program := "ythojdcbpglipeaa", sum := "1e8a989cf0b7d171a7781e2820c539028839c9d663a2e47851573371fdb86761", func := "watchway/watchkeep.SpaceBounds", spec := "spaceBounds", unfollowed := true, recurses := true, plainKeys := false, apart := false }
def SpaceBoundsSaid : Prop := spaceBoundsRow.holds Try.pinned (OpenSpec.ofChange spaceBoundsSpec)

/-- ITS FALSE NEIGHBOUR: 'it returns false'. Refute it at one input. -/
def spaceBoundsWrong : ChangeSpec := { name := "spaceBounds", fn := fun _ => fun
  | [d1, d2, d3, d4, d5] => { results := [.lit (.bool false)], args := [d1, d2, d3, d4, d5] }
  | _ => none }
def SpaceBoundsWrongFalsely : Prop := spaceBoundsRow.holds Try.pinned (OpenSpec.ofChange spaceBoundsWrong)

/- THE SECOND FORM. 'bulk': how many values and letters a reading holds, each counted each time it is reached (what is shared counts as often as it is met; a slice's spare places count too). A statement '..UptoSaid' is the law's where the arguments, and the package variables that the reading takes, are together of bulk at most 1048576: NARROWER than '..Said'. Prove '..Said' where nothing that the law and all that it calls make is longer than what came in: it says more and counts as full. Else prove '..UptoSaid'. A law counts once. -/
mutual
def uptoBulk {H : Type} : DataW H → Nat
  | .lit (.string bytes) => bytes.length + 1
  | .lit _ => 1
  | .nil => 1
  | .ptr d => uptoBulk d + 1
  | .slice elems spare => uptoBulkAll elems + uptoBulkAll spare + 1
  | .agg parts => uptoBulkAll parts + 1
  | .iface _ d => uptoBulk d + 1
  | .map entries => uptoBulkEntries entries + 1
  | .held _ => 1
def uptoBulkAll {H : Type} : List (DataW H) → Nat
  | [] => 0
  | d :: r => uptoBulk d + uptoBulkAll r
def uptoBulkEntries {H : Type} : List (Lit × DataW H) → Nat
  | [] => 0
  | x :: r => uptoBulkEntry x + uptoBulkEntries r
def uptoBulkEntry {H : Type} : Lit × DataW H → Nat
  | (.string bytes, d) => bytes.length + uptoBulk d + 1
  | (_, d) => uptoBulk d + 1
 end
def uptoSmall : (H : Type) → List (DataW H) → Bool := fun _ ds => decide (uptoBulkAll ds ≤ 1048576)
def OpenSpec.upto (s : _root_.Go.ChangeSpec) : _root_.Go.OpenSpec := { _root_.Go.OpenSpec.ofChange s with cond := some uptoSmall }

/-- 'watchkeep.AutoOwn', WHERE WHAT IT READS IS OF BULK AT MOST 1048576: true; the input reads as it did. -/
def autoOwnUptoRow : OpenClaim := { program := "ythojdcbpglipeaa", sum := "1e8a989cf0b7d171a7781e2820c539028839c9d663a2e47851573371fdb86761", func := "watchway/watchkeep.AutoOwn", spec := "autoOwn", unfollowed := true, recurses := true, plainKeys := false, apart := false, narrowed := true }
def AutoOwnUptoSaid : Prop := autoOwnUptoRow.holds Try.pinned (OpenSpec.upto autoOwnSpec)

/-- 'watchkeep.DeclareSilent', WHERE WHAT IT READS IS OF BULK AT MOST 1048576: true; the input reads as it did. -/
def declareSilentUptoRow : OpenClaim := { program := "ythojdcbpglipeaa", sum := "1e8a989cf0b7d171a7781e2820c539028839c9d663a2e47851573371fdb86761", func := "watchway/watchkeep.DeclareSilent", spec := "declareSilent", inPlace := ["slices.overlaps[uint64]"], unfollowed := true, recurses := true, plainKeys := false, apart := false, narrowed := true }
def DeclareSilentUptoSaid : Prop := declareSilentUptoRow.holds Try.pinned (OpenSpec.upto declareSilentSpec)

/-- 'watchkeep.DwyerHolds', WHERE WHAT IT READS IS OF BULK AT MOST 1048576: true; the input reads as it did. -/
def dwyerHoldsUptoRow : OpenClaim := { program := "ythojdcbpglipeaa", sum := "1e8a989cf0b7d171a7781e2820c539028839c9d663a2e47851573371fdb86761", func := "watchway/watchkeep.DwyerHolds", spec := "dwyerHolds", unfollowed := true, recurses := true, plainKeys := false, apart := false, narrowed := true }
def DwyerHoldsUptoSaid : Prop := dwyerHoldsUptoRow.holds Try.pinned (OpenSpec.upto dwyerHoldsSpec)

/-- 'watchkeep.AutoOne', WHERE WHAT IT READS IS OF BULK AT MOST 1048576: true; the input reads as it did. -/
def autoOneUptoRow : OpenClaim := { program := "ythojdcbpglipeaa", sum := "1e8a989cf0b7d171a7781e2820c539028839c9d663a2e47851573371fdb86761", func := "watchway/watchkeep.AutoOne", spec := "autoOne", unfollowed := true, recurses := true, plainKeys := false, apart := false, narrowed := true }
def AutoOneUptoSaid : Prop := autoOneUptoRow.holds Try.pinned (OpenSpec.upto autoOneSpec)

/-- 'watchkeep.AutoPairs', WHERE WHAT IT READS IS OF BULK AT MOST 1048576: true; the input reads as it did. -/
def autoPairsUptoRow : OpenClaim := { program := "ythojdcbpglipeaa", sum := "1e8a989cf0b7d171a7781e2820c539028839c9d663a2e47851573371fdb86761", func := "watchway/watchkeep.AutoPairs", spec := "autoPairs", unfollowed := true, recurses := true, plainKeys := false, apart := false, narrowed := true }
def AutoPairsUptoSaid : Prop := autoPairsUptoRow.holds Try.pinned (OpenSpec.upto autoPairsSpec)

/-- 'watchkeep.GameSwaps', WHERE WHAT IT READS IS OF BULK AT MOST 1048576: true; the input reads as it did. -/
def gameSwapsUptoRow : OpenClaim := { program := "ythojdcbpglipeaa", sum := "1e8a989cf0b7d171a7781e2820c539028839c9d663a2e47851573371fdb86761", func := "watchway/watchkeep.GameSwaps", spec := "gameSwaps", unfollowed := true, recurses := true, plainKeys := false, apart := false, narrowed := true }
def GameSwapsUptoSaid : Prop := gameSwapsUptoRow.holds Try.pinned (OpenSpec.upto gameSwapsSpec)

/-- 'watchkeep.LabelLaws', WHERE WHAT IT READS IS OF BULK AT MOST 1048576: true; the input reads as it did. -/
def labelLawsUptoRow : OpenClaim := { program := "ythojdcbpglipeaa", sum := "1e8a989cf0b7d171a7781e2820c539028839c9d663a2e47851573371fdb86761", func := "watchway/watchkeep.LabelLaws", spec := "labelLaws", unfollowed := true, recurses := true, loops := true, plainKeys := false, apart := false, narrowed := true }
def LabelLawsUptoSaid : Prop := labelLawsUptoRow.holds Try.pinned (OpenSpec.upto labelLawsSpec)

/-- 'watchkeep.LabelTwins', WHERE WHAT IT READS IS OF BULK AT MOST 1048576: true; the input reads as it did. -/
def labelTwinsUptoRow : OpenClaim := { program := "ythojdcbpglipeaa", sum := "1e8a989cf0b7d171a7781e2820c539028839c9d663a2e47851573371fdb86761", func := "watchway/watchkeep.LabelTwins", spec := "labelTwins", unfollowed := true, recurses := true, loops := true, plainKeys := false, apart := false, narrowed := true }
def LabelTwinsUptoSaid : Prop := labelTwinsUptoRow.holds Try.pinned (OpenSpec.upto labelTwinsSpec)

/-- 'watchkeep.GameFires', WHERE WHAT IT READS IS OF BULK AT MOST 1048576: true; the input reads as it did. -/
def gameFiresUptoRow : OpenClaim := { program := "ythojdcbpglipeaa", sum := "1e8a989cf0b7d171a7781e2820c539028839c9d663a2e47851573371fdb86761", func := "watchway/watchkeep.GameFires", spec := "gameFires", unfollowed := true, recurses := true, plainKeys := false, apart := false, narrowed := true }
def GameFiresUptoSaid : Prop := gameFiresUptoRow.holds Try.pinned (OpenSpec.upto gameFiresSpec)

/-- 'watchkeep.SpaceWalks', WHERE WHAT IT READS IS OF BULK AT MOST 1048576: true; the input reads as it did. -/
def spaceWalksUptoRow : OpenClaim := { program := "ythojdcbpglipeaa", sum := "1e8a989cf0b7d171a7781e2820c539028839c9d663a2e47851573371fdb86761", func := "watchway/watchkeep.SpaceWalks", spec := "spaceWalks", unfollowed := true, recurses := true, plainKeys := false, apart := false, narrowed := true }
def SpaceWalksUptoSaid : Prop := spaceWalksUptoRow.holds Try.pinned (OpenSpec.upto spaceWalksSpec)

/-- 'watchkeep.SpaceCounts', WHERE WHAT IT READS IS OF BULK AT MOST 1048576: true; the input reads as it did. -/
def spaceCountsUptoRow : OpenClaim := { program := "ythojdcbpglipeaa", sum := "1e8a989cf0b7d171a7781e2820c539028839c9d663a2e47851573371fdb86761", func := "watchway/watchkeep.SpaceCounts", spec := "spaceCounts", unfollowed := true, recurses := true, plainKeys := false, apart := false, narrowed := true }
def SpaceCountsUptoSaid : Prop := spaceCountsUptoRow.holds Try.pinned (OpenSpec.upto spaceCountsSpec)

/-- 'watchkeep.SpaceBounds', WHERE WHAT IT READS IS OF BULK AT MOST 1048576: true; the input reads as it did. -/
def spaceBoundsUptoRow : OpenClaim := { program := "ythojdcbpglipeaa", sum := "1e8a989cf0b7d171a7781e2820c539028839c9d663a2e47851573371fdb86761", func := "watchway/watchkeep.SpaceBounds", spec := "spaceBounds", unfollowed := true, recurses := true, plainKeys := false, apart := false, narrowed := true }
def SpaceBoundsUptoSaid : Prop := spaceBoundsUptoRow.holds Try.pinned (OpenSpec.upto spaceBoundsSpec)

end Rows
end Go.Proofs.Ythojdcbpglipeaa
