/-
  No cell of these rows narrows 'for every input' (looked for: loops, veiled, ifaces, maps, wideKeys, modest, calm, conditions, laid).
  DERIVED. THE GIVEN ROWS OF THIS SEAT. 12 by the template 'for every input the law returns true; each argument reads behind the call as it read before'; 0 by the template 'total and deterministic' (their statements: YthefpigolikmeaaTotals.lean).
  GIVEN WITH THE SEED: the statements are not yours to turn. If you find one false, say at which input.
  Laid BY PROGRAM, IN A SANDBOX (cutbox-rows.mjs): the forced cells as the released guide's own fill.sh prints them over the translation 2bdf3f530e45e434… (all of the seat's roots in one cut). By AI agents, Wed Nov 11 2026. No macro, syntax, notation, axiom, sorry.
-/
import Derived.Test.YthefpigolikmeaaChecked
import GoSem.Claim
import GoSem.ClaimJoined
import GoSem.ClaimMapViews
import Derived.JoinedTies
import Derived.KernelRfl
namespace Go.Proofs.Ythefpigolikmeaa
/- THE CELL 'sum', in the pinned program and in every row, IS THE sha256 OF THE DUMP (.gsa) THAT YthefpigolikmeaaProg.lean LOADS. Nothing in Lean hashes anything: it is a label: what it is worth is what the hold of that sum in a sandbox is worth. -/
noncomputable def Try.pinned : Pinned := { name := "ythefpigolikmeaa", sum := "2bdf3f530e45e434421b8a186c770a9a30f7ce3c6cea5b65641b1e07d5e3fad7", checked := Try.checked }
namespace Rows
def none {H : Type} : Left H := { results := [], args := [] }

/-- 'watchkeep.AutoOwn': WHATEVER THE INPUT: true; the input reads as it did. -/
def autoOwnSpec : ChangeSpec := { name := "autoOwn", fn := fun _ => fun
  | [d] => { results := [.lit (.bool true)], args := [d] }
  | _ => none }
def autoOwnRow : OpenClaim := { program := "ythefpigolikmeaa", sum := "2bdf3f530e45e434421b8a186c770a9a30f7ce3c6cea5b65641b1e07d5e3fad7", func := "watchway/watchkeep.AutoOwn", spec := "autoOwn", unfollowed := true, recurses := true, plainKeys := false, apart := false }
def AutoOwnSaid : Prop := autoOwnRow.holds Try.pinned (OpenSpec.ofChange autoOwnSpec)

/-- ITS FALSE NEIGHBOUR: 'it returns false'. Refute it at one input. -/
def autoOwnWrong : ChangeSpec := { name := "autoOwn", fn := fun _ => fun
  | [d] => { results := [.lit (.bool false)], args := [d] }
  | _ => none }
def AutoOwnWrongFalsely : Prop := autoOwnRow.holds Try.pinned (OpenSpec.ofChange autoOwnWrong)

/-- 'watchkeep.ProcFlows': WHATEVER THE INPUT: true; the input reads as it did. -/
def procFlowsSpec : ChangeSpec := { name := "procFlows", fn := fun _ => fun
  | [d] => { results := [.lit (.bool true)], args := [d] }
  | _ => none }
def procFlowsRow : OpenClaim := { program := "ythefpigolikmeaa", sum := "2bdf3f530e45e434421b8a186c770a9a30f7ce3c6cea5b65641b1e07d5e3fad7", func := "watchway/watchkeep.ProcFlows", spec := "procFlows", unfollowed := true, recurses := true, plainKeys := false, apart := false }
def ProcFlowsSaid : Prop := procFlowsRow.holds Try.pinned (OpenSpec.ofChange procFlowsSpec)

/-- ITS FALSE NEIGHBOUR: 'it returns false'. Refute it at one input. -/
def procFlowsWrong : ChangeSpec := { name := "procFlows", fn := fun _ => fun
  | [d] => { results := [.lit (.bool false)], args := [d] }
  | _ => none }
def ProcFlowsWrongFalsely : Prop := procFlowsRow.holds Try.pinned (OpenSpec.ofChange procFlowsWrong)

/-- 'watchkeep.StepsCover': WHATEVER THE INPUT: true; the input reads as it did. -/
def stepsCoverSpec : ChangeSpec := { name := "stepsCover", fn := fun _ => fun
  | [d] => { results := [.lit (.bool true)], args := [d] }
  | _ => none }
def stepsCoverRow : OpenClaim := { program := "ythefpigolikmeaa", sum := "2bdf3f530e45e434421b8a186c770a9a30f7ce3c6cea5b65641b1e07d5e3fad7", func := "watchway/watchkeep.StepsCover", spec := "stepsCover", unfollowed := true, recurses := true, plainKeys := false, apart := false }
def StepsCoverSaid : Prop := stepsCoverRow.holds Try.pinned (OpenSpec.ofChange stepsCoverSpec)

/-- ITS FALSE NEIGHBOUR: 'it returns false'. Refute it at one input. -/
def stepsCoverWrong : ChangeSpec := { name := "stepsCover", fn := fun _ => fun
  | [d] => { results := [.lit (.bool false)], args := [d] }
  | _ => none }
def StepsCoverWrongFalsely : Prop := stepsCoverRow.holds Try.pinned (OpenSpec.ofChange stepsCoverWrong)

/-- 'watchkeep.WorldFair': WHATEVER THE INPUT: true; the input reads as it did. -/
def worldFairSpec : ChangeSpec := { name := "worldFair", fn := fun _ => fun
  | [d] => { results := [.lit (.bool true)], args := [d] }
  | _ => none }
def worldFairRow : OpenClaim := { program := "ythefpigolikmeaa", sum := "2bdf3f530e45e434421b8a186c770a9a30f7ce3c6cea5b65641b1e07d5e3fad7", func := "watchway/watchkeep.WorldFair", spec := "worldFair", unfollowed := true, recurses := true, plainKeys := false, apart := false }
def WorldFairSaid : Prop := worldFairRow.holds Try.pinned (OpenSpec.ofChange worldFairSpec)

/-- ITS FALSE NEIGHBOUR: 'it returns false'. Refute it at one input. -/
def worldFairWrong : ChangeSpec := { name := "worldFair", fn := fun _ => fun
  | [d] => { results := [.lit (.bool false)], args := [d] }
  | _ => none }
def WorldFairWrongFalsely : Prop := worldFairRow.holds Try.pinned (OpenSpec.ofChange worldFairWrong)

/-- 'watchkeep.AutoWords': WHATEVER THE INPUT: true; the input reads as it did. -/
def autoWordsSpec : ChangeSpec := { name := "autoWords", fn := fun _ => fun
  | [d1, d2, d3, d4] => { results := [.lit (.bool true)], args := [d1, d2, d3, d4] }
  | _ => none }
def autoWordsRow : OpenClaim := { program := "ythefpigolikmeaa", sum := "2bdf3f530e45e434421b8a186c770a9a30f7ce3c6cea5b65641b1e07d5e3fad7", func := "watchway/watchkeep.AutoWords", spec := "autoWords", unfollowed := true, recurses := true, plainKeys := false, apart := false }
def AutoWordsSaid : Prop := autoWordsRow.holds Try.pinned (OpenSpec.ofChange autoWordsSpec)

/-- ITS FALSE NEIGHBOUR: 'it returns false'. Refute it at one input. -/
def autoWordsWrong : ChangeSpec := { name := "autoWords", fn := fun _ => fun
  | [d1, d2, d3, d4] => { results := [.lit (.bool false)], args := [d1, d2, d3, d4] }
  | _ => none }
def AutoWordsWrongFalsely : Prop := autoWordsRow.holds Try.pinned (OpenSpec.ofChange autoWordsWrong)

/-- 'watchkeep.DeclareSilent': WHATEVER THE INPUT: true; the input reads as it did. -/
def declareSilentSpec : ChangeSpec := { name := "declareSilent", fn := fun _ => fun
  | [d1, d2, d3] => { results := [.lit (.bool true)], args := [d1, d2, d3] }
  | _ => none }
def declareSilentRow : OpenClaim := { program := "ythefpigolikmeaa", sum := "2bdf3f530e45e434421b8a186c770a9a30f7ce3c6cea5b65641b1e07d5e3fad7", func := "watchway/watchkeep.DeclareSilent", spec := "declareSilent", inPlace := ["slices.overlaps[uint64]"], unfollowed := true, recurses := true, plainKeys := false, apart := false }
def DeclareSilentSaid : Prop := declareSilentRow.holds Try.pinned (OpenSpec.ofChange declareSilentSpec)

/-- ITS FALSE NEIGHBOUR: 'it returns false'. Refute it at one input. -/
def declareSilentWrong : ChangeSpec := { name := "declareSilent", fn := fun _ => fun
  | [d1, d2, d3] => { results := [.lit (.bool false)], args := [d1, d2, d3] }
  | _ => none }
def DeclareSilentWrongFalsely : Prop := declareSilentRow.holds Try.pinned (OpenSpec.ofChange declareSilentWrong)

/-- 'watchkeep.DwyerHolds': WHATEVER THE INPUT: true; the input reads as it did. -/
def dwyerHoldsSpec : ChangeSpec := { name := "dwyerHolds", fn := fun _ => fun
  | [d1, d2] => { results := [.lit (.bool true)], args := [d1, d2] }
  | _ => none }
def dwyerHoldsRow : OpenClaim := { program := "ythefpigolikmeaa", sum := "2bdf3f530e45e434421b8a186c770a9a30f7ce3c6cea5b65641b1e07d5e3fad7", func := "watchway/watchkeep.DwyerHolds", spec := "dwyerHolds", unfollowed := true, recurses := true, plainKeys := false, apart := false }
def DwyerHoldsSaid : Prop := dwyerHoldsRow.holds Try.pinned (OpenSpec.ofChange dwyerHoldsSpec)

/-- ITS FALSE NEIGHBOUR: 'it returns false'. Refute it at one input. -/
def dwyerHoldsWrong : ChangeSpec := { name := "dwyerHolds", fn := fun _ => fun
  | [d1, d2] => { results := [.lit (.bool false)], args := [d1, d2] }
  | _ => none }
def DwyerHoldsWrongFalsely : Prop := dwyerHoldsRow.holds Try.pinned (OpenSpec.ofChange dwyerHoldsWrong)

/-- 'watchkeep.AutoOne': WHATEVER THE INPUT: true; the input reads as it did. -/
def autoOneSpec : ChangeSpec := { name := "autoOne", fn := fun _ => fun
  | [d1, d2] => { results := [.lit (.bool true)], args := [d1, d2] }
  | _ => none }
def autoOneRow : OpenClaim := { program := "ythefpigolikmeaa", sum := "2bdf3f530e45e434421b8a186c770a9a30f7ce3c6cea5b65641b1e07d5e3fad7", func := "watchway/watchkeep.AutoOne", spec := "autoOne", unfollowed := true, recurses := true, plainKeys := false, apart := false }
def AutoOneSaid : Prop := autoOneRow.holds Try.pinned (OpenSpec.ofChange autoOneSpec)

/-- ITS FALSE NEIGHBOUR: 'it returns false'. Refute it at one input. -/
def autoOneWrong : ChangeSpec := { name := "autoOne", fn := fun _ => fun
  | [d1, d2] => { results := [.lit (.bool false)], args := [d1, d2] }
  | _ => none }
def AutoOneWrongFalsely : Prop := autoOneRow.holds Try.pinned (OpenSpec.ofChange autoOneWrong)

/-- 'watchkeep.AutoPairs': WHATEVER THE INPUT: true; the input reads as it did. -/
def autoPairsSpec : ChangeSpec := { name := "autoPairs", fn := fun _ => fun
  | [d1, d2, d3] => { results := [.lit (.bool true)], args := [d1, d2, d3] }
  | _ => none }
def autoPairsRow : OpenClaim := { program := "ythefpigolikmeaa", sum := "2bdf3f530e45e434421b8a186c770a9a30f7ce3c6cea5b65641b1e07d5e3fad7", func := "watchway/watchkeep.AutoPairs", spec := "autoPairs", unfollowed := true, recurses := true, plainKeys := false, apart := false }
def AutoPairsSaid : Prop := autoPairsRow.holds Try.pinned (OpenSpec.ofChange autoPairsSpec)

/-- ITS FALSE NEIGHBOUR: 'it returns false'. Refute it at one input. -/
def autoPairsWrong : ChangeSpec := { name := "autoPairs", fn := fun _ => fun
  | [d1, d2, d3] => { results := [.lit (.bool false)], args := [d1, d2, d3] }
  | _ => none }
def AutoPairsWrongFalsely : Prop := autoPairsRow.holds Try.pinned (OpenSpec.ofChange autoPairsWrong)

/-- 'watchkeep.GameTokens': WHATEVER THE INPUT: true; the input reads as it did. -/
def gameTokensSpec : ChangeSpec := { name := "gameTokens", fn := fun _ => fun
  | [d1, d2] => { results := [.lit (.bool true)], args := [d1, d2] }
  | _ => none }
def gameTokensRow : OpenClaim := { program := "ythefpigolikmeaa", sum := "2bdf3f530e45e434421b8a186c770a9a30f7ce3c6cea5b65641b1e07d5e3fad7", func := "watchway/watchkeep.GameTokens", spec := "gameTokens", unfollowed := true, recurses := true, plainKeys := false, apart := false }
def GameTokensSaid : Prop := gameTokensRow.holds Try.pinned (OpenSpec.ofChange gameTokensSpec)

/-- ITS FALSE NEIGHBOUR: 'it returns false'. Refute it at one input. -/
def gameTokensWrong : ChangeSpec := { name := "gameTokens", fn := fun _ => fun
  | [d1, d2] => { results := [.lit (.bool false)], args := [d1, d2] }
  | _ => none }
def GameTokensWrongFalsely : Prop := gameTokensRow.holds Try.pinned (OpenSpec.ofChange gameTokensWrong)

/-- 'watchkeep.GameSwaps': WHATEVER THE INPUT: true; the input reads as it did. -/
def gameSwapsSpec : ChangeSpec := { name := "gameSwaps", fn := fun _ => fun
  | [d1, d2, d3, d4] => { results := [.lit (.bool true)], args := [d1, d2, d3, d4] }
  | _ => none }
def gameSwapsRow : OpenClaim := { program := "ythefpigolikmeaa", sum := "2bdf3f530e45e434421b8a186c770a9a30f7ce3c6cea5b65641b1e07d5e3fad7", func := "watchway/watchkeep.GameSwaps", spec := "gameSwaps", unfollowed := true, recurses := true, plainKeys := false, apart := false }
def GameSwapsSaid : Prop := gameSwapsRow.holds Try.pinned (OpenSpec.ofChange gameSwapsSpec)

/-- ITS FALSE NEIGHBOUR: 'it returns false'. Refute it at one input. -/
def gameSwapsWrong : ChangeSpec := { name := "gameSwaps", fn := fun _ => fun
  | [d1, d2, d3, d4] => { results := [.lit (.bool false)], args := [d1, d2, d3, d4] }
  | _ => none }
def GameSwapsWrongFalsely : Prop := gameSwapsRow.holds Try.pinned (OpenSpec.ofChange gameSwapsWrong)

/-- 'watchkeep.GameFires': WHATEVER THE INPUT: true; the input reads as it did. -/
def gameFiresSpec : ChangeSpec := { name := "gameFires", fn := fun _ => fun
  | [d1, d2] => { results := [.lit (.bool true)], args := [d1, d2] }
  | _ => none }
def gameFiresRow : OpenClaim := { program := "ythefpigolikmeaa", sum := "2bdf3f530e45e434421b8a186c770a9a30f7ce3c6cea5b65641b1e07d5e3fad7", func := "watchway/watchkeep.GameFires", spec := "gameFires", unfollowed := true, recurses := true, plainKeys := false, apart := false }
def GameFiresSaid : Prop := gameFiresRow.holds Try.pinned (OpenSpec.ofChange gameFiresSpec)

/-- ITS FALSE NEIGHBOUR: 'it returns false'. Refute it at one input. -/
def gameFiresWrong : ChangeSpec := { name := "gameFires", fn := fun _ => fun
  | [d1, d2] => { results := [.lit (.bool false)], args := [d1, d2] }
  | _ => none }
def GameFiresWrongFalsely : Prop := gameFiresRow.holds Try.pinned (OpenSpec.ofChange gameFiresWrong)

/- THE SECOND FORM. 'bulk': how many values and letters a reading holds, each counted each time it is reached (what is shared counts as often as it is met; a slice's spare places count too). A statement '..UptoSaid' is the law's where the arguments, and the package variables that the reading takes, are together of bulk at most 1048576: NARROWER than '..Said'. Prove '..Said' where nothing that the law and all that it calls make is longer than what came in: it says more and counts as full. Else prove '..UptoSaid'. A law counts once. -/
mutual
def uptoBulk {H : Type} : DataW H → Nat
  | .lit (.string bytes) => bytes.length + 1
  | .lit _ => 1
  | .nil => 1
  | .ptr d => uptoBulk d + 1
  | .slice elems spare => uptoBulkAll elems + uptoBulkAll spare + 1
  | .agg parts => uptoBulkAll parts + 1
  | .iface _ d => uptoBulk d + 1
  | .map entries => uptoBulkEntries entries + 1
  | .held _ => 1
def uptoBulkAll {H : Type} : List (DataW H) → Nat
  | [] => 0
  | d :: r => uptoBulk d + uptoBulkAll r
def uptoBulkEntries {H : Type} : List (Lit × DataW H) → Nat
  | [] => 0
  | x :: r => uptoBulkEntry x + uptoBulkEntries r
def uptoBulkEntry {H : Type} : Lit × DataW H → Nat
  | (.string bytes, d) => bytes.length + uptoBulk d + 1
  | (_, d) => uptoBulk d + 1
 end
def uptoSmall : (H : Type) → List (DataW H) → Bool := fun _ ds => decide (uptoBulkAll ds ≤ 1048576)
def OpenSpec.upto (s : _root_.Go.ChangeSpec) : _root_.Go.OpenSpec := { _root_.Go.OpenSpec.ofChange s with cond := some uptoSmall }

/-- 'watchkeep.AutoOwn', WHERE WHAT IT READS IS OF BULK AT MOST 1048576: true; the input reads as it did. -/
def autoOwnUptoRow : OpenClaim := { program := "ythefpigolikmeaa", sum := "2bdf3f530e45e434421b8a186c770a9a30f7ce3c6cea5b65641b1e07d5e3fad7", func := "watchway/watchkeep.AutoOwn", spec := "autoOwn", unfollowed := true, recurses := true, plainKeys := false, apart := false, narrowed := true }
def AutoOwnUptoSaid : Prop := autoOwnUptoRow.holds Try.pinned (OpenSpec.upto autoOwnSpec)

/-- 'watchkeep.ProcFlows', WHERE WHAT IT READS IS OF BULK AT MOST 1048576: true; the input reads as it did. -/
def procFlowsUptoRow : OpenClaim := { program := "ythefpigolikmeaa", sum := "2bdf3f530e45e434421b8a186c770a9a30f7ce3c6cea5b65641b1e07d5e3fad7", func := "watchway/watchkeep.ProcFlows", spec := "procFlows", unfollowed := true, recurses := true, plainKeys := false, apart := false, narrowed := true }
def ProcFlowsUptoSaid : Prop := procFlowsUptoRow.holds Try.pinned (OpenSpec.upto procFlowsSpec)

/-- 'watchkeep.StepsCover', WHERE WHAT IT READS IS OF BULK AT MOST 1048576: true; the input reads as it did. -/
def stepsCoverUptoRow : OpenClaim := { program := "ythefpigolikmeaa", sum := "2bdf3f530e45e434421b8a186c770a9a30f7ce3c6cea5b65641b1e07d5e3fad7", func := "watchway/watchkeep.StepsCover", spec := "stepsCover", unfollowed := true, recurses := true, plainKeys := false, apart := false, narrowed := true }
def StepsCoverUptoSaid : Prop := stepsCoverUptoRow.holds Try.pinned (OpenSpec.upto stepsCoverSpec)

/-- 'watchkeep.WorldFair', WHERE WHAT IT READS IS OF BULK AT MOST 1048576: true; the input reads as it did. -/
def worldFairUptoRow : OpenClaim := { program := "ythefpigolikmeaa", sum := "2bdf3f530e45e434421b8a186c770a9a30f7ce3c6cea5b65641b1e07d5e3fad7", func := "watchway/watchkeep.WorldFair", spec := "worldFair", unfollowed := true, recurses := true, plainKeys := false, apart := false, narrowed := true }
def WorldFairUptoSaid : Prop := worldFairUptoRow.holds Try.pinned (OpenSpec.upto worldFairSpec)

/-- 'watchkeep.AutoWords', WHERE WHAT IT READS IS OF BULK AT MOST 1048576: true; the input reads as it did. -/
def autoWordsUptoRow : OpenClaim := { program := "ythefpigolikmeaa", sum := "2bdf3f530e45e434421b8a186c770a9a30f7ce3c6cea5b65641b1e07d5e3fad7", func := "watchway/watchkeep.AutoWords", spec := "autoWords", unfollowed := true, recurses := true, plainKeys := false, apart := false, narrowed := true }
def AutoWordsUptoSaid : Prop := autoWordsUptoRow.holds Try.pinned (OpenSpec.upto autoWordsSpec)

/-- 'watchkeep.DeclareSilent', WHERE WHAT IT READS IS OF BULK AT MOST 1048576: true; the input reads as it did. -/
def declareSilentUptoRow : OpenClaim := { program := "ythefpigolikmeaa", sum := "2bdf3f530e45e434421b8a186c770a9a30f7ce3c6cea5b65641b1e07d5e3fad7", func := "watchway/watchkeep.DeclareSilent", spec := "declareSilent", inPlace := ["slices.overlaps[uint64]"], unfollowed := true, recurses := true, plainKeys := false, apart := false, narrowed := true }
def DeclareSilentUptoSaid : Prop := declareSilentUptoRow.holds Try.pinned (OpenSpec.upto declareSilentSpec)

/-- 'watchkeep.DwyerHolds', WHERE WHAT IT READS IS OF BULK AT MOST 1048576: true; the input reads as it did. -/
def dwyerHoldsUptoRow : OpenClaim := { program := "ythefpigolikmeaa", sum := "2bdf3f530e45e434421b8a186c770a9a30f7ce3c6cea5b65641b1e07d5e3fad7", func := "watchway/watchkeep.DwyerHolds", spec := "dwyerHolds", unfollowed := true, recurses := true, plainKeys := false, apart := false, narrowed := true }
def DwyerHoldsUptoSaid : Prop := dwyerHoldsUptoRow.holds Try.pinned (OpenSpec.upto dwyerHoldsSpec)

/-- 'watchkeep.AutoOne', WHERE WHAT IT READS IS OF BULK AT MOST 1048576: true; the input reads as it did. -/
def autoOneUptoRow : OpenClaim := { program := "ythefpigolikmeaa", sum := "2bdf3f530e45e434421b8a186c770a9a30f7ce3c6cea5b65641b1e07d5e3fad7", func := "watchway/watchkeep.AutoOne", spec := "autoOne", unfollowed := true, recurses := true, plainKeys := false, apart := false, narrowed := true }
def AutoOneUptoSaid : Prop := autoOneUptoRow.holds Try.pinned (OpenSpec.upto autoOneSpec)

/-- 'watchkeep.AutoPairs', WHERE WHAT IT READS IS OF BULK AT MOST 1048576: true; the input reads as it did. -/
def autoPairsUptoRow : OpenClaim := { program := "ythefpigolikmeaa", sum := "2bdf3f530e45e434421b8a186c770a9a30f7ce3c6cea5b65641b1e07d5e3fad7", func := "watchway/watchkeep.AutoPairs", spec := "autoPairs", unfollowed := true, recurses := true, plainKeys := false, apart := false, narrowed := true }
def AutoPairsUptoSaid : Prop := autoPairsUptoRow.holds Try.pinned (OpenSpec.upto autoPairsSpec)

/-- 'watchkeep.GameTokens', WHERE WHAT IT READS IS OF BULK AT MOST 1048576: true; the input reads as it did. -/
def gameTokensUptoRow : OpenClaim := { program := "ythefpigolikmeaa", sum := "2bdf3f530e45e434421b8a186c770a9a30f7ce3c6cea5b65641b1e07d5e3fad7", func := "watchway/watchkeep.GameTokens", spec := "gameTokens", unfollowed := true, recurses := true, plainKeys := false, apart := false, narrowed := true }
def GameTokensUptoSaid : Prop := gameTokensUptoRow.holds Try.pinned (OpenSpec.upto gameTokensSpec)

/-- 'watchkeep.GameSwaps', WHERE WHAT IT READS IS OF BULK AT MOST 1048576: true; the input reads as it did. -/
def gameSwapsUptoRow : OpenClaim := { program := "ythefpigolikmeaa", sum := "2bdf3f530e45e434421b8a186c770a9a30f7ce3c6cea5b65641b1e07d5e3fad7", func := "watchway/watchkeep.GameSwaps", spec := "gameSwaps", unfollowed := true, recurses := true, plainKeys := false, apart := false, narrowed := true }
def GameSwapsUptoSaid : Prop := gameSwapsUptoRow.holds Try.pinned (OpenSpec.upto gameSwapsSpec)

/-- 'watchkeep.GameFires', WHERE WHAT IT READS IS OF BULK AT MOST 1048576: true; the input reads as it did. -/
def gameFiresUptoRow : OpenClaim := { program := "ythefpigolikmeaa", sum := "2bdf3f530e45e434421b8a186c770a9a30f7ce3c6cea5b65641b1e07d5e3fad7", func := "watchway/watchkeep.GameFires", spec := "gameFires", unfollowed := true, recurses := true, plainKeys := false, apart := false, narrowed := true }
def GameFiresUptoSaid : Prop := gameFiresUptoRow.holds Try.pinned (OpenSpec.upto gameFiresSpec)

end Rows
end Go.Proofs.Ythefpigolikmeaa
