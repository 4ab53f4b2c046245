/-
  NARROWER THAN 'FOR EVERY INPUT', by the rows' own cells (each row's printed sentence says how): LabelPaths: loops.
  DERIVED. THE GIVEN ROWS OF THIS SEAT. 6 by the template 'for every input the law returns true; each argument reads behind the call as it read before'; 0 by the template 'total and deterministic' (their statements: YtljcnopekjinjaaTotals.lean).
  GIVEN WITH THE SEED: the statements are not yours to turn. If you find one false, say at which input.
  Laid BY PROGRAM, IN A SANDBOX (cutbox-rows.mjs): the forced cells as the released guide's own fill.sh prints them over the translation 885e1c19aef2ff49… (all of the seat's roots in one cut). By AI agents, Wed Nov 11 2026. No macro, syntax, notation, axiom, sorry.
-/
import Derived.Test.YtljcnopekjinjaaChecked
import GoSem.Claim
import GoSem.ClaimJoined
import GoSem.ClaimMapViews
import Derived.JoinedTies
import Derived.KernelRfl
namespace Go.Proofs.Ytljcnopekjinjaa
/- THE CELL 'sum', in the pinned program and in every row, IS THE sha256 OF THE DUMP (.gsa) THAT YtljcnopekjinjaaProg.lean LOADS. Nothing in Lean hashes anything: it is a label: what it is worth is what the hold of that sum in a sandbox is worth. -/
noncomputable def Try.pinned : Pinned := { name := "ytljcnopekjinjaa", sum := "885e1c19aef2ff4949fa1bad52a3e37b8f31892673da85c0fbfab20cb44e1d8f", checked := Try.checked }
namespace Rows
def none {H : Type} : Left H := { results := [], args := [] }

/-- 'watchkeep.SpaceRoute': WHATEVER THE INPUT: true; the input reads as it did. -/
def spaceRouteSpec : ChangeSpec := { name := "spaceRoute", fn := fun _ => fun
  | [d1, d2, d3] => { results := [.lit (.bool true)], args := [d1, d2, d3] }
  | _ => none }
def spaceRouteRow : OpenClaim := { program := "ytljcnopekjinjaa", sum := "885e1c19aef2ff4949fa1bad52a3e37b8f31892673da85c0fbfab20cb44e1d8f", func := "watchway/watchkeep.SpaceRoute", spec := "spaceRoute", unfollowed := true, recurses := true, plainKeys := false, apart := false }
def SpaceRouteSaid : Prop := spaceRouteRow.holds Try.pinned (OpenSpec.ofChange spaceRouteSpec)

/-- ITS FALSE NEIGHBOUR: 'it returns false'. Refute it at one input. -/
def spaceRouteWrong : ChangeSpec := { name := "spaceRoute", fn := fun _ => fun
  | [d1, d2, d3] => { results := [.lit (.bool false)], args := [d1, d2, d3] }
  | _ => none }
def SpaceRouteWrongFalsely : Prop := spaceRouteRow.holds Try.pinned (OpenSpec.ofChange spaceRouteWrong)

/-- 'watchkeep.SoundEnds': WHATEVER THE INPUT: true; the input reads as it did. -/
def soundEndsSpec : ChangeSpec := { name := "soundEnds", fn := fun _ => fun
  | [d1, d2, d3, d4] => { results := [.lit (.bool true)], args := [d1, d2, d3, d4] }
  | _ => none }
def soundEndsRow : OpenClaim := { program := "ytljcnopekjinjaa", sum := "885e1c19aef2ff4949fa1bad52a3e37b8f31892673da85c0fbfab20cb44e1d8f", func := "watchway/watchkeep.SoundEnds", spec := "soundEnds", unfollowed := true, recurses := true, plainKeys := false, apart := false }
def SoundEndsSaid : Prop := soundEndsRow.holds Try.pinned (OpenSpec.ofChange soundEndsSpec)

/-- ITS FALSE NEIGHBOUR: 'it returns false'. Refute it at one input. -/
def soundEndsWrong : ChangeSpec := { name := "soundEnds", fn := fun _ => fun
  | [d1, d2, d3, d4] => { results := [.lit (.bool false)], args := [d1, d2, d3, d4] }
  | _ => none }
def SoundEndsWrongFalsely : Prop := soundEndsRow.holds Try.pinned (OpenSpec.ofChange soundEndsWrong)

/-- 'watchkeep.SoundWays': WHATEVER THE INPUT: true; the input reads as it did. -/
def soundWaysSpec : ChangeSpec := { name := "soundWays", fn := fun _ => fun
  | [d1, d2, d3] => { results := [.lit (.bool true)], args := [d1, d2, d3] }
  | _ => none }
def soundWaysRow : OpenClaim := { program := "ytljcnopekjinjaa", sum := "885e1c19aef2ff4949fa1bad52a3e37b8f31892673da85c0fbfab20cb44e1d8f", func := "watchway/watchkeep.SoundWays", spec := "soundWays", unfollowed := true, recurses := true, plainKeys := false, apart := false }
def SoundWaysSaid : Prop := soundWaysRow.holds Try.pinned (OpenSpec.ofChange soundWaysSpec)

/-- ITS FALSE NEIGHBOUR: 'it returns false'. Refute it at one input. -/
def soundWaysWrong : ChangeSpec := { name := "soundWays", fn := fun _ => fun
  | [d1, d2, d3] => { results := [.lit (.bool false)], args := [d1, d2, d3] }
  | _ => none }
def SoundWaysWrongFalsely : Prop := soundWaysRow.holds Try.pinned (OpenSpec.ofChange soundWaysWrong)

/-- 'watchkeep.ProcOwn': WHATEVER THE INPUT: true; the input reads as it did. -/
def procOwnSpec : ChangeSpec := { name := "procOwn", fn := fun _ => fun
  | [d1, d2] => { results := [.lit (.bool true)], args := [d1, d2] }
  | _ => none }
def procOwnRow : OpenClaim := { program := "ytljcnopekjinjaa", sum := "885e1c19aef2ff4949fa1bad52a3e37b8f31892673da85c0fbfab20cb44e1d8f", func := "watchway/watchkeep.ProcOwn", spec := "procOwn", unfollowed := true, recurses := true, plainKeys := false, apart := false }
def ProcOwnSaid : Prop := procOwnRow.holds Try.pinned (OpenSpec.ofChange procOwnSpec)

/-- ITS FALSE NEIGHBOUR: 'it returns false'. Refute it at one input. -/
def procOwnWrong : ChangeSpec := { name := "procOwn", fn := fun _ => fun
  | [d1, d2] => { results := [.lit (.bool false)], args := [d1, d2] }
  | _ => none }
def ProcOwnWrongFalsely : Prop := procOwnRow.holds Try.pinned (OpenSpec.ofChange procOwnWrong)

/-- 'watchkeep.RunsWalks': WHATEVER THE INPUT: true; the input reads as it did. -/
def runsWalksSpec : ChangeSpec := { name := "runsWalks", fn := fun _ => fun
  | [d1, d2, d3, d4] => { results := [.lit (.bool true)], args := [d1, d2, d3, d4] }
  | _ => none }
def runsWalksRow : OpenClaim := { program := "ytljcnopekjinjaa", sum := "885e1c19aef2ff4949fa1bad52a3e37b8f31892673da85c0fbfab20cb44e1d8f", func := "watchway/watchkeep.RunsWalks", spec := "runsWalks", unfollowed := true, recurses := true, plainKeys := false, apart := false }
def RunsWalksSaid : Prop := runsWalksRow.holds Try.pinned (OpenSpec.ofChange runsWalksSpec)

/-- ITS FALSE NEIGHBOUR: 'it returns false'. Refute it at one input. -/
def runsWalksWrong : ChangeSpec := { name := "runsWalks", fn := fun _ => fun
  | [d1, d2, d3, d4] => { results := [.lit (.bool false)], args := [d1, d2, d3, d4] }
  | _ => none }
def RunsWalksWrongFalsely : Prop := runsWalksRow.holds Try.pinned (OpenSpec.ofChange runsWalksWrong)

/-- 'watchkeep.LabelPaths': WHATEVER THE INPUT: true; the input reads as it did. -/
def labelPathsSpec : ChangeSpec := { name := "labelPaths", fn := fun _ => fun
  | [d1, d2, d3] => { results := [.lit (.bool true)], args := [d1, d2, d3] }
  | _ => none }
def labelPathsRow : OpenClaim := { program := "ytljcnopekjinjaa", sum := "885e1c19aef2ff4949fa1bad52a3e37b8f31892673da85c0fbfab20cb44e1d8f", func := "watchway/watchkeep.LabelPaths", spec := "labelPaths", unfollowed := true, recurses := true, loops := true, plainKeys := false, apart := false }
def LabelPathsSaid : Prop := labelPathsRow.holds Try.pinned (OpenSpec.ofChange labelPathsSpec)

/-- ITS FALSE NEIGHBOUR: 'it returns false'. Refute it at one input. -/
def labelPathsWrong : ChangeSpec := { name := "labelPaths", fn := fun _ => fun
  | [d1, d2, d3] => { results := [.lit (.bool false)], args := [d1, d2, d3] }
  | _ => none }
def LabelPathsWrongFalsely : Prop := labelPathsRow.holds Try.pinned (OpenSpec.ofChange labelPathsWrong)

/- THE SECOND FORM. 'bulk': how many values and letters a reading holds, each counted each time it is reached (what is shared counts as often as it is met; a slice's spare places count too). A statement '..UptoSaid' is the law's where the arguments, and the package variables that the reading takes, are together of bulk at most 1048576: NARROWER than '..Said'. Prove '..Said' where nothing that the law and all that it calls make is longer than what came in: it says more and counts as full. Else prove '..UptoSaid'. A law counts once. -/
mutual
def uptoBulk {H : Type} : DataW H → Nat
  | .lit (.string bytes) => bytes.length + 1
  | .lit _ => 1
  | .nil => 1
  | .ptr d => uptoBulk d + 1
  | .slice elems spare => uptoBulkAll elems + uptoBulkAll spare + 1
  | .agg parts => uptoBulkAll parts + 1
  | .iface _ d => uptoBulk d + 1
  | .map entries => uptoBulkEntries entries + 1
  | .held _ => 1
def uptoBulkAll {H : Type} : List (DataW H) → Nat
  | [] => 0
  | d :: r => uptoBulk d + uptoBulkAll r
def uptoBulkEntries {H : Type} : List (Lit × DataW H) → Nat
  | [] => 0
  | x :: r => uptoBulkEntry x + uptoBulkEntries r
def uptoBulkEntry {H : Type} : Lit × DataW H → Nat
  | (.string bytes, d) => bytes.length + uptoBulk d + 1
  | (_, d) => uptoBulk d + 1
 end
def uptoSmall : (H : Type) → List (DataW H) → Bool := fun _ ds => decide (uptoBulkAll ds ≤ 1048576)
def OpenSpec.upto (s : _root_.Go.ChangeSpec) : _root_.Go.OpenSpec := { _root_.Go.OpenSpec.ofChange s with cond := some uptoSmall }

/-- 'watchkeep.SpaceRoute', WHERE WHAT IT READS IS OF BULK AT MOST 1048576: true; the input reads as it did. -/
def spaceRouteUptoRow : OpenClaim := { program := "ytljcnopekjinjaa", sum := "885e1c19aef2ff4949fa1bad52a3e37b8f31892673da85c0fbfab20cb44e1d8f", func := "watchway/watchkeep.SpaceRoute", spec := "spaceRoute", unfollowed := true, recurses := true, plainKeys := false, apart := false, narrowed := true }
def SpaceRouteUptoSaid : Prop := spaceRouteUptoRow.holds Try.pinned (OpenSpec.upto spaceRouteSpec)

/-- 'watchkeep.SoundEnds', WHERE WHAT IT READS IS OF BULK AT MOST 1048576: true; the input reads as it did. -/
def soundEndsUptoRow : OpenClaim := { program := "ytljcnopekjinjaa", sum := "885e1c19aef2ff4949fa1bad52a3e37b8f31892673da85c0fbfab20cb44e1d8f", func := "watchway/watchkeep.SoundEnds", spec := "soundEnds", unfollowed := true, recurses := true, plainKeys := false, apart := false, narrowed := true }
def SoundEndsUptoSaid : Prop := soundEndsUptoRow.holds Try.pinned (OpenSpec.upto soundEndsSpec)

/-- 'watchkeep.SoundWays', WHERE WHAT IT READS IS OF BULK AT MOST 1048576: true; the input reads as it did. -/
def soundWaysUptoRow : OpenClaim := { program := "ytljcnopekjinjaa", sum := "885e1c19aef2ff4949fa1bad52a3e37b8f31892673da85c0fbfab20cb44e1d8f", func := "watchway/watchkeep.SoundWays", spec := "soundWays", unfollowed := true, recurses := true, plainKeys := false, apart := false, narrowed := true }
def SoundWaysUptoSaid : Prop := soundWaysUptoRow.holds Try.pinned (OpenSpec.upto soundWaysSpec)

/-- 'watchkeep.ProcOwn', WHERE WHAT IT READS IS OF BULK AT MOST 1048576: true; the input reads as it did. -/
def procOwnUptoRow : OpenClaim := { program := "ytljcnopekjinjaa", sum := "885e1c19aef2ff4949fa1bad52a3e37b8f31892673da85c0fbfab20cb44e1d8f", func := "watchway/watchkeep.ProcOwn", spec := "procOwn", unfollowed := true, recurses := true, plainKeys := false, apart := false, narrowed := true }
def ProcOwnUptoSaid : Prop := procOwnUptoRow.holds Try.pinned (OpenSpec.upto procOwnSpec)

/-- 'watchkeep.RunsWalks', WHERE WHAT IT READS IS OF BULK AT MOST 1048576: true; the input reads as it did. -/
def runsWalksUptoRow : OpenClaim := { program := "ytljcnopekjinjaa", sum := "885e1c19aef2ff4949fa1bad52a3e37b8f31892673da85c0fbfab20cb44e1d8f", func := "watchway/watchkeep.RunsWalks", spec := "runsWalks", unfollowed := true, recurses := true, plainKeys := false, apart := false, narrowed := true }
def RunsWalksUptoSaid : Prop := runsWalksUptoRow.holds Try.pinned (OpenSpec.upto runsWalksSpec)

/-- 'watchkeep.LabelPaths', WHERE WHAT IT READS IS OF BULK AT MOST 1048576: true; the input reads as it did. -/
def labelPathsUptoRow : OpenClaim := { program := "ytljcnopekjinjaa", sum := "885e1c19aef2ff4949fa1bad52a3e37b8f31892673da85c0fbfab20cb44e1d8f", func := "watchway/watchkeep.LabelPaths", spec := "labelPaths", unfollowed := true, recurses := true, loops := true, plainKeys := false, apart := false, narrowed := true }
def LabelPathsUptoSaid : Prop := labelPathsUptoRow.holds Try.pinned (OpenSpec.upto labelPathsSpec)

end Rows
end Go.Proofs.Ytljcnopekjinjaa
