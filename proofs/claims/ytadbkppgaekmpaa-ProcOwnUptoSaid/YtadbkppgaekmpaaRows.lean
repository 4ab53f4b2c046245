/-
  NARROWER THAN 'FOR EVERY INPUT', by the rows' own cells (each row's printed sentence says how): WorldOwn: loops · ReplayTurns: loops.
  DERIVED. THE GIVEN ROWS OF THIS SEAT. 10 by the template 'for every input the law returns true; each argument reads behind the call as it read before'; 0 by the template 'total and deterministic' (their statements: YtadbkppgaekmpaaTotals.lean).
  GIVEN WITH THE SEED: the statements are not yours to turn. If you find one false, say at which input.
  Laid BY PROGRAM, IN A SANDBOX (cutbox-rows.mjs): the forced cells as the released guide's own fill.sh prints them over the translation d98feebe7e693085… (all of the seat's roots in one cut). By AI agents, Wed Nov 11 2026. No macro, syntax, notation, axiom, sorry.
-/
import Derived.Test.YtadbkppgaekmpaaChecked
import GoSem.Claim
import GoSem.ClaimJoined
import GoSem.ClaimMapViews
import Derived.JoinedTies
import Derived.KernelRfl
namespace Go.Proofs.Ytadbkppgaekmpaa
/- THE CELL 'sum', in the pinned program and in every row, IS THE sha256 OF THE DUMP (.gsa) THAT YtadbkppgaekmpaaProg.lean LOADS. Nothing in Lean hashes anything: it is a label: what it is worth is what the hold of that sum in a sandbox is worth. -/
noncomputable def Try.pinned : Pinned := { name := "ytadbkppgaekmpaa", sum := "d98feebe7e693085fb6e2372b6ec5f370ce5e391a292dc22e25e24c48b27e5ca", checked := Try.checked }
namespace Rows
def none {H : Type} : Left H := { results := [], args := [] }

/-- 'watchkeep.AutoOwn': WHATEVER THE INPUT: true; the input reads as it did. -/
def autoOwnSpec : ChangeSpec := { name := "autoOwn", fn := fun _ => fun
  | [d] => { results := [.lit (.bool true)], args := [d] }
  | _ => none }
def autoOwnRow : OpenClaim := { program := "ytadbkppgaekmpaa", sum := "d98feebe7e693085fb6e2372b6ec5f370ce5e391a292dc22e25e24c48b27e5ca", func := "watchway/watchkeep.AutoOwn", spec := "autoOwn", unfollowed := true, recurses := true, plainKeys := false, apart := false }
def AutoOwnSaid : Prop := autoOwnRow.holds Try.pinned (OpenSpec.ofChange autoOwnSpec)

/-- ITS FALSE NEIGHBOUR: 'it returns false'. Refute it at one input. -/
def autoOwnWrong : ChangeSpec := { name := "autoOwn", fn := fun _ => fun
  | [d] => { results := [.lit (.bool false)], args := [d] }
  | _ => none }
def AutoOwnWrongFalsely : Prop := autoOwnRow.holds Try.pinned (OpenSpec.ofChange autoOwnWrong)

/-- 'watchkeep.AutoOne': WHATEVER THE INPUT: true; the input reads as it did. -/
def autoOneSpec : ChangeSpec := { name := "autoOne", fn := fun _ => fun
  | [d1, d2] => { results := [.lit (.bool true)], args := [d1, d2] }
  | _ => none }
def autoOneRow : OpenClaim := { program := "ytadbkppgaekmpaa", sum := "d98feebe7e693085fb6e2372b6ec5f370ce5e391a292dc22e25e24c48b27e5ca", func := "watchway/watchkeep.AutoOne", spec := "autoOne", unfollowed := true, recurses := true, plainKeys := false, apart := false }
def AutoOneSaid : Prop := autoOneRow.holds Try.pinned (OpenSpec.ofChange autoOneSpec)

/-- ITS FALSE NEIGHBOUR: 'it returns false'. Refute it at one input. -/
def autoOneWrong : ChangeSpec := { name := "autoOne", fn := fun _ => fun
  | [d1, d2] => { results := [.lit (.bool false)], args := [d1, d2] }
  | _ => none }
def AutoOneWrongFalsely : Prop := autoOneRow.holds Try.pinned (OpenSpec.ofChange autoOneWrong)

/-- 'watchkeep.AutoPairs': WHATEVER THE INPUT: true; the input reads as it did. -/
def autoPairsSpec : ChangeSpec := { name := "autoPairs", fn := fun _ => fun
  | [d1, d2, d3] => { results := [.lit (.bool true)], args := [d1, d2, d3] }
  | _ => none }
def autoPairsRow : OpenClaim := { program := "ytadbkppgaekmpaa", sum := "d98feebe7e693085fb6e2372b6ec5f370ce5e391a292dc22e25e24c48b27e5ca", func := "watchway/watchkeep.AutoPairs", spec := "autoPairs", unfollowed := true, recurses := true, plainKeys := false, apart := false }
def AutoPairsSaid : Prop := autoPairsRow.holds Try.pinned (OpenSpec.ofChange autoPairsSpec)

/-- ITS FALSE NEIGHBOUR: 'it returns false'. Refute it at one input. -/
def autoPairsWrong : ChangeSpec := { name := "autoPairs", fn := fun _ => fun
  | [d1, d2, d3] => { results := [.lit (.bool false)], args := [d1, d2, d3] }
  | _ => none }
def AutoPairsWrongFalsely : Prop := autoPairsRow.holds Try.pinned (OpenSpec.ofChange autoPairsWrong)

/-- 'watchkeep.ProcOwn': WHATEVER THE INPUT: true; the input reads as it did. -/
def procOwnSpec : ChangeSpec := { name := "procOwn", fn := fun _ => fun
  | [d1, d2] => { results := [.lit (.bool true)], args := [d1, d2] }
  | _ => none }
def procOwnRow : OpenClaim := { program := "ytadbkppgaekmpaa", sum := "d98feebe7e693085fb6e2372b6ec5f370ce5e391a292dc22e25e24c48b27e5ca", func := "watchway/watchkeep.ProcOwn", spec := "procOwn", unfollowed := true, recurses := true, plainKeys := false, apart := false }
def ProcOwnSaid : Prop := procOwnRow.holds Try.pinned (OpenSpec.ofChange procOwnSpec)

/-- ITS FALSE NEIGHBOUR: 'it returns false'. Refute it at one input. -/
def procOwnWrong : ChangeSpec := { name := "procOwn", fn := fun _ => fun
  | [d1, d2] => { results := [.lit (.bool false)], args := [d1, d2] }
  | _ => none }
def ProcOwnWrongFalsely : Prop := procOwnRow.holds Try.pinned (OpenSpec.ofChange procOwnWrong)

/-- 'watchkeep.RunsWalks': WHATEVER THE INPUT: true; the input reads as it did. -/
def runsWalksSpec : ChangeSpec := { name := "runsWalks", fn := fun _ => fun
  | [d1, d2, d3, d4] => { results := [.lit (.bool true)], args := [d1, d2, d3, d4] }
  | _ => none }
def runsWalksRow : OpenClaim := { program := "ytadbkppgaekmpaa", sum := "d98feebe7e693085fb6e2372b6ec5f370ce5e391a292dc22e25e24c48b27e5ca", func := "watchway/watchkeep.RunsWalks", spec := "runsWalks", unfollowed := true, recurses := true, plainKeys := false, apart := false }
def RunsWalksSaid : Prop := runsWalksRow.holds Try.pinned (OpenSpec.ofChange runsWalksSpec)

/-- ITS FALSE NEIGHBOUR: 'it returns false'. Refute it at one input. -/
def runsWalksWrong : ChangeSpec := { name := "runsWalks", fn := fun _ => fun
  | [d1, d2, d3, d4] => { results := [.lit (.bool false)], args := [d1, d2, d3, d4] }
  | _ => none }
def RunsWalksWrongFalsely : Prop := runsWalksRow.holds Try.pinned (OpenSpec.ofChange runsWalksWrong)

/-- 'watchkeep.WorldOwn': WHATEVER THE INPUT: true; the input reads as it did. -/
def worldOwnSpec : ChangeSpec := { name := "worldOwn", fn := fun _ => fun
  | [d1, d2, d3] => { results := [.lit (.bool true)], args := [d1, d2, d3] }
  | _ => none }
def worldOwnRow : OpenClaim := { program := "ytadbkppgaekmpaa", sum := "d98feebe7e693085fb6e2372b6ec5f370ce5e391a292dc22e25e24c48b27e5ca", func := "watchway/watchkeep.WorldOwn", spec := "worldOwn", unfollowed := true, recurses := true, loops := true, plainKeys := false, apart := false }
def WorldOwnSaid : Prop := worldOwnRow.holds Try.pinned (OpenSpec.ofChange worldOwnSpec)

/-- ITS FALSE NEIGHBOUR: 'it returns false'. Refute it at one input. -/
def worldOwnWrong : ChangeSpec := { name := "worldOwn", fn := fun _ => fun
  | [d1, d2, d3] => { results := [.lit (.bool false)], args := [d1, d2, d3] }
  | _ => none }
def WorldOwnWrongFalsely : Prop := worldOwnRow.holds Try.pinned (OpenSpec.ofChange worldOwnWrong)

/-- 'watchkeep.EmptyShows': WHATEVER THE INPUT: true; the input reads as it did. -/
def emptyShowsSpec : ChangeSpec := { name := "emptyShows", fn := fun _ => fun
  | [d1, d2] => { results := [.lit (.bool true)], args := [d1, d2] }
  | _ => none }
def emptyShowsRow : OpenClaim := { program := "ytadbkppgaekmpaa", sum := "d98feebe7e693085fb6e2372b6ec5f370ce5e391a292dc22e25e24c48b27e5ca", func := "watchway/watchkeep.EmptyShows", spec := "emptyShows", unfollowed := true, recurses := true, plainKeys := false, apart := false }
def EmptyShowsSaid : Prop := emptyShowsRow.holds Try.pinned (OpenSpec.ofChange emptyShowsSpec)

/-- ITS FALSE NEIGHBOUR: 'it returns false'. Refute it at one input. -/
def emptyShowsWrong : ChangeSpec := { name := "emptyShows", fn := fun _ => fun
  | [d1, d2] => { results := [.lit (.bool false)], args := [d1, d2] }
  | _ => none }
def EmptyShowsWrongFalsely : Prop := emptyShowsRow.holds Try.pinned (OpenSpec.ofChange emptyShowsWrong)

/-- 'watchkeep.EmptyTakes': WHATEVER THE INPUT: true; the input reads as it did. -/
def emptyTakesSpec : ChangeSpec := { name := "emptyTakes", fn := fun _ => fun
  | [d1, d2, d3, d4] => { results := [.lit (.bool true)], args := [d1, d2, d3, d4] }
  | _ => none }
def emptyTakesRow : OpenClaim := { program := "ytadbkppgaekmpaa", sum := "d98feebe7e693085fb6e2372b6ec5f370ce5e391a292dc22e25e24c48b27e5ca", func := "watchway/watchkeep.EmptyTakes", spec := "emptyTakes", unfollowed := true, recurses := true, plainKeys := false, apart := false }
def EmptyTakesSaid : Prop := emptyTakesRow.holds Try.pinned (OpenSpec.ofChange emptyTakesSpec)

/-- ITS FALSE NEIGHBOUR: 'it returns false'. Refute it at one input. -/
def emptyTakesWrong : ChangeSpec := { name := "emptyTakes", fn := fun _ => fun
  | [d1, d2, d3, d4] => { results := [.lit (.bool false)], args := [d1, d2, d3, d4] }
  | _ => none }
def EmptyTakesWrongFalsely : Prop := emptyTakesRow.holds Try.pinned (OpenSpec.ofChange emptyTakesWrong)

/-- 'watchkeep.ReplayTurns': WHATEVER THE INPUT: true; the input reads as it did. -/
def replayTurnsSpec : ChangeSpec := { name := "replayTurns", fn := fun _ => fun
  | [d1, d2, d3, d4] => { results := [.lit (.bool true)], args := [d1, d2, d3, d4] }
  | _ => none }
def replayTurnsRow : OpenClaim := { program := "ytadbkppgaekmpaa", sum := "d98feebe7e693085fb6e2372b6ec5f370ce5e391a292dc22e25e24c48b27e5ca", func := "watchway/watchkeep.ReplayTurns", spec := "replayTurns", unfollowed := true, recurses := true, loops := true, plainKeys := false, apart := false }
def ReplayTurnsSaid : Prop := replayTurnsRow.holds Try.pinned (OpenSpec.ofChange replayTurnsSpec)

/-- ITS FALSE NEIGHBOUR: 'it returns false'. Refute it at one input. -/
def replayTurnsWrong : ChangeSpec := { name := "replayTurns", fn := fun _ => fun
  | [d1, d2, d3, d4] => { results := [.lit (.bool false)], args := [d1, d2, d3, d4] }
  | _ => none }
def ReplayTurnsWrongFalsely : Prop := replayTurnsRow.holds Try.pinned (OpenSpec.ofChange replayTurnsWrong)

/-- 'watchkeep.RunsFair': WHATEVER THE INPUT: true; the input reads as it did. -/
def runsFairSpec : ChangeSpec := { name := "runsFair", fn := fun _ => fun
  | [d1, d2, d3] => { results := [.lit (.bool true)], args := [d1, d2, d3] }
  | _ => none }
def runsFairRow : OpenClaim := { program := "ytadbkppgaekmpaa", sum := "d98feebe7e693085fb6e2372b6ec5f370ce5e391a292dc22e25e24c48b27e5ca", func := "watchway/watchkeep.RunsFair", spec := "runsFair", unfollowed := true, recurses := true, plainKeys := false, apart := false }
def RunsFairSaid : Prop := runsFairRow.holds Try.pinned (OpenSpec.ofChange runsFairSpec)

/-- ITS FALSE NEIGHBOUR: 'it returns false'. Refute it at one input. -/
def runsFairWrong : ChangeSpec := { name := "runsFair", fn := fun _ => fun
  | [d1, d2, d3] => { results := [.lit (.bool false)], args := [d1, d2, d3] }
  | _ => none }
def RunsFairWrongFalsely : Prop := runsFairRow.holds Try.pinned (OpenSpec.ofChange runsFairWrong)

/- THE SECOND FORM. 'bulk': how many values and letters a reading holds, each counted each time it is reached (what is shared counts as often as it is met; a slice's spare places count too). A statement '..UptoSaid' is the law's where the arguments, and the package variables that the reading takes, are together of bulk at most 1048576: NARROWER than '..Said'. Prove '..Said' where nothing that the law and all that it calls make is longer than what came in: it says more and counts as full. Else prove '..UptoSaid'. A law counts once. -/
mutual
def uptoBulk {H : Type} : DataW H → Nat
  | .lit (.string bytes) => bytes.length + 1
  | .lit _ => 1
  | .nil => 1
  | .ptr d => uptoBulk d + 1
  | .slice elems spare => uptoBulkAll elems + uptoBulkAll spare + 1
  | .agg parts => uptoBulkAll parts + 1
  | .iface _ d => uptoBulk d + 1
  | .map entries => uptoBulkEntries entries + 1
  | .held _ => 1
def uptoBulkAll {H : Type} : List (DataW H) → Nat
  | [] => 0
  | d :: r => uptoBulk d + uptoBulkAll r
def uptoBulkEntries {H : Type} : List (Lit × DataW H) → Nat
  | [] => 0
  | x :: r => uptoBulkEntry x + uptoBulkEntries r
def uptoBulkEntry {H : Type} : Lit × DataW H → Nat
  | (.string bytes, d) => bytes.length + uptoBulk d + 1
  | (_, d) => uptoBulk d + 1
 end
def uptoSmall : (H : Type) → List (DataW H) → Bool := fun _ ds => decide (uptoBulkAll ds ≤ 1048576)
def OpenSpec.upto (s : _root_.Go.ChangeSpec) : _root_.Go.OpenSpec := { _root_.Go.OpenSpec.ofChange s with cond := some uptoSmall }

/-- 'watchkeep.AutoOwn', WHERE WHAT IT READS IS OF BULK AT MOST 1048576: true; the input reads as it did. -/
def autoOwnUptoRow : OpenClaim := { program := "ytadbkppgaekmpaa", sum := "d98feebe7e693085fb6e2372b6ec5f370ce5e391a292dc22e25e24c48b27e5ca", func := "watchway/watchkeep.AutoOwn", spec := "autoOwn", unfollowed := true, recurses := true, plainKeys := false, apart := false, narrowed := true }
def AutoOwnUptoSaid : Prop := autoOwnUptoRow.holds Try.pinned (OpenSpec.upto autoOwnSpec)

/-- 'watchkeep.AutoOne', WHERE WHAT IT READS IS OF BULK AT MOST 1048576: true; the input reads as it did. -/
def autoOneUptoRow : OpenClaim := { program := "ytadbkppgaekmpaa", sum := "d98feebe7e693085fb6e2372b6ec5f370ce5e391a292dc22e25e24c48b27e5ca", func := "watchway/watchkeep.AutoOne", spec := "autoOne", unfollowed := true, recurses := true, plainKeys := false, apart := false, narrowed := true }
def AutoOneUptoSaid : Prop := autoOneUptoRow.holds Try.pinned (OpenSpec.upto autoOneSpec)

/-- 'watchkeep.AutoPairs', WHERE WHAT IT READS IS OF BULK AT MOST 1048576: true; the input reads as it did. -/
def autoPairsUptoRow : OpenClaim := { program := "ytadbkppgaekmpaa", sum := "d98feebe7e693085fb6e2372b6ec5f370ce5e391a292dc22e25e24c48b27e5ca", func := "watchway/watchkeep.AutoPairs", spec := "autoPairs", unfollowed := true, recurses := true, plainKeys := false, apart := false, narrowed := true }
def AutoPairsUptoSaid : Prop := autoPairsUptoRow.holds Try.pinned (OpenSpec.upto autoPairsSpec)

/-- 'watchkeep.ProcOwn', WHERE WHAT IT READS IS OF BULK AT MOST 1048576: true; the input reads as it did. -/
def procOwnUptoRow : OpenClaim := { program := "ytadbkppgaekmpaa", sum := "d98feebe7e693085fb6e2372b6ec5f370ce5e391a292dc22e25e24c48b27e5ca", func := "watchway/watchkeep.ProcOwn", spec := "procOwn", unfollowed := true, recurses := true, plainKeys := false, apart := false, narrowed := true }
def ProcOwnUptoSaid : Prop := procOwnUptoRow.holds Try.pinned (OpenSpec.upto procOwnSpec)

/-- 'watchkeep.RunsWalks', WHERE WHAT IT READS IS OF BULK AT MOST 1048576: true; the input reads as it did. -/
def runsWalksUptoRow : OpenClaim := { program := "ytadbkppgaekmpaa", sum := "d98feebe7e693085fb6e2372b6ec5f370ce5e391a292dc22e25e24c48b27e5ca", func := "watchway/watchkeep.RunsWalks", spec := "runsWalks", unfollowed := true, recurses := true, plainKeys := false, apart := false, narrowed := true }
def RunsWalksUptoSaid : Prop := runsWalksUptoRow.holds Try.pinned (OpenSpec.upto runsWalksSpec)

/-- 'watchkeep.WorldOwn', WHERE WHAT IT READS IS OF BULK AT MOST 1048576: true; the input reads as it did. -/
def worldOwnUptoRow : OpenClaim := { program := "ytadbkppgaekmpaa", sum := "d98feebe7e693085fb6e2372b6ec5f370ce5e391a292dc22e25e24c48b27e5ca", func := "watchway/watchkeep.WorldOwn", spec := "worldOwn", unfollowed := true, recurses := true, loops := true, plainKeys := false, apart := false, narrowed := true }
def WorldOwnUptoSaid : Prop := worldOwnUptoRow.holds Try.pinned (OpenSpec.upto worldOwnSpec)

/-- 'watchkeep.EmptyShows', WHERE WHAT IT READS IS OF BULK AT MOST 1048576: true; the input reads as it did. -/
def emptyShowsUptoRow : OpenClaim := { program := "ytadbkppgaekmpaa", sum := "d98feebe7e693085fb6e2372b6ec5f370ce5e391a292dc22e25e24c48b27e5ca", func := "watchway/watchkeep.EmptyShows", spec := "emptyShows", unfollowed := true, recurses := true, plainKeys := false, apart := false, narrowed := true }
def EmptyShowsUptoSaid : Prop := emptyShowsUptoRow.holds Try.pinned (OpenSpec.upto emptyShowsSpec)

/-- 'watchkeep.EmptyTakes', WHERE WHAT IT READS IS OF BULK AT MOST 1048576: true; the input reads as it did. -/
def emptyTakesUptoRow : OpenClaim := { program := "ytadbkppgaekmpaa", sum := "d98feebe7e693085fb6e2372b6ec5f370ce5e391a292dc22e25e24c48b27e5ca", func := "watchway/watchkeep.EmptyTakes", spec := "emptyTakes", unfollowed := true, recurses := true, plainKeys := false, apart := false, narrowed := true }
def EmptyTakesUptoSaid : Prop := emptyTakesUptoRow.holds Try.pinned (OpenSpec.upto emptyTakesSpec)

/-- 'watchkeep.ReplayTurns', WHERE WHAT IT READS IS OF BULK AT MOST 1048576: true; the input reads as it did. -/
def replayTurnsUptoRow : OpenClaim := { program := "ytadbkppgaekmpaa", sum := "d98feebe7e693085fb6e2372b6ec5f370ce5e391a292dc22e25e24c48b27e5ca", func := "watchway/watchkeep.ReplayTurns", spec := "replayTurns", unfollowed := true, recurses := true, loops := true, plainKeys := false, apart := false, narrowed := true }
def ReplayTurnsUptoSaid : Prop := replayTurnsUptoRow.holds Try.pinned (OpenSpec.upto replayTurnsSpec)

/-- 'watchkeep.RunsFair', WHERE WHAT IT READS IS OF BULK AT MOST 1048576: true; the input reads as it did. -/
def runsFairUptoRow : OpenClaim := { program := "ytadbkppgaekmpaa", sum := "d98feebe7e693085fb6e2372b6ec5f370ce5e391a292dc22e25e24c48b27e5ca", func := "watchway/watchkeep.RunsFair", spec := "runsFair", unfollowed := true, recurses := true, plainKeys := false, apart := false, narrowed := true }
def RunsFairUptoSaid : Prop := runsFairUptoRow.holds Try.pinned (OpenSpec.upto runsFairSpec)

end Rows
end Go.Proofs.Ytadbkppgaekmpaa
