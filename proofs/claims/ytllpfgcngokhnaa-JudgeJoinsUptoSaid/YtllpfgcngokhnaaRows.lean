/-
  NARROWER THAN 'FOR EVERY INPUT', by the rows' own cells (each row's printed sentence says how): WorldOwn: loops · TableauJoins: loops · TableauNots: loops · TableauMeans: loops · JudgeJoins: loops · JudgeShows: loops.
  DERIVED. THE GIVEN ROWS OF THIS SEAT. 8 by the template 'for every input the law returns true; each argument reads behind the call as it read before'; 0 by the template 'total and deterministic' (their statements: YtllpfgcngokhnaaTotals.lean).
  GIVEN WITH THE SEED: the statements are not yours to turn. If you find one false, say at which input.
  Laid BY PROGRAM, IN A SANDBOX (cutbox-rows.mjs): the forced cells as the released guide's own fill.sh prints them over the translation c624a15cf7b2a9ba… (all of the seat's roots in one cut). By AI agents, Wed Nov 11 2026. No macro, syntax, notation, axiom, sorry.
-/
import Derived.Test.YtllpfgcngokhnaaChecked
import GoSem.Claim
import GoSem.ClaimJoined
import GoSem.ClaimMapViews
import Derived.JoinedTies
import Derived.KernelRfl
namespace Go.Proofs.Ytllpfgcngokhnaa
/- THE CELL 'sum', in the pinned program and in every row, IS THE sha256 OF THE DUMP (.gsa) THAT YtllpfgcngokhnaaProg.lean LOADS. Nothing in Lean hashes anything: it is a label: what it is worth is what the hold of that sum in a sandbox is worth. -/
noncomputable def Try.pinned : Pinned := { name := "ytllpfgcngokhnaa", sum := "c624a15cf7b2a9ba89157a6bda0b3e7a87f7c67fb7f0f06c150a3dc4fda38e61", checked := Try.checked }
namespace Rows
def none {H : Type} : Left H := { results := [], args := [] }

/-- 'watchkeep.EmptyShows': WHATEVER THE INPUT: true; the input reads as it did. -/
def emptyShowsSpec : ChangeSpec := { name := "emptyShows", fn := fun _ => fun
  | [d1, d2] => { results := [.lit (.bool true)], args := [d1, d2] }
  | _ => none }
def emptyShowsRow : OpenClaim := { program := "ytllpfgcngokhnaa", sum := "c624a15cf7b2a9ba89157a6bda0b3e7a87f7c67fb7f0f06c150a3dc4fda38e61", func := "watchway/watchkeep.EmptyShows", spec := "emptyShows", unfollowed := true, recurses := true, plainKeys := false, apart := false }
def EmptyShowsSaid : Prop := emptyShowsRow.holds Try.pinned (OpenSpec.ofChange emptyShowsSpec)

/-- ITS FALSE NEIGHBOUR: 'it returns false'. Refute it at one input. -/
def emptyShowsWrong : ChangeSpec := { name := "emptyShows", fn := fun _ => fun
  | [d1, d2] => { results := [.lit (.bool false)], args := [d1, d2] }
  | _ => none }
def EmptyShowsWrongFalsely : Prop := emptyShowsRow.holds Try.pinned (OpenSpec.ofChange emptyShowsWrong)

/-- 'watchkeep.EmptyTakes': WHATEVER THE INPUT: true; the input reads as it did. -/
def emptyTakesSpec : ChangeSpec := { name := "emptyTakes", fn := fun _ => fun
  | [d1, d2, d3, d4] => { results := [.lit (.bool true)], args := [d1, d2, d3, d4] }
  | _ => none }
def emptyTakesRow : OpenClaim := { program := "ytllpfgcngokhnaa", sum := "c624a15cf7b2a9ba89157a6bda0b3e7a87f7c67fb7f0f06c150a3dc4fda38e61", func := "watchway/watchkeep.EmptyTakes", spec := "emptyTakes", unfollowed := true, recurses := true, plainKeys := false, apart := false }
def EmptyTakesSaid : Prop := emptyTakesRow.holds Try.pinned (OpenSpec.ofChange emptyTakesSpec)

/-- ITS FALSE NEIGHBOUR: 'it returns false'. Refute it at one input. -/
def emptyTakesWrong : ChangeSpec := { name := "emptyTakes", fn := fun _ => fun
  | [d1, d2, d3, d4] => { results := [.lit (.bool false)], args := [d1, d2, d3, d4] }
  | _ => none }
def EmptyTakesWrongFalsely : Prop := emptyTakesRow.holds Try.pinned (OpenSpec.ofChange emptyTakesWrong)

/-- 'watchkeep.WorldOwn': WHATEVER THE INPUT: true; the input reads as it did. -/
def worldOwnSpec : ChangeSpec := { name := "worldOwn", fn := fun _ => fun
  | [d1, d2, d3] => { results := [.lit (.bool true)], args := [d1, d2, d3] }
  | _ => none }
def worldOwnRow : OpenClaim := { program := "ytllpfgcngokhnaa", sum := "c624a15cf7b2a9ba89157a6bda0b3e7a87f7c67fb7f0f06c150a3dc4fda38e61", func := "watchway/watchkeep.WorldOwn", spec := "worldOwn", unfollowed := true, recurses := true, loops := true, plainKeys := false, apart := false }
def WorldOwnSaid : Prop := worldOwnRow.holds Try.pinned (OpenSpec.ofChange worldOwnSpec)

/-- ITS FALSE NEIGHBOUR: 'it returns false'. Refute it at one input. -/
def worldOwnWrong : ChangeSpec := { name := "worldOwn", fn := fun _ => fun
  | [d1, d2, d3] => { results := [.lit (.bool false)], args := [d1, d2, d3] }
  | _ => none }
def WorldOwnWrongFalsely : Prop := worldOwnRow.holds Try.pinned (OpenSpec.ofChange worldOwnWrong)

/-- 'watchkeep.TableauJoins': WHATEVER THE INPUT: true; the input reads as it did. -/
def tableauJoinsSpec : ChangeSpec := { name := "tableauJoins", fn := fun _ => fun
  | [d1, d2, d3] => { results := [.lit (.bool true)], args := [d1, d2, d3] }
  | _ => none }
def tableauJoinsRow : OpenClaim := { program := "ytllpfgcngokhnaa", sum := "c624a15cf7b2a9ba89157a6bda0b3e7a87f7c67fb7f0f06c150a3dc4fda38e61", func := "watchway/watchkeep.TableauJoins", spec := "tableauJoins", unfollowed := true, recurses := true, loops := true, plainKeys := false, apart := false }
def TableauJoinsSaid : Prop := tableauJoinsRow.holds Try.pinned (OpenSpec.ofChange tableauJoinsSpec)

/-- ITS FALSE NEIGHBOUR: 'it returns false'. Refute it at one input. -/
def tableauJoinsWrong : ChangeSpec := { name := "tableauJoins", fn := fun _ => fun
  | [d1, d2, d3] => { results := [.lit (.bool false)], args := [d1, d2, d3] }
  | _ => none }
def TableauJoinsWrongFalsely : Prop := tableauJoinsRow.holds Try.pinned (OpenSpec.ofChange tableauJoinsWrong)

/-- 'watchkeep.TableauNots': WHATEVER THE INPUT: true; the input reads as it did. -/
def tableauNotsSpec : ChangeSpec := { name := "tableauNots", fn := fun _ => fun
  | [d1, d2] => { results := [.lit (.bool true)], args := [d1, d2] }
  | _ => none }
def tableauNotsRow : OpenClaim := { program := "ytllpfgcngokhnaa", sum := "c624a15cf7b2a9ba89157a6bda0b3e7a87f7c67fb7f0f06c150a3dc4fda38e61", func := "watchway/watchkeep.TableauNots", spec := "tableauNots", unfollowed := true, recurses := true, loops := true, plainKeys := false, apart := false }
def TableauNotsSaid : Prop := tableauNotsRow.holds Try.pinned (OpenSpec.ofChange tableauNotsSpec)

/-- ITS FALSE NEIGHBOUR: 'it returns false'. Refute it at one input. -/
def tableauNotsWrong : ChangeSpec := { name := "tableauNots", fn := fun _ => fun
  | [d1, d2] => { results := [.lit (.bool false)], args := [d1, d2] }
  | _ => none }
def TableauNotsWrongFalsely : Prop := tableauNotsRow.holds Try.pinned (OpenSpec.ofChange tableauNotsWrong)

/-- 'watchkeep.TableauMeans': WHATEVER THE INPUT: true; the input reads as it did. -/
def tableauMeansSpec : ChangeSpec := { name := "tableauMeans", fn := fun _ => fun
  | [d1, d2] => { results := [.lit (.bool true)], args := [d1, d2] }
  | _ => none }
def tableauMeansRow : OpenClaim := { program := "ytllpfgcngokhnaa", sum := "c624a15cf7b2a9ba89157a6bda0b3e7a87f7c67fb7f0f06c150a3dc4fda38e61", func := "watchway/watchkeep.TableauMeans", spec := "tableauMeans", unfollowed := true, recurses := true, loops := true, plainKeys := false, apart := false }
def TableauMeansSaid : Prop := tableauMeansRow.holds Try.pinned (OpenSpec.ofChange tableauMeansSpec)

/-- ITS FALSE NEIGHBOUR: 'it returns false'. Refute it at one input. -/
def tableauMeansWrong : ChangeSpec := { name := "tableauMeans", fn := fun _ => fun
  | [d1, d2] => { results := [.lit (.bool false)], args := [d1, d2] }
  | _ => none }
def TableauMeansWrongFalsely : Prop := tableauMeansRow.holds Try.pinned (OpenSpec.ofChange tableauMeansWrong)

/-- 'watchkeep.JudgeJoins': WHATEVER THE INPUT: true; the input reads as it did. -/
def judgeJoinsSpec : ChangeSpec := { name := "judgeJoins", fn := fun _ => fun
  | [d1, d2, d3] => { results := [.lit (.bool true)], args := [d1, d2, d3] }
  | _ => none }
def judgeJoinsRow : OpenClaim := { program := "ytllpfgcngokhnaa", sum := "c624a15cf7b2a9ba89157a6bda0b3e7a87f7c67fb7f0f06c150a3dc4fda38e61", func := "watchway/watchkeep.JudgeJoins", spec := "judgeJoins", unfollowed := true, recurses := true, loops := true, plainKeys := false, apart := false }
def JudgeJoinsSaid : Prop := judgeJoinsRow.holds Try.pinned (OpenSpec.ofChange judgeJoinsSpec)

/-- ITS FALSE NEIGHBOUR: 'it returns false'. Refute it at one input. -/
def judgeJoinsWrong : ChangeSpec := { name := "judgeJoins", fn := fun _ => fun
  | [d1, d2, d3] => { results := [.lit (.bool false)], args := [d1, d2, d3] }
  | _ => none }
def JudgeJoinsWrongFalsely : Prop := judgeJoinsRow.holds Try.pinned (OpenSpec.ofChange judgeJoinsWrong)

/-- 'watchkeep.JudgeShows': WHATEVER THE INPUT: true; the input reads as it did. -/
def judgeShowsSpec : ChangeSpec := { name := "judgeShows", fn := fun _ => fun
  | [d1, d2] => { results := [.lit (.bool true)], args := [d1, d2] }
  | _ => none }
def judgeShowsRow : OpenClaim := { program := "ytllpfgcngokhnaa", sum := "c624a15cf7b2a9ba89157a6bda0b3e7a87f7c67fb7f0f06c150a3dc4fda38e61", func := "watchway/watchkeep.JudgeShows", spec := "judgeShows", unfollowed := true, recurses := true, loops := true, plainKeys := false, apart := false }
def JudgeShowsSaid : Prop := judgeShowsRow.holds Try.pinned (OpenSpec.ofChange judgeShowsSpec)

/-- ITS FALSE NEIGHBOUR: 'it returns false'. Refute it at one input. -/
def judgeShowsWrong : ChangeSpec := { name := "judgeShows", fn := fun _ => fun
  | [d1, d2] => { results := [.lit (.bool false)], args := [d1, d2] }
  | _ => none }
def JudgeShowsWrongFalsely : Prop := judgeShowsRow.holds Try.pinned (OpenSpec.ofChange judgeShowsWrong)

/- THE SECOND FORM. 'bulk': how many values and letters a reading holds, each counted each time it is reached (what is shared counts as often as it is met; a slice's spare places count too). A statement '..UptoSaid' is the law's where the arguments, and the package variables that the reading takes, are together of bulk at most 1048576: NARROWER than '..Said'. Prove '..Said' where nothing that the law and all that it calls make is longer than what came in: it says more and counts as full. Else prove '..UptoSaid'. A law counts once. -/
mutual
def uptoBulk {H : Type} : DataW H → Nat
  | .lit (.string bytes) => bytes.length + 1
  | .lit _ => 1
  | .nil => 1
  | .ptr d => uptoBulk d + 1
  | .slice elems spare => uptoBulkAll elems + uptoBulkAll spare + 1
  | .agg parts => uptoBulkAll parts + 1
  | .iface _ d => uptoBulk d + 1
  | .map entries => uptoBulkEntries entries + 1
  | .held _ => 1
def uptoBulkAll {H : Type} : List (DataW H) → Nat
  | [] => 0
  | d :: r => uptoBulk d + uptoBulkAll r
def uptoBulkEntries {H : Type} : List (Lit × DataW H) → Nat
  | [] => 0
  | x :: r => uptoBulkEntry x + uptoBulkEntries r
def uptoBulkEntry {H : Type} : Lit × DataW H → Nat
  | (.string bytes, d) => bytes.length + uptoBulk d + 1
  | (_, d) => uptoBulk d + 1
 end
def uptoSmall : (H : Type) → List (DataW H) → Bool := fun _ ds => decide (uptoBulkAll ds ≤ 1048576)
def OpenSpec.upto (s : _root_.Go.ChangeSpec) : _root_.Go.OpenSpec := { _root_.Go.OpenSpec.ofChange s with cond := some uptoSmall }

/-- 'watchkeep.EmptyShows', WHERE WHAT IT READS IS OF BULK AT MOST 1048576: true; the input reads as it did. -/
def emptyShowsUptoRow : OpenClaim := { program := "ytllpfgcngokhnaa", sum := "c624a15cf7b2a9ba89157a6bda0b3e7a87f7c67fb7f0f06c150a3dc4fda38e61", func := "watchway/watchkeep.EmptyShows", spec := "emptyShows", unfollowed := true, recurses := true, plainKeys := false, apart := false, narrowed := true }
def EmptyShowsUptoSaid : Prop := emptyShowsUptoRow.holds Try.pinned (OpenSpec.upto emptyShowsSpec)

/-- 'watchkeep.EmptyTakes', WHERE WHAT IT READS IS OF BULK AT MOST 1048576: true; the input reads as it did. -/
def emptyTakesUptoRow : OpenClaim := { program := "ytllpfgcngokhnaa", sum := "c624a15cf7b2a9ba89157a6bda0b3e7a87f7c67fb7f0f06c150a3dc4fda38e61", func := "watchway/watchkeep.EmptyTakes", spec := "emptyTakes", unfollowed := true, recurses := true, plainKeys := false, apart := false, narrowed := true }
def EmptyTakesUptoSaid : Prop := emptyTakesUptoRow.holds Try.pinned (OpenSpec.upto emptyTakesSpec)

/-- 'watchkeep.WorldOwn', WHERE WHAT IT READS IS OF BULK AT MOST 1048576: true; the input reads as it did. -/
def worldOwnUptoRow : OpenClaim := { program := "ytllpfgcngokhnaa", sum := "c624a15cf7b2a9ba89157a6bda0b3e7a87f7c67fb7f0f06c150a3dc4fda38e61", func := "watchway/watchkeep.WorldOwn", spec := "worldOwn", unfollowed := true, recurses := true, loops := true, plainKeys := false, apart := false, narrowed := true }
def WorldOwnUptoSaid : Prop := worldOwnUptoRow.holds Try.pinned (OpenSpec.upto worldOwnSpec)

/-- 'watchkeep.TableauJoins', WHERE WHAT IT READS IS OF BULK AT MOST 1048576: true; the input reads as it did. -/
def tableauJoinsUptoRow : OpenClaim := { program := "ytllpfgcngokhnaa", sum := "c624a15cf7b2a9ba89157a6bda0b3e7a87f7c67fb7f0f06c150a3dc4fda38e61", func := "watchway/watchkeep.TableauJoins", spec := "tableauJoins", unfollowed := true, recurses := true, loops := true, plainKeys := false, apart := false, narrowed := true }
def TableauJoinsUptoSaid : Prop := tableauJoinsUptoRow.holds Try.pinned (OpenSpec.upto tableauJoinsSpec)

/-- 'watchkeep.TableauNots', WHERE WHAT IT READS IS OF BULK AT MOST 1048576: true; the input reads as it did. -/
def tableauNotsUptoRow : OpenClaim := { program := "ytllpfgcngokhnaa", sum := "c624a15cf7b2a9ba89157a6bda0b3e7a87f7c67fb7f0f06c150a3dc4fda38e61", func := "watchway/watchkeep.TableauNots", spec := "tableauNots", unfollowed := true, recurses := true, loops := true, plainKeys := false, apart := false, narrowed := true }
def TableauNotsUptoSaid : Prop := tableauNotsUptoRow.holds Try.pinned (OpenSpec.upto tableauNotsSpec)

/-- 'watchkeep.TableauMeans', WHERE WHAT IT READS IS OF BULK AT MOST 1048576: true; the input reads as it did. -/
def tableauMeansUptoRow : OpenClaim := { program := "ytllpfgcngokhnaa", sum := "c624a15cf7b2a9ba89157a6bda0b3e7a87f7c67fb7f0f06c150a3dc4fda38e61", func := "watchway/watchkeep.TableauMeans", spec := "tableauMeans", unfollowed := true, recurses := true, loops := true, plainKeys := false, apart := false, narrowed := true }
def TableauMeansUptoSaid : Prop := tableauMeansUptoRow.holds Try.pinned (OpenSpec.upto tableauMeansSpec)

/-- 'watchkeep.JudgeJoins', WHERE WHAT IT READS IS OF BULK AT MOST 1048576: true; the input reads as it did. -/
def judgeJoinsUptoRow : OpenClaim := { program := "ytllpfgcngokhnaa", sum := "c624a15cf7b2a9ba89157a6bda0b3e7a87f7c67fb7f0f06c150a3dc4fda38e61", func := "watchway/watchkeep.JudgeJoins", spec := "judgeJoins", unfollowed := true, recurses := true, loops := true, plainKeys := false, apart := false, narrowed := true }
def JudgeJoinsUptoSaid : Prop := judgeJoinsUptoRow.holds Try.pinned (OpenSpec.upto judgeJoinsSpec)

/-- 'watchkeep.JudgeShows', WHERE WHAT IT READS IS OF BULK AT MOST 1048576: true; the input reads as it did. -/
def judgeShowsUptoRow : OpenClaim := { program := "ytllpfgcngokhnaa", sum := "c624a15cf7b2a9ba89157a6bda0b3e7a87f7c67fb7f0f06c150a3dc4fda38e61", func := "watchway/watchkeep.JudgeShows", spec := "judgeShows", unfollowed := true, recurses := true, loops := true, plainKeys := false, apart := false, narrowed := true }
def JudgeShowsUptoSaid : Prop := judgeShowsUptoRow.holds Try.pinned (OpenSpec.upto judgeShowsSpec)

end Rows
end Go.Proofs.Ytllpfgcngokhnaa
