/-
  NARROWER THAN 'FOR EVERY INPUT', by the rows' own cells (each row's printed sentence says how): LassoLaws: loops · LassoNext: loops.
  DERIVED. THE GIVEN ROWS OF THIS SEAT. 6 by the template 'for every input the law returns true; each argument reads behind the call as it read before'; 0 by the template 'total and deterministic' (their statements: YtacpdifbpeajbaaTotals.lean).
  GIVEN WITH THE SEED: the statements are not yours to turn. If you find one false, say at which input.
  Laid BY PROGRAM, IN A SANDBOX (cutbox-rows.mjs): the forced cells as the released guide's own fill.sh prints them over the translation 2632b2bec02bc453… (all of the seat's roots in one cut). By AI agents, Wed Nov 11 2026. No macro, syntax, notation, axiom, sorry.
-/
import Derived.Test.YtacpdifbpeajbaaChecked
import GoSem.Claim
import GoSem.ClaimJoined
import GoSem.ClaimMapViews
import Derived.JoinedTies
import Derived.KernelRfl
namespace Go.Proofs.Ytacpdifbpeajbaa
/- THE CELL 'sum', in the pinned program and in every row, IS THE sha256 OF THE DUMP (.gsa) THAT YtacpdifbpeajbaaProg.lean LOADS. Nothing in Lean hashes anything: it is a label: what it is worth is what the hold of that sum in a sandbox is worth. -/
noncomputable def Try.pinned : Pinned := { name := "ytacpdifbpeajbaa", sum := "2632b2bec02bc453eb2dbf8cd2f766aa7956abe7acf4ea79b2d98ffe8e3cb6a0", checked := Try.checked }
namespace Rows
def none {H : Type} : Left H := { results := [], args := [] }

/-- 'watchkeep.SccJoined': WHATEVER THE INPUT: true; the input reads as it did. -/
def sccJoinedSpec : ChangeSpec := { name := "sccJoined", fn := fun _ => fun
  | [d1, d2, d3] => { results := [.lit (.bool true)], args := [d1, d2, d3] }
  | _ => none }
def sccJoinedRow : OpenClaim := { program := "ytacpdifbpeajbaa", sum := "2632b2bec02bc453eb2dbf8cd2f766aa7956abe7acf4ea79b2d98ffe8e3cb6a0", func := "watchway/watchkeep.SccJoined", spec := "sccJoined", unfollowed := true, recurses := true, plainKeys := false, apart := false }
def SccJoinedSaid : Prop := sccJoinedRow.holds Try.pinned (OpenSpec.ofChange sccJoinedSpec)

/-- ITS FALSE NEIGHBOUR: 'it returns false'. Refute it at one input. -/
def sccJoinedWrong : ChangeSpec := { name := "sccJoined", fn := fun _ => fun
  | [d1, d2, d3] => { results := [.lit (.bool false)], args := [d1, d2, d3] }
  | _ => none }
def SccJoinedWrongFalsely : Prop := sccJoinedRow.holds Try.pinned (OpenSpec.ofChange sccJoinedWrong)

/-- 'watchkeep.GraphOwn': WHATEVER THE INPUT: true; the input reads as it did. -/
def graphOwnSpec : ChangeSpec := { name := "graphOwn", fn := fun _ => fun
  | [d1, d2] => { results := [.lit (.bool true)], args := [d1, d2] }
  | _ => none }
def graphOwnRow : OpenClaim := { program := "ytacpdifbpeajbaa", sum := "2632b2bec02bc453eb2dbf8cd2f766aa7956abe7acf4ea79b2d98ffe8e3cb6a0", func := "watchway/watchkeep.GraphOwn", spec := "graphOwn", unfollowed := true, recurses := true, plainKeys := false, apart := false }
def GraphOwnSaid : Prop := graphOwnRow.holds Try.pinned (OpenSpec.ofChange graphOwnSpec)

/-- ITS FALSE NEIGHBOUR: 'it returns false'. Refute it at one input. -/
def graphOwnWrong : ChangeSpec := { name := "graphOwn", fn := fun _ => fun
  | [d1, d2] => { results := [.lit (.bool false)], args := [d1, d2] }
  | _ => none }
def GraphOwnWrongFalsely : Prop := graphOwnRow.holds Try.pinned (OpenSpec.ofChange graphOwnWrong)

/-- 'watchkeep.LassoLaws': WHATEVER THE INPUT: true; the input reads as it did. -/
def lassoLawsSpec : ChangeSpec := { name := "lassoLaws", fn := fun _ => fun
  | [d1, d2, d3] => { results := [.lit (.bool true)], args := [d1, d2, d3] }
  | _ => none }
def lassoLawsRow : OpenClaim := { program := "ytacpdifbpeajbaa", sum := "2632b2bec02bc453eb2dbf8cd2f766aa7956abe7acf4ea79b2d98ffe8e3cb6a0", func := "watchway/watchkeep.LassoLaws", spec := "lassoLaws", unfollowed := true, recurses := true, loops := true, plainKeys := false, apart := false }
def LassoLawsSaid : Prop := lassoLawsRow.holds Try.pinned (OpenSpec.ofChange lassoLawsSpec)

/-- ITS FALSE NEIGHBOUR: 'it returns false'. Refute it at one input. -/
def lassoLawsWrong : ChangeSpec := { name := "lassoLaws", fn := fun _ => fun
  | [d1, d2, d3] => { results := [.lit (.bool false)], args := [d1, d2, d3] }
  | _ => none }
def LassoLawsWrongFalsely : Prop := lassoLawsRow.holds Try.pinned (OpenSpec.ofChange lassoLawsWrong)

/-- 'watchkeep.LassoNext': WHATEVER THE INPUT: true; the input reads as it did. -/
def lassoNextSpec : ChangeSpec := { name := "lassoNext", fn := fun _ => fun
  | [d1, d2] => { results := [.lit (.bool true)], args := [d1, d2] }
  | _ => none }
def lassoNextRow : OpenClaim := { program := "ytacpdifbpeajbaa", sum := "2632b2bec02bc453eb2dbf8cd2f766aa7956abe7acf4ea79b2d98ffe8e3cb6a0", func := "watchway/watchkeep.LassoNext", spec := "lassoNext", recurses := true, loops := true, plainKeys := false, apart := false }
def LassoNextSaid : Prop := lassoNextRow.holds Try.pinned (OpenSpec.ofChange lassoNextSpec)

/-- ITS FALSE NEIGHBOUR: 'it returns false'. Refute it at one input. -/
def lassoNextWrong : ChangeSpec := { name := "lassoNext", fn := fun _ => fun
  | [d1, d2] => { results := [.lit (.bool false)], args := [d1, d2] }
  | _ => none }
def LassoNextWrongFalsely : Prop := lassoNextRow.holds Try.pinned (OpenSpec.ofChange lassoNextWrong)

/-- 'watchkeep.AutoOwn': WHATEVER THE INPUT: true; the input reads as it did. -/
def autoOwnSpec : ChangeSpec := { name := "autoOwn", fn := fun _ => fun
  | [d] => { results := [.lit (.bool true)], args := [d] }
  | _ => none }
def autoOwnRow : OpenClaim := { program := "ytacpdifbpeajbaa", sum := "2632b2bec02bc453eb2dbf8cd2f766aa7956abe7acf4ea79b2d98ffe8e3cb6a0", func := "watchway/watchkeep.AutoOwn", spec := "autoOwn", unfollowed := true, recurses := true, plainKeys := false, apart := false }
def AutoOwnSaid : Prop := autoOwnRow.holds Try.pinned (OpenSpec.ofChange autoOwnSpec)

/-- ITS FALSE NEIGHBOUR: 'it returns false'. Refute it at one input. -/
def autoOwnWrong : ChangeSpec := { name := "autoOwn", fn := fun _ => fun
  | [d] => { results := [.lit (.bool false)], args := [d] }
  | _ => none }
def AutoOwnWrongFalsely : Prop := autoOwnRow.holds Try.pinned (OpenSpec.ofChange autoOwnWrong)

/-- 'watchkeep.DwyerScopes': WHATEVER THE INPUT: true; the input reads as it did. -/
def dwyerScopesSpec : ChangeSpec := { name := "dwyerScopes", fn := fun _ => fun
  | [d1, d2] => { results := [.lit (.bool true)], args := [d1, d2] }
  | _ => none }
def dwyerScopesRow : OpenClaim := { program := "ytacpdifbpeajbaa", sum := "2632b2bec02bc453eb2dbf8cd2f766aa7956abe7acf4ea79b2d98ffe8e3cb6a0", func := "watchway/watchkeep.DwyerScopes", spec := "dwyerScopes", plainKeys := false, apart := false }
def DwyerScopesSaid : Prop := dwyerScopesRow.holds Try.pinned (OpenSpec.ofChange dwyerScopesSpec)

/-- ITS FALSE NEIGHBOUR: 'it returns false'. Refute it at one input. -/
def dwyerScopesWrong : ChangeSpec := { name := "dwyerScopes", fn := fun _ => fun
  | [d1, d2] => { results := [.lit (.bool false)], args := [d1, d2] }
  | _ => none }
def DwyerScopesWrongFalsely : Prop := dwyerScopesRow.holds Try.pinned (OpenSpec.ofChange dwyerScopesWrong)

/- THE SECOND FORM. 'bulk': how many values and letters a reading holds, each counted each time it is reached (what is shared counts as often as it is met; a slice's spare places count too). A statement '..UptoSaid' is the law's where the arguments, and the package variables that the reading takes, are together of bulk at most 1048576: NARROWER than '..Said'. Prove '..Said' where nothing that the law and all that it calls make is longer than what came in: it says more and counts as full. Else prove '..UptoSaid'. A law counts once. -/
mutual
def uptoBulk {H : Type} : DataW H → Nat
  | .lit (.string bytes) => bytes.length + 1
  | .lit _ => 1
  | .nil => 1
  | .ptr d => uptoBulk d + 1
  | .slice elems spare => uptoBulkAll elems + uptoBulkAll spare + 1
  | .agg parts => uptoBulkAll parts + 1
  | .iface _ d => uptoBulk d + 1
  | .map entries => uptoBulkEntries entries + 1
  | .held _ => 1
def uptoBulkAll {H : Type} : List (DataW H) → Nat
  | [] => 0
  | d :: r => uptoBulk d + uptoBulkAll r
def uptoBulkEntries {H : Type} : List (Lit × DataW H) → Nat
  | [] => 0
  | x :: r => uptoBulkEntry x + uptoBulkEntries r
def uptoBulkEntry {H : Type} : Lit × DataW H → Nat
  | (.string bytes, d) => bytes.length + uptoBulk d + 1
  | (_, d) => uptoBulk d + 1
 end
def uptoSmall : (H : Type) → List (DataW H) → Bool := fun _ ds => decide (uptoBulkAll ds ≤ 1048576)
def OpenSpec.upto (s : _root_.Go.ChangeSpec) : _root_.Go.OpenSpec := { _root_.Go.OpenSpec.ofChange s with cond := some uptoSmall }

/-- 'watchkeep.SccJoined', WHERE WHAT IT READS IS OF BULK AT MOST 1048576: true; the input reads as it did. -/
def sccJoinedUptoRow : OpenClaim := { program := "ytacpdifbpeajbaa", sum := "2632b2bec02bc453eb2dbf8cd2f766aa7956abe7acf4ea79b2d98ffe8e3cb6a0", func := "watchway/watchkeep.SccJoined", spec := "sccJoined", unfollowed := true, recurses := true, plainKeys := false, apart := false, narrowed := true }
def SccJoinedUptoSaid : Prop := sccJoinedUptoRow.holds Try.pinned (OpenSpec.upto sccJoinedSpec)

/-- 'watchkeep.GraphOwn', WHERE WHAT IT READS IS OF BULK AT MOST 1048576: true; the input reads as it did. -/
def graphOwnUptoRow : OpenClaim := { program := "ytacpdifbpeajbaa", sum := "2632b2bec02bc453eb2dbf8cd2f766aa7956abe7acf4ea79b2d98ffe8e3cb6a0", func := "watchway/watchkeep.GraphOwn", spec := "graphOwn", unfollowed := true, recurses := true, plainKeys := false, apart := false, narrowed := true }
def GraphOwnUptoSaid : Prop := graphOwnUptoRow.holds Try.pinned (OpenSpec.upto graphOwnSpec)

/-- 'watchkeep.LassoLaws', WHERE WHAT IT READS IS OF BULK AT MOST 1048576: true; the input reads as it did. -/
def lassoLawsUptoRow : OpenClaim := { program := "ytacpdifbpeajbaa", sum := "2632b2bec02bc453eb2dbf8cd2f766aa7956abe7acf4ea79b2d98ffe8e3cb6a0", func := "watchway/watchkeep.LassoLaws", spec := "lassoLaws", unfollowed := true, recurses := true, loops := true, plainKeys := false, apart := false, narrowed := true }
def LassoLawsUptoSaid : Prop := lassoLawsUptoRow.holds Try.pinned (OpenSpec.upto lassoLawsSpec)

/-- 'watchkeep.LassoNext', WHERE WHAT IT READS IS OF BULK AT MOST 1048576: true; the input reads as it did. -/
def lassoNextUptoRow : OpenClaim := { program := "ytacpdifbpeajbaa", sum := "2632b2bec02bc453eb2dbf8cd2f766aa7956abe7acf4ea79b2d98ffe8e3cb6a0", func := "watchway/watchkeep.LassoNext", spec := "lassoNext", recurses := true, loops := true, plainKeys := false, apart := false, narrowed := true }
def LassoNextUptoSaid : Prop := lassoNextUptoRow.holds Try.pinned (OpenSpec.upto lassoNextSpec)

/-- 'watchkeep.AutoOwn', WHERE WHAT IT READS IS OF BULK AT MOST 1048576: true; the input reads as it did. -/
def autoOwnUptoRow : OpenClaim := { program := "ytacpdifbpeajbaa", sum := "2632b2bec02bc453eb2dbf8cd2f766aa7956abe7acf4ea79b2d98ffe8e3cb6a0", func := "watchway/watchkeep.AutoOwn", spec := "autoOwn", unfollowed := true, recurses := true, plainKeys := false, apart := false, narrowed := true }
def AutoOwnUptoSaid : Prop := autoOwnUptoRow.holds Try.pinned (OpenSpec.upto autoOwnSpec)

/-- 'watchkeep.DwyerScopes', WHERE WHAT IT READS IS OF BULK AT MOST 1048576: true; the input reads as it did. -/
def dwyerScopesUptoRow : OpenClaim := { program := "ytacpdifbpeajbaa", sum := "2632b2bec02bc453eb2dbf8cd2f766aa7956abe7acf4ea79b2d98ffe8e3cb6a0", func := "watchway/watchkeep.DwyerScopes", spec := "dwyerScopes", plainKeys := false, apart := false, narrowed := true }
def DwyerScopesUptoSaid : Prop := dwyerScopesUptoRow.holds Try.pinned (OpenSpec.upto dwyerScopesSpec)

end Rows
end Go.Proofs.Ytacpdifbpeajbaa
