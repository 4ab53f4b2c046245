/-
  NARROWER THAN 'FOR EVERY INPUT', by the rows' own cells (each row's printed sentence says how): CtlBack: loops, laid · CtlAgain: laid · LtlBack: loops, laid · LtlAgain: laid · ProcBack: laid · ProcAgain: laid.
  DERIVED. THE GIVEN ROWS OF THIS SEAT. 6 by the template 'for every input the law returns true; each argument reads behind the call as it read before'; 0 by the template 'total and deterministic' (their statements: YtikigaeihdmcaaaDoorTotals.lean).
  GIVEN WITH THE SEED: the statements are not yours to turn. If you find one false, say at which input.
  Laid BY PROGRAM, IN A SANDBOX (cutbox-rows.mjs): the forced cells as the released guide's own fill.sh prints them over the translation fa4573c1a99d6ac8… (all of the seat's roots in one cut). By AI agents, Wed Nov 11 2026. No macro, syntax, notation, axiom, sorry.
-/
import Derived.Test.YtikigaeihdmcaaaDoorChecked
import GoSem.PinnedTables
import GoSem.Claim
import GoSem.ClaimJoined
import GoSem.ClaimMapViews
import Derived.JoinedTies
import Derived.KernelRfl
namespace Go.Proofs.YtikigaeihdmcaaaDoor
/- THE CELL 'sum', in the pinned program and in every row, IS THE sha256 OF THE DUMP (.gsa) THAT YtikigaeihdmcaaaDoorProg.lean LOADS. Nothing in Lean hashes anything: it is a label: what it is worth is what the hold of that sum in a sandbox is worth. -/
noncomputable def Tryd.pinned : Pinned := { name := "ytikigaeihdmcaaadoor", sum := "fa4573c1a99d6ac81cf9eec51be55c4acd1a234b3088434b8019cdb47d11da58", checked := Tryd.checked }
namespace Rows
def none {H : Type} : Left H := { results := [], args := [] }

/- WHAT THE LISTED PACKAGE-LEVEL VARIABLES READ AS WHEN THE CALL BEGINS. Each datum BY PROGRAM (the guide's laid-datum.mjs) off the statement by which the dump's own 'gosem.cut.vars' lays the variable. In a bare row this is a premise. The card (YtikigaeihdmcaaaDoorCards.lean) ties it to the program's text. -/
def laid_errors_errorType {H : Type} : DataW H := .iface "internal/reflectlite.rtype" (.agg [.ptr (.lit (.string [101, 114, 114, 111, 114]))])
def laid_watchway_ltl_errStand {H : Type} : DataW H := .iface "*errors.errorString" (.ptr (.agg [.lit (.string [116, 104, 105, 115, 32, 99, 97, 110, 39, 116, 32, 115, 116, 97, 110, 100, 32, 104, 101, 114, 101])]))
def laid_watchway_ltl_errOpen {H : Type} : DataW H := .iface "*errors.errorString" (.ptr (.agg [.lit (.string [116, 111, 111, 32, 109, 117, 99, 104, 32, 105, 115, 32, 111, 112, 101, 110])]))
def laid_watchway_ltl_errWord {H : Type} : DataW H := .iface "*errors.errorString" (.ptr (.agg [.lit (.string [110, 111, 32, 115, 117, 99, 104, 32, 110, 97, 109, 101])]))
def laid_unicode_utf8_acceptRanges {H : Type} : DataW H := .agg [.agg [.lit (.int .u8 128), .lit (.int .u8 191)], .agg [.lit (.int .u8 160), .lit (.int .u8 191)], .agg [.lit (.int .u8 128), .lit (.int .u8 159)], .agg [.lit (.int .u8 144), .lit (.int .u8 191)], .agg [.lit (.int .u8 128), .lit (.int .u8 143)], .agg [.lit (.int .u8 0), .lit (.int .u8 0)], .agg [.lit (.int .u8 0), .lit (.int .u8 0)], .agg [.lit (.int .u8 0), .lit (.int .u8 0)], .agg [.lit (.int .u8 0), .lit (.int .u8 0)], .agg [.lit (.int .u8 0), .lit (.int .u8 0)], .agg [.lit (.int .u8 0), .lit (.int .u8 0)], .agg [.lit (.int .u8 0), .lit (.int .u8 0)], .agg [.lit (.int .u8 0), .lit (.int .u8 0)], .agg [.lit (.int .u8 0), .lit (.int .u8 0)], .agg [.lit (.int .u8 0), .lit (.int .u8 0)], .agg [.lit (.int .u8 0), .lit (.int .u8 0)]]
/-- One of Go's own tables, pinned by name: the form's constant. -/
def laid_unicode_utf8_first : DataW Unit := Go.Pinned.utf8First

/-- 'watchkeep.CtlBack': WHATEVER THE INPUT: true; the input reads as it did. -/
def ctlBackSpec : ChangeSpec := { name := "ctlBack", fn := fun _ => fun
  | [d1, d2] => { results := [.lit (.bool true)], args := [d1, d2] }
  | _ => none }
def ctlBackRow : OpenClaim := { program := "ytikigaeihdmcaaadoor", sum := "fa4573c1a99d6ac81cf9eec51be55c4acd1a234b3088434b8019cdb47d11da58", func := "watchway/watchkeep.CtlBack", spec := "ctlBack", inPlace := ["internal/reflectlite.ValueOf", "(internal/reflectlite.Value).Type", "(internal/reflectlite.Value).IsNil", "internal/reflectlite.TypeOf", "(internal/reflectlite.Value).Elem", "(internal/reflectlite.Value).Set"], unfollowed := true, recurses := true, named := ["errors.errorType"], loops := true, apart := false, laid := [("errors.errorType", laid_errors_errorType)] }
def CtlBackSaid : Prop := ctlBackRow.holds Tryd.pinned (OpenSpec.ofChange ctlBackSpec)

/-- ITS FALSE NEIGHBOUR: 'it returns false'. Refute it at one input. -/
def ctlBackWrong : ChangeSpec := { name := "ctlBack", fn := fun _ => fun
  | [d1, d2] => { results := [.lit (.bool false)], args := [d1, d2] }
  | _ => none }
def CtlBackWrongFalsely : Prop := ctlBackRow.holds Tryd.pinned (OpenSpec.ofChange ctlBackWrong)

/-- 'watchkeep.CtlAgain': WHATEVER THE INPUT: true; the input reads as it did. -/
def ctlAgainSpec : ChangeSpec := { name := "ctlAgain", fn := fun _ => fun
  | [d1, d2] => { results := [.lit (.bool true)], args := [d1, d2] }
  | _ => none }
def ctlAgainRow : OpenClaim := { program := "ytikigaeihdmcaaadoor", sum := "fa4573c1a99d6ac81cf9eec51be55c4acd1a234b3088434b8019cdb47d11da58", func := "watchway/watchkeep.CtlAgain", spec := "ctlAgain", inPlace := ["internal/reflectlite.ValueOf", "(internal/reflectlite.Value).Type", "(internal/reflectlite.Value).IsNil", "internal/reflectlite.TypeOf", "(internal/reflectlite.Value).Elem", "(internal/reflectlite.Value).Set"], unfollowed := true, recurses := true, named := ["errors.errorType"], apart := false, laid := [("errors.errorType", laid_errors_errorType)] }
def CtlAgainSaid : Prop := ctlAgainRow.holds Tryd.pinned (OpenSpec.ofChange ctlAgainSpec)

/-- ITS FALSE NEIGHBOUR: 'it returns false'. Refute it at one input. -/
def ctlAgainWrong : ChangeSpec := { name := "ctlAgain", fn := fun _ => fun
  | [d1, d2] => { results := [.lit (.bool false)], args := [d1, d2] }
  | _ => none }
def CtlAgainWrongFalsely : Prop := ctlAgainRow.holds Tryd.pinned (OpenSpec.ofChange ctlAgainWrong)

/-- 'watchkeep.LtlBack': WHATEVER THE INPUT: true; the input reads as it did. -/
def ltlBackSpec : ChangeSpec := { name := "ltlBack", fn := fun _ => fun
  | [d1, d2] => { results := [.lit (.bool true)], args := [d1, d2] }
  | _ => none }
def ltlBackRow : OpenClaim := { program := "ytikigaeihdmcaaadoor", sum := "fa4573c1a99d6ac81cf9eec51be55c4acd1a234b3088434b8019cdb47d11da58", func := "watchway/watchkeep.LtlBack", spec := "ltlBack", inPlace := ["internal/reflectlite.TypeOf", "internal/reflectlite.ValueOf", "(internal/reflectlite.Value).Type", "(internal/reflectlite.Value).IsNil", "(internal/reflectlite.Value).Elem", "(internal/reflectlite.Value).Set"], unfollowed := true, recurses := true, named := ["watchway/ltl.errStand", "watchway/ltl.errOpen", "watchway/ltl.errWord", "errors.errorType"], loops := true, apart := false, laid := [("errors.errorType", laid_errors_errorType), ("watchway/ltl.errStand", laid_watchway_ltl_errStand), ("watchway/ltl.errOpen", laid_watchway_ltl_errOpen), ("watchway/ltl.errWord", laid_watchway_ltl_errWord)] }
def LtlBackSaid : Prop := ltlBackRow.holds Tryd.pinned (OpenSpec.ofChange ltlBackSpec)

/-- ITS FALSE NEIGHBOUR: 'it returns false'. Refute it at one input. -/
def ltlBackWrong : ChangeSpec := { name := "ltlBack", fn := fun _ => fun
  | [d1, d2] => { results := [.lit (.bool false)], args := [d1, d2] }
  | _ => none }
def LtlBackWrongFalsely : Prop := ltlBackRow.holds Tryd.pinned (OpenSpec.ofChange ltlBackWrong)

/-- 'watchkeep.LtlAgain': WHATEVER THE INPUT: true; the input reads as it did. -/
def ltlAgainSpec : ChangeSpec := { name := "ltlAgain", fn := fun _ => fun
  | [d1, d2] => { results := [.lit (.bool true)], args := [d1, d2] }
  | _ => none }
def ltlAgainRow : OpenClaim := { program := "ytikigaeihdmcaaadoor", sum := "fa4573c1a99d6ac81cf9eec51be55c4acd1a234b3088434b8019cdb47d11da58", func := "watchway/watchkeep.LtlAgain", spec := "ltlAgain", inPlace := ["internal/reflectlite.TypeOf", "internal/reflectlite.ValueOf", "(internal/reflectlite.Value).Type", "(internal/reflectlite.Value).IsNil", "(internal/reflectlite.Value).Elem", "(internal/reflectlite.Value).Set"], unfollowed := true, recurses := true, named := ["watchway/ltl.errStand", "watchway/ltl.errOpen", "watchway/ltl.errWord", "errors.errorType"], apart := false, laid := [("errors.errorType", laid_errors_errorType), ("watchway/ltl.errStand", laid_watchway_ltl_errStand), ("watchway/ltl.errOpen", laid_watchway_ltl_errOpen), ("watchway/ltl.errWord", laid_watchway_ltl_errWord)] }
def LtlAgainSaid : Prop := ltlAgainRow.holds Tryd.pinned (OpenSpec.ofChange ltlAgainSpec)

/-- ITS FALSE NEIGHBOUR: 'it returns false'. Refute it at one input. -/
def ltlAgainWrong : ChangeSpec := { name := "ltlAgain", fn := fun _ => fun
  | [d1, d2] => { results := [.lit (.bool false)], args := [d1, d2] }
  | _ => none }
def LtlAgainWrongFalsely : Prop := ltlAgainRow.holds Tryd.pinned (OpenSpec.ofChange ltlAgainWrong)

/-- 'watchkeep.ProcBack': WHATEVER THE INPUT: true; the input reads as it did. -/
def procBackSpec : ChangeSpec := { name := "procBack", fn := fun _ => fun
  | [d] => { results := [.lit (.bool true)], args := [d] }
  | _ => none }
def procBackRow : OpenClaim := { program := "ytikigaeihdmcaaadoor", sum := "fa4573c1a99d6ac81cf9eec51be55c4acd1a234b3088434b8019cdb47d11da58", func := "watchway/watchkeep.ProcBack", spec := "procBack", inPlace := ["internal/abi.NoEscape", "internal/bytealg.IndexByteString", "internal/bytealg.IndexString", "internal/bytealg.CountString"], unfollowed := true, recurses := true, named := ["internal/bytealg.MaxLen", "unicode/utf8.first", "unicode/utf8.acceptRanges"], apart := false, laid := [("unicode/utf8.acceptRanges", laid_unicode_utf8_acceptRanges), ("unicode/utf8.first", laid_unicode_utf8_first)] }
def ProcBackSaid : Prop := procBackRow.holds Tryd.pinned (OpenSpec.ofChange procBackSpec)

/-- ITS FALSE NEIGHBOUR: 'it returns false'. Refute it at one input. -/
def procBackWrong : ChangeSpec := { name := "procBack", fn := fun _ => fun
  | [d] => { results := [.lit (.bool false)], args := [d] }
  | _ => none }
def ProcBackWrongFalsely : Prop := procBackRow.holds Tryd.pinned (OpenSpec.ofChange procBackWrong)

/-- 'watchkeep.ProcAgain': WHATEVER THE INPUT: true; the input reads as it did. -/
def procAgainSpec : ChangeSpec := { name := "procAgain", fn := fun _ => fun
  | [d] => { results := [.lit (.bool true)], args := [d] }
  | _ => none }
def procAgainRow : OpenClaim := { program := "ytikigaeihdmcaaadoor", sum := "fa4573c1a99d6ac81cf9eec51be55c4acd1a234b3088434b8019cdb47d11da58", func := "watchway/watchkeep.ProcAgain", spec := "procAgain", inPlace := ["internal/bytealg.IndexByteString", "internal/bytealg.IndexString", "internal/bytealg.CountString", "internal/abi.NoEscape"], unfollowed := true, recurses := true, named := ["internal/bytealg.MaxLen", "unicode/utf8.first", "unicode/utf8.acceptRanges"], apart := false, laid := [("unicode/utf8.acceptRanges", laid_unicode_utf8_acceptRanges), ("unicode/utf8.first", laid_unicode_utf8_first)] }
def ProcAgainSaid : Prop := procAgainRow.holds Tryd.pinned (OpenSpec.ofChange procAgainSpec)

/-- ITS FALSE NEIGHBOUR: 'it returns false'. Refute it at one input. -/
def procAgainWrong : ChangeSpec := { name := "procAgain", fn := fun _ => fun
  | [d] => { results := [.lit (.bool false)], args := [d] }
  | _ => none }
def ProcAgainWrongFalsely : Prop := procAgainRow.holds Tryd.pinned (OpenSpec.ofChange procAgainWrong)

/- THE SECOND FORM. 'bulk': how many values and letters a reading holds, each counted each time it is reached (what is shared counts as often as it is met; a slice's spare places count too). A statement '..UptoSaid' is the law's where the arguments, and the package variables that the reading takes, are together of bulk at most 1048576: NARROWER than '..Said'. Prove '..Said' where nothing that the law and all that it calls make is longer than what came in: it says more and counts as full. Else prove '..UptoSaid'. A law counts once. -/
mutual
def uptoBulk {H : Type} : DataW H → Nat
  | .lit (.string bytes) => bytes.length + 1
  | .lit _ => 1
  | .nil => 1
  | .ptr d => uptoBulk d + 1
  | .slice elems spare => uptoBulkAll elems + uptoBulkAll spare + 1
  | .agg parts => uptoBulkAll parts + 1
  | .iface _ d => uptoBulk d + 1
  | .map entries => uptoBulkEntries entries + 1
  | .held _ => 1
def uptoBulkAll {H : Type} : List (DataW H) → Nat
  | [] => 0
  | d :: r => uptoBulk d + uptoBulkAll r
def uptoBulkEntries {H : Type} : List (Lit × DataW H) → Nat
  | [] => 0
  | x :: r => uptoBulkEntry x + uptoBulkEntries r
def uptoBulkEntry {H : Type} : Lit × DataW H → Nat
  | (.string bytes, d) => bytes.length + uptoBulk d + 1
  | (_, d) => uptoBulk d + 1
 end
def uptoSmall : (H : Type) → List (DataW H) → Bool := fun _ ds => decide (uptoBulkAll ds ≤ 1048576)
def OpenSpec.upto (s : _root_.Go.ChangeSpec) : _root_.Go.OpenSpec := { _root_.Go.OpenSpec.ofChange s with cond := some uptoSmall }

/-- 'watchkeep.CtlBack', WHERE WHAT IT READS IS OF BULK AT MOST 1048576: true; the input reads as it did. -/
def ctlBackUptoRow : OpenClaim := { program := "ytikigaeihdmcaaadoor", sum := "fa4573c1a99d6ac81cf9eec51be55c4acd1a234b3088434b8019cdb47d11da58", func := "watchway/watchkeep.CtlBack", spec := "ctlBack", inPlace := ["internal/reflectlite.ValueOf", "(internal/reflectlite.Value).Type", "(internal/reflectlite.Value).IsNil", "internal/reflectlite.TypeOf", "(internal/reflectlite.Value).Elem", "(internal/reflectlite.Value).Set"], unfollowed := true, recurses := true, named := ["errors.errorType"], loops := true, apart := false, laid := [("errors.errorType", laid_errors_errorType)], narrowed := true }
def CtlBackUptoSaid : Prop := ctlBackUptoRow.holds Tryd.pinned (OpenSpec.upto ctlBackSpec)

/-- 'watchkeep.CtlAgain', WHERE WHAT IT READS IS OF BULK AT MOST 1048576: true; the input reads as it did. -/
def ctlAgainUptoRow : OpenClaim := { program := "ytikigaeihdmcaaadoor", sum := "fa4573c1a99d6ac81cf9eec51be55c4acd1a234b3088434b8019cdb47d11da58", func := "watchway/watchkeep.CtlAgain", spec := "ctlAgain", inPlace := ["internal/reflectlite.ValueOf", "(internal/reflectlite.Value).Type", "(internal/reflectlite.Value).IsNil", "internal/reflectlite.TypeOf", "(internal/reflectlite.Value).Elem", "(internal/reflectlite.Value).Set"], unfollowed := true, recurses := true, named := ["errors.errorType"], apart := false, laid := [("errors.errorType", laid_errors_errorType)], narrowed := true }
def CtlAgainUptoSaid : Prop := ctlAgainUptoRow.holds Tryd.pinned (OpenSpec.upto ctlAgainSpec)

/-- 'watchkeep.LtlBack', WHERE WHAT IT READS IS OF BULK AT MOST 1048576: true; the input reads as it did. -/
def ltlBackUptoRow : OpenClaim := { program := "ytikigaeihdmcaaadoor", sum := "fa4573c1a99d6ac81cf9eec51be55c4acd1a234b3088434b8019cdb47d11da58", func := "watchway/watchkeep.LtlBack", spec := "ltlBack", inPlace := ["internal/reflectlite.TypeOf", "internal/reflectlite.ValueOf", "(internal/reflectlite.Value).Type", "(internal/reflectlite.Value).IsNil", "(internal/reflectlite.Value).Elem", "(internal/reflectlite.Value).Set"], unfollowed := true, recurses := true, named := ["watchway/ltl.errStand", "watchway/ltl.errOpen", "watchway/ltl.errWord", "errors.errorType"], loops := true, apart := false, laid := [("errors.errorType", laid_errors_errorType), ("watchway/ltl.errStand", laid_watchway_ltl_errStand), ("watchway/ltl.errOpen", laid_watchway_ltl_errOpen), ("watchway/ltl.errWord", laid_watchway_ltl_errWord)], narrowed := true }
def LtlBackUptoSaid : Prop := ltlBackUptoRow.holds Tryd.pinned (OpenSpec.upto ltlBackSpec)

/-- 'watchkeep.LtlAgain', WHERE WHAT IT READS IS OF BULK AT MOST 1048576: true; the input reads as it did. -/
def ltlAgainUptoRow : OpenClaim := { program := "ytikigaeihdmcaaadoor", sum := "fa4573c1a99d6ac81cf9eec51be55c4acd1a234b3088434b8019cdb47d11da58", func := "watchway/watchkeep.LtlAgain", spec := "ltlAgain", inPlace := ["internal/reflectlite.TypeOf", "internal/reflectlite.ValueOf", "(internal/reflectlite.Value).Type", "(internal/reflectlite.Value).IsNil", "(internal/reflectlite.Value).Elem", "(internal/reflectlite.Value).Set"], unfollowed := true, recurses := true, named := ["watchway/ltl.errStand", "watchway/ltl.errOpen", "watchway/ltl.errWord", "errors.errorType"], apart := false, laid := [("errors.errorType", laid_errors_errorType), ("watchway/ltl.errStand", laid_watchway_ltl_errStand), ("watchway/ltl.errOpen", laid_watchway_ltl_errOpen), ("watchway/ltl.errWord", laid_watchway_ltl_errWord)], narrowed := true }
def LtlAgainUptoSaid : Prop := ltlAgainUptoRow.holds Tryd.pinned (OpenSpec.upto ltlAgainSpec)

/-- 'watchkeep.ProcBack', WHERE WHAT IT READS IS OF BULK AT MOST 1048576: true; the input reads as it did. -/
def procBackUptoRow : OpenClaim := { program := "ytikigaeihdmcaaadoor", sum := "fa4573c1a99d6ac81cf9eec51be55c4acd1a234b3088434b8019cdb47d11da58", func := "watchway/watchkeep.ProcBack", spec := "procBack", inPlace := ["internal/abi.NoEscape", "internal/bytealg.IndexByteString", "internal/bytealg.IndexString", "internal/bytealg.CountString"], unfollowed := true, recurses := true, named := ["internal/bytealg.MaxLen", "unicode/utf8.first", "unicode/utf8.acceptRanges"], apart := false, laid := [("unicode/utf8.acceptRanges", laid_unicode_utf8_acceptRanges), ("unicode/utf8.first", laid_unicode_utf8_first)], narrowed := true }
def ProcBackUptoSaid : Prop := procBackUptoRow.holds Tryd.pinned (OpenSpec.upto procBackSpec)

/-- 'watchkeep.ProcAgain', WHERE WHAT IT READS IS OF BULK AT MOST 1048576: true; the input reads as it did. -/
def procAgainUptoRow : OpenClaim := { program := "ytikigaeihdmcaaadoor", sum := "fa4573c1a99d6ac81cf9eec51be55c4acd1a234b3088434b8019cdb47d11da58", func := "watchway/watchkeep.ProcAgain", spec := "procAgain", inPlace := ["internal/bytealg.IndexByteString", "internal/bytealg.IndexString", "internal/bytealg.CountString", "internal/abi.NoEscape"], unfollowed := true, recurses := true, named := ["internal/bytealg.MaxLen", "unicode/utf8.first", "unicode/utf8.acceptRanges"], apart := false, laid := [("unicode/utf8.acceptRanges", laid_unicode_utf8_acceptRanges), ("unicode/utf8.first", laid_unicode_utf8_first)], narrowed := true }
def ProcAgainUptoSaid : Prop := procAgainUptoRow.holds Tryd.pinned (OpenSpec.upto procAgainSpec)

end Rows
end Go.Proofs.YtikigaeihdmcaaaDoor
