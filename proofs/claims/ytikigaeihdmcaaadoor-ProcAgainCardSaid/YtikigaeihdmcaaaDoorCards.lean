/-
  DERIVED. GIVEN WITH THE SEED: THE CARDS: each row of YtikigaeihdmcaaaDoorRows.lean that lists a variable, with what it lists TIED to the program's text (the seventh form; the later family's looks); each row that meets fmt, with fmt's text TOLD by the authors' own Lean function (tested against real Go, not proved from fmt's source: count such statements apart). THE CARD IS WHAT COUNTS. Prove the row's statement (the work); the ties are given (YtikigaeihdmcaaaDoorTie.lean); close each card by the builder's one call (the guide's Derived/Test/ToyasCard.lean, 'card_holds'). Laid BY PROGRAM, IN A SANDBOX (cutbox-door.mjs). By AI agents, Wed Nov 11 2026. No macro, syntax, notation, axiom, sorry.
-/
import Derived.Test.YtikigaeihdmcaaaDoorRows
import GoSem.ClaimSeven
namespace Go.Proofs.YtikigaeihdmcaaaDoor
namespace Rows

/-- THE TIED CARD OF 'watchkeep.CtlBack'. -/
def ctlBackCard : Claim7 := { stood := { row := ctlBackRow, standIns := [], harness := (true, "4ffe589768195fed4a224a4a767c9437a9c8e9ee0bf59311a0ec54e8c2d542ce"), looks := true }, kinds := [], alts := [], laidByText := true, laidKinds := [.handle], laidTests := true, laidLooks := .later }
def CtlBackCardSaid : Prop := Claim7.holds Tryd.pinned (.plain (OpenSpec.ofChange ctlBackSpec)) ctlBackCard

/-- THE TIED CARD OF 'watchkeep.CtlAgain'. -/
def ctlAgainCard : Claim7 := { stood := { row := ctlAgainRow, standIns := [], harness := (true, "4ffe589768195fed4a224a4a767c9437a9c8e9ee0bf59311a0ec54e8c2d542ce"), looks := true }, kinds := [], alts := [], laidByText := true, laidKinds := [.handle], laidTests := true, laidLooks := .later }
def CtlAgainCardSaid : Prop := Claim7.holds Tryd.pinned (.plain (OpenSpec.ofChange ctlAgainSpec)) ctlAgainCard

/-- THE TIED CARD OF 'watchkeep.LtlBack'. -/
def ltlBackCard : Claim7 := { stood := { row := ltlBackRow, standIns := [], harness := (true, "4ffe589768195fed4a224a4a767c9437a9c8e9ee0bf59311a0ec54e8c2d542ce"), looks := true }, kinds := [], alts := [], laidByText := true, laidKinds := [.handle, .sentinel, .sentinel, .sentinel], laidTests := true, laidLooks := .later }
def LtlBackCardSaid : Prop := Claim7.holds Tryd.pinned (.plain (OpenSpec.ofChange ltlBackSpec)) ltlBackCard

/-- THE TIED CARD OF 'watchkeep.LtlAgain'. -/
def ltlAgainCard : Claim7 := { stood := { row := ltlAgainRow, standIns := [], harness := (true, "4ffe589768195fed4a224a4a767c9437a9c8e9ee0bf59311a0ec54e8c2d542ce"), looks := true }, kinds := [], alts := [], laidByText := true, laidKinds := [.handle, .sentinel, .sentinel, .sentinel], laidTests := true, laidLooks := .later }
def LtlAgainCardSaid : Prop := Claim7.holds Tryd.pinned (.plain (OpenSpec.ofChange ltlAgainSpec)) ltlAgainCard

/-- THE TIED CARD OF 'watchkeep.ProcBack'. -/
def procBackCard : Claim7 := { stood := { row := procBackRow, standIns := [], harness := (true, "4ffe589768195fed4a224a4a767c9437a9c8e9ee0bf59311a0ec54e8c2d542ce"), looks := true }, kinds := [], alts := [], laidByText := true, laidKinds := [.data, .pinned], laidTests := true, laidLooks := .later }
def ProcBackCardSaid : Prop := Claim7.holds Tryd.pinned (.plain (OpenSpec.ofChange procBackSpec)) procBackCard

/-- THE TIED CARD OF 'watchkeep.ProcAgain'. -/
def procAgainCard : Claim7 := { stood := { row := procAgainRow, standIns := [], harness := (true, "4ffe589768195fed4a224a4a767c9437a9c8e9ee0bf59311a0ec54e8c2d542ce"), looks := true }, kinds := [], alts := [], laidByText := true, laidKinds := [.data, .pinned], laidTests := true, laidLooks := .later }
def ProcAgainCardSaid : Prop := Claim7.holds Tryd.pinned (.plain (OpenSpec.ofChange procAgainSpec)) procAgainCard

/-- THE SECOND FORM's CARD OF 'watchkeep.CtlBack'. -/
def ctlBackUptoCard : Claim7 := { stood := { row := ctlBackUptoRow, standIns := [], harness := (true, "4ffe589768195fed4a224a4a767c9437a9c8e9ee0bf59311a0ec54e8c2d542ce"), looks := true }, kinds := [], alts := [], laidByText := true, laidKinds := [.handle], laidTests := true, laidLooks := .later }
def CtlBackUptoCardSaid : Prop := Claim7.holds Tryd.pinned (.plain (OpenSpec.upto ctlBackSpec)) ctlBackUptoCard

/-- THE SECOND FORM's CARD OF 'watchkeep.CtlAgain'. -/
def ctlAgainUptoCard : Claim7 := { stood := { row := ctlAgainUptoRow, standIns := [], harness := (true, "4ffe589768195fed4a224a4a767c9437a9c8e9ee0bf59311a0ec54e8c2d542ce"), looks := true }, kinds := [], alts := [], laidByText := true, laidKinds := [.handle], laidTests := true, laidLooks := .later }
def CtlAgainUptoCardSaid : Prop := Claim7.holds Tryd.pinned (.plain (OpenSpec.upto ctlAgainSpec)) ctlAgainUptoCard

/-- THE SECOND FORM's CARD OF 'watchkeep.LtlBack'. -/
def ltlBackUptoCard : Claim7 := { stood := { row := ltlBackUptoRow, standIns := [], harness := (true, "4ffe589768195fed4a224a4a767c9437a9c8e9ee0bf59311a0ec54e8c2d542ce"), looks := true }, kinds := [], alts := [], laidByText := true, laidKinds := [.handle, .sentinel, .sentinel, .sentinel], laidTests := true, laidLooks := .later }
def LtlBackUptoCardSaid : Prop := Claim7.holds Tryd.pinned (.plain (OpenSpec.upto ltlBackSpec)) ltlBackUptoCard

/-- THE SECOND FORM's CARD OF 'watchkeep.LtlAgain'. -/
def ltlAgainUptoCard : Claim7 := { stood := { row := ltlAgainUptoRow, standIns := [], harness := (true, "4ffe589768195fed4a224a4a767c9437a9c8e9ee0bf59311a0ec54e8c2d542ce"), looks := true }, kinds := [], alts := [], laidByText := true, laidKinds := [.handle, .sentinel, .sentinel, .sentinel], laidTests := true, laidLooks := .later }
def LtlAgainUptoCardSaid : Prop := Claim7.holds Tryd.pinned (.plain (OpenSpec.upto ltlAgainSpec)) ltlAgainUptoCard

/-- THE SECOND FORM's CARD OF 'watchkeep.ProcBack'. -/
def procBackUptoCard : Claim7 := { stood := { row := procBackUptoRow, standIns := [], harness := (true, "4ffe589768195fed4a224a4a767c9437a9c8e9ee0bf59311a0ec54e8c2d542ce"), looks := true }, kinds := [], alts := [], laidByText := true, laidKinds := [.data, .pinned], laidTests := true, laidLooks := .later }
def ProcBackUptoCardSaid : Prop := Claim7.holds Tryd.pinned (.plain (OpenSpec.upto procBackSpec)) procBackUptoCard

/-- THE SECOND FORM's CARD OF 'watchkeep.ProcAgain'. -/
def procAgainUptoCard : Claim7 := { stood := { row := procAgainUptoRow, standIns := [], harness := (true, "4ffe589768195fed4a224a4a767c9437a9c8e9ee0bf59311a0ec54e8c2d542ce"), looks := true }, kinds := [], alts := [], laidByText := true, laidKinds := [.data, .pinned], laidTests := true, laidLooks := .later }
def ProcAgainUptoCardSaid : Prop := Claim7.holds Tryd.pinned (.plain (OpenSpec.upto procAgainSpec)) procAgainUptoCard
end Rows
end Go.Proofs.YtikigaeihdmcaaaDoor
