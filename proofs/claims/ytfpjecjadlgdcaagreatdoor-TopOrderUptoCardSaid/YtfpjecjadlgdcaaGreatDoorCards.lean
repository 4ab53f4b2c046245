/-
  DERIVED. GIVEN WITH THE SEED: THE CARDS: each row of YtfpjecjadlgdcaaGreatDoorRows.lean that lists a variable, with what it lists TIED to the program's text (the seventh form; the later family's looks); each row that meets fmt, with fmt's text TOLD by the authors' own Lean function (tested against real Go, not proved from fmt's source: count such statements apart). THE CARD IS WHAT COUNTS. Prove the row's statement (the work); the ties are given (YtfpjecjadlgdcaaGreatDoorTie.lean); close each card by the builder's one call (the guide's Derived/Test/ToyasCard.lean, 'card_holds'). Laid BY PROGRAM, IN A SANDBOX (cutbox-door.mjs). By AI agents, Wed Nov 11 2026. No macro, syntax, notation, axiom, sorry.
-/
import Derived.Test.YtfpjecjadlgdcaaGreatDoorRows
import GoSem.ClaimSeven
namespace Go.Proofs.YtfpjecjadlgdcaaGreatDoor
namespace Rows

/-- THE TIED CARD OF 'watchtop.TopBounds'. -/
def topBoundsCard : Claim7 := { stood := { row := topBoundsRow, standIns := [], harness := (true, "36f2d9fde328af654401ca2dc9fc35fe7dc61730a5417fae3e70cdeca3f6c215"), looks := false }, kinds := [], alts := [], laidByText := true, laidKinds := [.data, .pinned], laidTests := true, laidLooks := .later }
def TopBoundsCardSaid : Prop := Claim7.holds Tryz.pinned (.plain (OpenSpec.ofChange topBoundsSpec)) topBoundsCard

/-- THE TIED CARD OF 'watchtop.TopOrder'. -/
def topOrderCard : Claim7 := { stood := { row := topOrderRow, standIns := [], harness := (true, "36f2d9fde328af654401ca2dc9fc35fe7dc61730a5417fae3e70cdeca3f6c215"), looks := false }, kinds := [], alts := [], laidByText := true, laidKinds := [.data, .pinned], laidTests := true, laidLooks := .later }
def TopOrderCardSaid : Prop := Claim7.holds Tryz.pinned (.plain (OpenSpec.ofChange topOrderSpec)) topOrderCard

/-- THE TIED CARD OF 'watchkeep.ReportTells'. -/
def reportTellsCard : Claim7 := { stood := { row := reportTellsRow, standIns := [], harness := (true, "36f2d9fde328af654401ca2dc9fc35fe7dc61730a5417fae3e70cdeca3f6c215"), looks := false }, kinds := [], alts := [], laidByText := true, laidKinds := [.data, .data, .data, .data, .pinned], laidTests := true, laidLooks := .later }
def ReportTellsCardSaid : Prop := Claim7.holds Tryz.pinned (.plain (OpenSpec.ofChange reportTellsSpec)) reportTellsCard

/-- THE SECOND FORM's CARD OF 'watchtop.TopBounds'. -/
def topBoundsUptoCard : Claim7 := { stood := { row := topBoundsUptoRow, standIns := [], harness := (true, "36f2d9fde328af654401ca2dc9fc35fe7dc61730a5417fae3e70cdeca3f6c215"), looks := false }, kinds := [], alts := [], laidByText := true, laidKinds := [.data, .pinned], laidTests := true, laidLooks := .later }
def TopBoundsUptoCardSaid : Prop := Claim7.holds Tryz.pinned (.plain (OpenSpec.upto topBoundsSpec)) topBoundsUptoCard

/-- THE SECOND FORM's CARD OF 'watchtop.TopOrder'. -/
def topOrderUptoCard : Claim7 := { stood := { row := topOrderUptoRow, standIns := [], harness := (true, "36f2d9fde328af654401ca2dc9fc35fe7dc61730a5417fae3e70cdeca3f6c215"), looks := false }, kinds := [], alts := [], laidByText := true, laidKinds := [.data, .pinned], laidTests := true, laidLooks := .later }
def TopOrderUptoCardSaid : Prop := Claim7.holds Tryz.pinned (.plain (OpenSpec.upto topOrderSpec)) topOrderUptoCard

/-- THE SECOND FORM's CARD OF 'watchkeep.ReportTells'. -/
def reportTellsUptoCard : Claim7 := { stood := { row := reportTellsUptoRow, standIns := [], harness := (true, "36f2d9fde328af654401ca2dc9fc35fe7dc61730a5417fae3e70cdeca3f6c215"), looks := false }, kinds := [], alts := [], laidByText := true, laidKinds := [.data, .data, .data, .data, .pinned], laidTests := true, laidLooks := .later }
def ReportTellsUptoCardSaid : Prop := Claim7.holds Tryz.pinned (.plain (OpenSpec.upto reportTellsSpec)) reportTellsUptoCard
end Rows
end Go.Proofs.YtfpjecjadlgdcaaGreatDoor
