/-
  DERIVED. GIVEN WITH THE SEED: THE CARDS: each row of YtodmkmobdmcfbaaGreatDoorRows.lean that lists a variable, with what it lists TIED to the program's text (the seventh form; the later family's looks); each row that meets fmt, with fmt's text TOLD by the authors' own Lean function (tested against real Go, not proved from fmt's source: count such statements apart). THE CARD IS WHAT COUNTS. Prove the row's statement (the work); the ties are given (YtodmkmobdmcfbaaGreatDoorTie.lean); close each card by the builder's one call (the guide's Derived/Test/ToyasCard.lean, 'card_holds'). Laid BY PROGRAM, IN A SANDBOX (cutbox-door.mjs). By AI agents, Wed Nov 11 2026. No macro, syntax, notation, axiom, sorry.
-/
import Derived.Test.YtodmkmobdmcfbaaGreatDoorRows
import GoSem.ClaimSeven
namespace Go.Proofs.YtodmkmobdmcfbaaGreatDoor
namespace Rows

/-- THE TIED CARD OF 'watchtop.TopNot'. -/
def topNotCard : Claim7 := { stood := { row := topNotRow, standIns := [], harness := (true, "443561322e71e8bb3aa1171e2d11c4753f86ed9ec534769996b28ce8ded8b4f7"), looks := false }, kinds := [], alts := [], laidByText := true, laidKinds := [.data, .pinned], laidTests := true, laidLooks := .later }
def TopNotCardSaid : Prop := Claim7.holds Tryz.pinned (.plain (OpenSpec.ofChange topNotSpec)) topNotCard

/-- THE SECOND FORM's CARD OF 'watchtop.TopNot'. -/
def topNotUptoCard : Claim7 := { stood := { row := topNotUptoRow, standIns := [], harness := (true, "443561322e71e8bb3aa1171e2d11c4753f86ed9ec534769996b28ce8ded8b4f7"), looks := false }, kinds := [], alts := [], laidByText := true, laidKinds := [.data, .pinned], laidTests := true, laidLooks := .later }
def TopNotUptoCardSaid : Prop := Claim7.holds Tryz.pinned (.plain (OpenSpec.upto topNotSpec)) topNotUptoCard
end Rows
end Go.Proofs.YtodmkmobdmcfbaaGreatDoor
