/-
  DERIVED. GIVEN WITH THE SEED: THE CARDS: each row of YtpelmhoocepenaaGreatDoorRows.lean that lists a variable, with what it lists TIED to the program's text (the seventh form; the later family's looks); each row that meets fmt, with fmt's text TOLD by the authors' own Lean function (tested against real Go, not proved from fmt's source: count such statements apart). THE CARD IS WHAT COUNTS. Prove the row's statement (the work); the ties are given (YtpelmhoocepenaaGreatDoorTie.lean); close each card by the builder's one call (the guide's Derived/Test/ToyasCard.lean, 'card_holds'). Laid BY PROGRAM, IN A SANDBOX (cutbox-door.mjs). By AI agents, Wed Nov 11 2026. No macro, syntax, notation, axiom, sorry.
-/
import Derived.Test.YtpelmhoocepenaaGreatDoorRows
import GoSem.ClaimSeven
namespace Go.Proofs.YtpelmhoocepenaaGreatDoor
namespace Rows

/-- THE TIED CARD OF 'windlasslaw24.TestTells'. -/
def testTellsCard : Claim7 := { stood := { row := testTellsRow, standIns := [], harness := (true, "02b13638ab5982b1a441849c3b1a0ff5b9486261338d3a0c7d2ceb4f25d57866"), looks := false }, kinds := [], alts := [], laidByText := true, laidKinds := [.listed, .data], laidTests := true, laidLooks := .later }
def TestTellsCardSaid : Prop := Claim7.holds Tryz.pinned (.plain (OpenSpec.ofChange testTellsSpec)) testTellsCard

/-- THE SECOND FORM's CARD OF 'windlasslaw24.TestTells'. -/
def testTellsUptoCard : Claim7 := { stood := { row := testTellsUptoRow, standIns := [], harness := (true, "02b13638ab5982b1a441849c3b1a0ff5b9486261338d3a0c7d2ceb4f25d57866"), looks := false }, kinds := [], alts := [], laidByText := true, laidKinds := [.listed, .data], laidTests := true, laidLooks := .later }
def TestTellsUptoCardSaid : Prop := Claim7.holds Tryz.pinned (.plain (OpenSpec.upto testTellsSpec)) testTellsUptoCard
end Rows
end Go.Proofs.YtpelmhoocepenaaGreatDoor
