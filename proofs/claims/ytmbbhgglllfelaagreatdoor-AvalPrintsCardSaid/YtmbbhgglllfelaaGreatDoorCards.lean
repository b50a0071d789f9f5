/-
  DERIVED. GIVEN WITH THE SEED: THE CARDS: each row of YtmbbhgglllfelaaGreatDoorRows.lean that lists a variable, with what it lists TIED to the program's text (the seventh form; the later family's looks); each row that meets fmt, with fmt's text TOLD by the authors' own Lean function (tested against real Go, not proved from fmt's source: count such statements apart). THE CARD IS WHAT COUNTS. Prove the row's statement (the work); the ties are given (YtmbbhgglllfelaaGreatDoorTie.lean); close each card by the builder's one call (the guide's Derived/Test/ToyasCard.lean, 'card_holds'). Laid BY PROGRAM, IN A SANDBOX (cutbox-door.mjs). By AI agents, Wed Nov 11 2026. No macro, syntax, notation, axiom, sorry.
-/
import Derived.Test.YtmbbhgglllfelaaGreatDoorRows
import GoSem.ClaimSeven
namespace Go.Proofs.YtmbbhgglllfelaaGreatDoor
namespace Rows

/-- THE TIED CARD OF 'windlasslaw14.AvalEvals'. -/
def avalEvalsCard : Claim7 := { stood := { row := avalEvalsRow, standIns := [], harness := (true, "37f02499a559669017186a97f8f4ffaf5e74126c1916cddd76132d71c62d7b58"), looks := false }, kinds := [], alts := [], laidByText := true, laidKinds := [.listed, .data], laidTests := true, laidLooks := .later }
def AvalEvalsCardSaid : Prop := Claim7.holds Tryz.pinned (.plain (OpenSpec.ofChange avalEvalsSpec)) avalEvalsCard

/-- THE TIED CARD OF 'windlasslaw14.AvalStays'. -/
def avalStaysCard : Claim7 := { stood := { row := avalStaysRow, standIns := [], harness := (true, "37f02499a559669017186a97f8f4ffaf5e74126c1916cddd76132d71c62d7b58"), looks := false }, kinds := [], alts := [], laidByText := true, laidKinds := [.listed, .data], laidTests := true, laidLooks := .later }
def AvalStaysCardSaid : Prop := Claim7.holds Tryz.pinned (.plain (OpenSpec.ofChange avalStaysSpec)) avalStaysCard

/-- THE TIED CARD OF 'windlasslaw14.AvalPrints'. -/
def avalPrintsCard : Claim7 := { stood := { row := avalPrintsRow, standIns := [], harness := (true, "37f02499a559669017186a97f8f4ffaf5e74126c1916cddd76132d71c62d7b58"), looks := false }, kinds := [], alts := [], laidByText := true, laidKinds := [.listed, .data], laidTests := true, laidLooks := .later }
def AvalPrintsCardSaid : Prop := Claim7.holds Tryz.pinned (.plain (OpenSpec.ofChange avalPrintsSpec)) avalPrintsCard

/-- THE SECOND FORM's CARD OF 'windlasslaw14.AvalEvals'. -/
def avalEvalsUptoCard : Claim7 := { stood := { row := avalEvalsUptoRow, standIns := [], harness := (true, "37f02499a559669017186a97f8f4ffaf5e74126c1916cddd76132d71c62d7b58"), looks := false }, kinds := [], alts := [], laidByText := true, laidKinds := [.listed, .data], laidTests := true, laidLooks := .later }
def AvalEvalsUptoCardSaid : Prop := Claim7.holds Tryz.pinned (.plain (OpenSpec.upto avalEvalsSpec)) avalEvalsUptoCard

/-- THE SECOND FORM's CARD OF 'windlasslaw14.AvalStays'. -/
def avalStaysUptoCard : Claim7 := { stood := { row := avalStaysUptoRow, standIns := [], harness := (true, "37f02499a559669017186a97f8f4ffaf5e74126c1916cddd76132d71c62d7b58"), looks := false }, kinds := [], alts := [], laidByText := true, laidKinds := [.listed, .data], laidTests := true, laidLooks := .later }
def AvalStaysUptoCardSaid : Prop := Claim7.holds Tryz.pinned (.plain (OpenSpec.upto avalStaysSpec)) avalStaysUptoCard

/-- THE SECOND FORM's CARD OF 'windlasslaw14.AvalPrints'. -/
def avalPrintsUptoCard : Claim7 := { stood := { row := avalPrintsUptoRow, standIns := [], harness := (true, "37f02499a559669017186a97f8f4ffaf5e74126c1916cddd76132d71c62d7b58"), looks := false }, kinds := [], alts := [], laidByText := true, laidKinds := [.listed, .data], laidTests := true, laidLooks := .later }
def AvalPrintsUptoCardSaid : Prop := Claim7.holds Tryz.pinned (.plain (OpenSpec.upto avalPrintsSpec)) avalPrintsUptoCard
end Rows
end Go.Proofs.YtmbbhgglllfelaaGreatDoor
