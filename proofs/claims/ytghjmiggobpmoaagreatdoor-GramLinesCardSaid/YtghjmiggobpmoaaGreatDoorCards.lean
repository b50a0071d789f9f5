/-
  DERIVED. GIVEN WITH THE SEED: THE CARDS: each row of YtghjmiggobpmoaaGreatDoorRows.lean that lists a variable, with what it lists TIED to the program's text (the seventh form; the later family's looks); each row that meets fmt, with fmt's text TOLD by the authors' own Lean function (tested against real Go, not proved from fmt's source: count such statements apart). THE CARD IS WHAT COUNTS. Prove the row's statement (the work); the ties are given (YtghjmiggobpmoaaGreatDoorTie.lean); close each card by the builder's one call (the guide's Derived/Test/ToyasCard.lean, 'card_holds'). Laid BY PROGRAM, IN A SANDBOX (cutbox-door.mjs). By AI agents, Wed Nov 11 2026. No macro, syntax, notation, axiom, sorry.
-/
import Derived.Test.YtghjmiggobpmoaaGreatDoorRows
import GoSem.ClaimSeven
namespace Go.Proofs.YtghjmiggobpmoaaGreatDoor
namespace Rows

/-- THE TIED CARD OF 'windlasslaw17.GramLines'. -/
def gramLinesCard : Claim7 := { stood := { row := gramLinesRow, standIns := [], harness := (true, "6f4dd51d5aaf69e51a9fd6114ca62866ee3526668d53bf444f85afbcc93236b5"), looks := true }, kinds := [], alts := [], laidByText := true, laidKinds := [.data, .listed, .data, .pinned], laidTests := true, laidLooks := .later }
def GramLinesCardSaid : Prop := Claim7.holds Tryz.pinned (.plain (OpenSpec.ofChange gramLinesSpec)) gramLinesCard

/-- THE TIED CARD OF 'windlasslaw17.GramTells'. -/
def gramTellsCard : Claim7 := { stood := { row := gramTellsRow, standIns := [], harness := (true, "6f4dd51d5aaf69e51a9fd6114ca62866ee3526668d53bf444f85afbcc93236b5"), looks := true }, kinds := [], alts := [], laidByText := true, laidKinds := [.data, .listed, .data, .pinned], laidTests := true, laidLooks := .later }
def GramTellsCardSaid : Prop := Claim7.holds Tryz.pinned (.plain (OpenSpec.ofChange gramTellsSpec)) gramTellsCard

/-- THE TIED CARD OF 'windlasslaw17.GramPlaces'. -/
def gramPlacesCard : Claim7 := { stood := { row := gramPlacesRow, standIns := [], harness := (true, "6f4dd51d5aaf69e51a9fd6114ca62866ee3526668d53bf444f85afbcc93236b5"), looks := true }, kinds := [], alts := [], laidByText := true, laidKinds := [.data, .listed, .data, .pinned], laidTests := true, laidLooks := .later }
def GramPlacesCardSaid : Prop := Claim7.holds Tryz.pinned (.plain (OpenSpec.ofChange gramPlacesSpec)) gramPlacesCard

/-- THE SECOND FORM's CARD OF 'windlasslaw17.GramLines'. -/
def gramLinesUptoCard : Claim7 := { stood := { row := gramLinesUptoRow, standIns := [], harness := (true, "6f4dd51d5aaf69e51a9fd6114ca62866ee3526668d53bf444f85afbcc93236b5"), looks := true }, kinds := [], alts := [], laidByText := true, laidKinds := [.data, .listed, .data, .pinned], laidTests := true, laidLooks := .later }
def GramLinesUptoCardSaid : Prop := Claim7.holds Tryz.pinned (.plain (OpenSpec.upto gramLinesSpec)) gramLinesUptoCard

/-- THE SECOND FORM's CARD OF 'windlasslaw17.GramTells'. -/
def gramTellsUptoCard : Claim7 := { stood := { row := gramTellsUptoRow, standIns := [], harness := (true, "6f4dd51d5aaf69e51a9fd6114ca62866ee3526668d53bf444f85afbcc93236b5"), looks := true }, kinds := [], alts := [], laidByText := true, laidKinds := [.data, .listed, .data, .pinned], laidTests := true, laidLooks := .later }
def GramTellsUptoCardSaid : Prop := Claim7.holds Tryz.pinned (.plain (OpenSpec.upto gramTellsSpec)) gramTellsUptoCard

/-- THE SECOND FORM's CARD OF 'windlasslaw17.GramPlaces'. -/
def gramPlacesUptoCard : Claim7 := { stood := { row := gramPlacesUptoRow, standIns := [], harness := (true, "6f4dd51d5aaf69e51a9fd6114ca62866ee3526668d53bf444f85afbcc93236b5"), looks := true }, kinds := [], alts := [], laidByText := true, laidKinds := [.data, .listed, .data, .pinned], laidTests := true, laidLooks := .later }
def GramPlacesUptoCardSaid : Prop := Claim7.holds Tryz.pinned (.plain (OpenSpec.upto gramPlacesSpec)) gramPlacesUptoCard
end Rows
end Go.Proofs.YtghjmiggobpmoaaGreatDoor
