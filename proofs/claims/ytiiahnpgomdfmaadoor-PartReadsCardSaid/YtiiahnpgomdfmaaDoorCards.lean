/-
  DERIVED. GIVEN WITH THE SEED: THE CARDS: each row of YtiiahnpgomdfmaaDoorRows.lean that lists a variable, with what it lists TIED to the program's text (the seventh form; the later family's looks); each row that meets fmt, with fmt's text TOLD by the authors' own Lean function (tested against real Go, not proved from fmt's source: count such statements apart). THE CARD IS WHAT COUNTS. Prove the row's statement (the work); the ties are given (YtiiahnpgomdfmaaDoorTie.lean); close each card by the builder's one call (the guide's Derived/Test/ToyasCard.lean, 'card_holds'). Laid BY PROGRAM, IN A SANDBOX (cutbox-door.mjs). By AI agents, Wed Nov 11 2026. No macro, syntax, notation, axiom, sorry.
-/
import Derived.Test.YtiiahnpgomdfmaaDoorRows
import GoSem.ClaimSeven
namespace Go.Proofs.YtiiahnpgomdfmaaDoor
namespace Rows

/-- THE TIED CARD OF 'windlasslaw16.PartReads'. -/
def partReadsCard : Claim7 := { stood := { row := partReadsRow, standIns := [], harness := (true, "0a09350728e41a8b72c0082cf254e3b9d51494a809ac8b8eb07cbfc0ec669139"), looks := true }, kinds := [], alts := [], laidByText := true, laidKinds := [.listed, .data], laidTests := true, laidLooks := .later }
def PartReadsCardSaid : Prop := Claim7.holds Tryd.pinned (.plain (OpenSpec.ofChange partReadsSpec)) partReadsCard

/-- THE TIED CARD OF 'windlasslaw16.PartPlain'. -/
def partPlainCard : Claim7 := { stood := { row := partPlainRow, standIns := [], harness := (true, "0a09350728e41a8b72c0082cf254e3b9d51494a809ac8b8eb07cbfc0ec669139"), looks := true }, kinds := [], alts := [], laidByText := true, laidKinds := [.listed, .data], laidTests := true, laidLooks := .later }
def PartPlainCardSaid : Prop := Claim7.holds Tryd.pinned (.plain (OpenSpec.ofChange partPlainSpec)) partPlainCard

/-- THE TIED CARD OF 'windlasslaw15.TokenPlaces'. -/
def tokenPlacesCard : Claim7 := { stood := { row := tokenPlacesRow, standIns := [], harness := (true, "0a09350728e41a8b72c0082cf254e3b9d51494a809ac8b8eb07cbfc0ec669139"), looks := true }, kinds := [], alts := [], laidByText := true, laidKinds := [.data, .listed, .data, .pinned], laidTests := true, laidLooks := .later }
def TokenPlacesCardSaid : Prop := Claim7.holds Tryd.pinned (.plain (OpenSpec.ofChange tokenPlacesSpec)) tokenPlacesCard

/-- THE TIED CARD OF 'windlasslaw15.TokenQuotes'. -/
def tokenQuotesCard : Claim7 := { stood := { row := tokenQuotesRow, standIns := [], harness := (true, "0a09350728e41a8b72c0082cf254e3b9d51494a809ac8b8eb07cbfc0ec669139"), looks := true }, kinds := [], alts := [], laidByText := true, laidKinds := [.data, .listed, .data, .pinned], laidTests := true, laidLooks := .later }
def TokenQuotesCardSaid : Prop := Claim7.holds Tryd.pinned (.plain (OpenSpec.ofChange tokenQuotesSpec)) tokenQuotesCard

/-- THE TIED CARD OF 'windlasslaw15.TokenTwo'. -/
def tokenTwoCard : Claim7 := { stood := { row := tokenTwoRow, standIns := [], harness := (true, "0a09350728e41a8b72c0082cf254e3b9d51494a809ac8b8eb07cbfc0ec669139"), looks := true }, kinds := [], alts := [], laidByText := true, laidKinds := [.data, .listed, .data, .pinned], laidTests := true, laidLooks := .later }
def TokenTwoCardSaid : Prop := Claim7.holds Tryd.pinned (.plain (OpenSpec.ofChange tokenTwoSpec)) tokenTwoCard

/-- THE SECOND FORM's CARD OF 'windlasslaw16.PartReads'. -/
def partReadsUptoCard : Claim7 := { stood := { row := partReadsUptoRow, standIns := [], harness := (true, "0a09350728e41a8b72c0082cf254e3b9d51494a809ac8b8eb07cbfc0ec669139"), looks := true }, kinds := [], alts := [], laidByText := true, laidKinds := [.listed, .data], laidTests := true, laidLooks := .later }
def PartReadsUptoCardSaid : Prop := Claim7.holds Tryd.pinned (.plain (OpenSpec.upto partReadsSpec)) partReadsUptoCard

/-- THE SECOND FORM's CARD OF 'windlasslaw16.PartPlain'. -/
def partPlainUptoCard : Claim7 := { stood := { row := partPlainUptoRow, standIns := [], harness := (true, "0a09350728e41a8b72c0082cf254e3b9d51494a809ac8b8eb07cbfc0ec669139"), looks := true }, kinds := [], alts := [], laidByText := true, laidKinds := [.listed, .data], laidTests := true, laidLooks := .later }
def PartPlainUptoCardSaid : Prop := Claim7.holds Tryd.pinned (.plain (OpenSpec.upto partPlainSpec)) partPlainUptoCard

/-- THE SECOND FORM's CARD OF 'windlasslaw15.TokenPlaces'. -/
def tokenPlacesUptoCard : Claim7 := { stood := { row := tokenPlacesUptoRow, standIns := [], harness := (true, "0a09350728e41a8b72c0082cf254e3b9d51494a809ac8b8eb07cbfc0ec669139"), looks := true }, kinds := [], alts := [], laidByText := true, laidKinds := [.data, .listed, .data, .pinned], laidTests := true, laidLooks := .later }
def TokenPlacesUptoCardSaid : Prop := Claim7.holds Tryd.pinned (.plain (OpenSpec.upto tokenPlacesSpec)) tokenPlacesUptoCard

/-- THE SECOND FORM's CARD OF 'windlasslaw15.TokenQuotes'. -/
def tokenQuotesUptoCard : Claim7 := { stood := { row := tokenQuotesUptoRow, standIns := [], harness := (true, "0a09350728e41a8b72c0082cf254e3b9d51494a809ac8b8eb07cbfc0ec669139"), looks := true }, kinds := [], alts := [], laidByText := true, laidKinds := [.data, .listed, .data, .pinned], laidTests := true, laidLooks := .later }
def TokenQuotesUptoCardSaid : Prop := Claim7.holds Tryd.pinned (.plain (OpenSpec.upto tokenQuotesSpec)) tokenQuotesUptoCard

/-- THE SECOND FORM's CARD OF 'windlasslaw15.TokenTwo'. -/
def tokenTwoUptoCard : Claim7 := { stood := { row := tokenTwoUptoRow, standIns := [], harness := (true, "0a09350728e41a8b72c0082cf254e3b9d51494a809ac8b8eb07cbfc0ec669139"), looks := true }, kinds := [], alts := [], laidByText := true, laidKinds := [.data, .listed, .data, .pinned], laidTests := true, laidLooks := .later }
def TokenTwoUptoCardSaid : Prop := Claim7.holds Tryd.pinned (.plain (OpenSpec.upto tokenTwoSpec)) tokenTwoUptoCard
end Rows
end Go.Proofs.YtiiahnpgomdfmaaDoor
