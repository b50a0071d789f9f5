/-
  DERIVED. GIVEN WITH THE SEED: THE CARDS: each row of YtcgcbpknbjafcaaDoorRows.lean that lists a variable, with what it lists TIED to the program's text (the seventh form; the later family's looks); each row that meets fmt, with fmt's text TOLD by the authors' own Lean function (tested against real Go, not proved from fmt's source: count such statements apart). THE CARD IS WHAT COUNTS. Prove the row's statement (the work); the ties are given (YtcgcbpknbjafcaaDoorTie.lean); close each card by the builder's one call (the guide's Derived/Test/ToyasCard.lean, 'card_holds'). Laid BY PROGRAM, IN A SANDBOX (cutbox-door.mjs). By AI agents, Wed Nov 11 2026. No macro, syntax, notation, axiom, sorry.
-/
import Derived.Test.YtcgcbpknbjafcaaDoorRows
import GoSem.ClaimSeven
namespace Go.Proofs.YtcgcbpknbjafcaaDoor
namespace Rows

/-- THE TIED CARD OF 'windlasslaw12.AtokReads'. -/
def atokReadsCard : Claim7 := { stood := { row := atokReadsRow, standIns := [], harness := (true, "07811ce56dca292fa56e6a674e0171436cd78b18161ce8ca8d00af6efd4363c5"), looks := false }, kinds := [], alts := [], laidByText := true, laidKinds := [.listed, .data], laidTests := true, laidLooks := .later }
def AtokReadsCardSaid : Prop := Claim7.holds Tryd.pinned (.plain (OpenSpec.ofChange atokReadsSpec)) atokReadsCard

/-- THE TIED CARD OF 'windlasslaw12.AtokBlanks'. -/
def atokBlanksCard : Claim7 := { stood := { row := atokBlanksRow, standIns := [], harness := (true, "07811ce56dca292fa56e6a674e0171436cd78b18161ce8ca8d00af6efd4363c5"), looks := false }, kinds := [], alts := [], laidByText := true, laidKinds := [.listed, .data], laidTests := true, laidLooks := .later }
def AtokBlanksCardSaid : Prop := Claim7.holds Tryd.pinned (.plain (OpenSpec.ofChange atokBlanksSpec)) atokBlanksCard

/-- THE TIED CARD OF 'windlasslaw12.AtokNumbers'. -/
def atokNumbersCard : Claim7 := { stood := { row := atokNumbersRow, standIns := [], harness := (true, "07811ce56dca292fa56e6a674e0171436cd78b18161ce8ca8d00af6efd4363c5"), looks := false }, kinds := [], alts := [], laidByText := true, laidKinds := [.listed, .data], laidTests := true, laidLooks := .later }
def AtokNumbersCardSaid : Prop := Claim7.holds Tryd.pinned (.plain (OpenSpec.ofChange atokNumbersSpec)) atokNumbersCard

/-- THE TIED CARD OF 'windlasslaw12.AtokNames'. -/
def atokNamesCard : Claim7 := { stood := { row := atokNamesRow, standIns := [], harness := (true, "07811ce56dca292fa56e6a674e0171436cd78b18161ce8ca8d00af6efd4363c5"), looks := false }, kinds := [], alts := [], laidByText := true, laidKinds := [.listed, .data], laidTests := true, laidLooks := .later }
def AtokNamesCardSaid : Prop := Claim7.holds Tryd.pinned (.plain (OpenSpec.ofChange atokNamesSpec)) atokNamesCard

/-- THE TIED CARD OF 'windlasslaw13.AtreeParses'. -/
def atreeParsesCard : Claim7 := { stood := { row := atreeParsesRow, standIns := [], harness := (true, "07811ce56dca292fa56e6a674e0171436cd78b18161ce8ca8d00af6efd4363c5"), looks := false }, kinds := [], alts := [], laidByText := true, laidKinds := [.listed, .data], laidTests := true, laidLooks := .later }
def AtreeParsesCardSaid : Prop := Claim7.holds Tryd.pinned (.plain (OpenSpec.ofChange atreeParsesSpec)) atreeParsesCard

/-- THE TIED CARD OF 'windlasslaw13.AtreeBack'. -/
def atreeBackCard : Claim7 := { stood := { row := atreeBackRow, standIns := [], harness := (true, "07811ce56dca292fa56e6a674e0171436cd78b18161ce8ca8d00af6efd4363c5"), looks := false }, kinds := [], alts := [], laidByText := true, laidKinds := [.listed, .data], laidTests := true, laidLooks := .later }
def AtreeBackCardSaid : Prop := Claim7.holds Tryd.pinned (.plain (OpenSpec.ofChange atreeBackSpec)) atreeBackCard

/-- THE TIED CARD OF 'windlasslaw13.AtreeFit'. -/
def atreeFitCard : Claim7 := { stood := { row := atreeFitRow, standIns := [], harness := (true, "07811ce56dca292fa56e6a674e0171436cd78b18161ce8ca8d00af6efd4363c5"), looks := false }, kinds := [], alts := [], laidByText := true, laidKinds := [.listed, .data], laidTests := true, laidLooks := .later }
def AtreeFitCardSaid : Prop := Claim7.holds Tryd.pinned (.plain (OpenSpec.ofChange atreeFitSpec)) atreeFitCard

/-- THE TIED CARD OF 'windlasslaw13.AtreeTells'. -/
def atreeTellsCard : Claim7 := { stood := { row := atreeTellsRow, standIns := [], harness := (true, "07811ce56dca292fa56e6a674e0171436cd78b18161ce8ca8d00af6efd4363c5"), looks := false }, kinds := [], alts := [], laidByText := true, laidKinds := [.listed, .data], laidTests := true, laidLooks := .later }
def AtreeTellsCardSaid : Prop := Claim7.holds Tryd.pinned (.plain (OpenSpec.ofChange atreeTellsSpec)) atreeTellsCard

/-- THE SECOND FORM's CARD OF 'windlasslaw12.AtokReads'. -/
def atokReadsUptoCard : Claim7 := { stood := { row := atokReadsUptoRow, standIns := [], harness := (true, "07811ce56dca292fa56e6a674e0171436cd78b18161ce8ca8d00af6efd4363c5"), looks := false }, kinds := [], alts := [], laidByText := true, laidKinds := [.listed, .data], laidTests := true, laidLooks := .later }
def AtokReadsUptoCardSaid : Prop := Claim7.holds Tryd.pinned (.plain (OpenSpec.upto atokReadsSpec)) atokReadsUptoCard

/-- THE SECOND FORM's CARD OF 'windlasslaw12.AtokBlanks'. -/
def atokBlanksUptoCard : Claim7 := { stood := { row := atokBlanksUptoRow, standIns := [], harness := (true, "07811ce56dca292fa56e6a674e0171436cd78b18161ce8ca8d00af6efd4363c5"), looks := false }, kinds := [], alts := [], laidByText := true, laidKinds := [.listed, .data], laidTests := true, laidLooks := .later }
def AtokBlanksUptoCardSaid : Prop := Claim7.holds Tryd.pinned (.plain (OpenSpec.upto atokBlanksSpec)) atokBlanksUptoCard

/-- THE SECOND FORM's CARD OF 'windlasslaw12.AtokNumbers'. -/
def atokNumbersUptoCard : Claim7 := { stood := { row := atokNumbersUptoRow, standIns := [], harness := (true, "07811ce56dca292fa56e6a674e0171436cd78b18161ce8ca8d00af6efd4363c5"), looks := false }, kinds := [], alts := [], laidByText := true, laidKinds := [.listed, .data], laidTests := true, laidLooks := .later }
def AtokNumbersUptoCardSaid : Prop := Claim7.holds Tryd.pinned (.plain (OpenSpec.upto atokNumbersSpec)) atokNumbersUptoCard

/-- THE SECOND FORM's CARD OF 'windlasslaw12.AtokNames'. -/
def atokNamesUptoCard : Claim7 := { stood := { row := atokNamesUptoRow, standIns := [], harness := (true, "07811ce56dca292fa56e6a674e0171436cd78b18161ce8ca8d00af6efd4363c5"), looks := false }, kinds := [], alts := [], laidByText := true, laidKinds := [.listed, .data], laidTests := true, laidLooks := .later }
def AtokNamesUptoCardSaid : Prop := Claim7.holds Tryd.pinned (.plain (OpenSpec.upto atokNamesSpec)) atokNamesUptoCard

/-- THE SECOND FORM's CARD OF 'windlasslaw13.AtreeParses'. -/
def atreeParsesUptoCard : Claim7 := { stood := { row := atreeParsesUptoRow, standIns := [], harness := (true, "07811ce56dca292fa56e6a674e0171436cd78b18161ce8ca8d00af6efd4363c5"), looks := false }, kinds := [], alts := [], laidByText := true, laidKinds := [.listed, .data], laidTests := true, laidLooks := .later }
def AtreeParsesUptoCardSaid : Prop := Claim7.holds Tryd.pinned (.plain (OpenSpec.upto atreeParsesSpec)) atreeParsesUptoCard

/-- THE SECOND FORM's CARD OF 'windlasslaw13.AtreeBack'. -/
def atreeBackUptoCard : Claim7 := { stood := { row := atreeBackUptoRow, standIns := [], harness := (true, "07811ce56dca292fa56e6a674e0171436cd78b18161ce8ca8d00af6efd4363c5"), looks := false }, kinds := [], alts := [], laidByText := true, laidKinds := [.listed, .data], laidTests := true, laidLooks := .later }
def AtreeBackUptoCardSaid : Prop := Claim7.holds Tryd.pinned (.plain (OpenSpec.upto atreeBackSpec)) atreeBackUptoCard

/-- THE SECOND FORM's CARD OF 'windlasslaw13.AtreeFit'. -/
def atreeFitUptoCard : Claim7 := { stood := { row := atreeFitUptoRow, standIns := [], harness := (true, "07811ce56dca292fa56e6a674e0171436cd78b18161ce8ca8d00af6efd4363c5"), looks := false }, kinds := [], alts := [], laidByText := true, laidKinds := [.listed, .data], laidTests := true, laidLooks := .later }
def AtreeFitUptoCardSaid : Prop := Claim7.holds Tryd.pinned (.plain (OpenSpec.upto atreeFitSpec)) atreeFitUptoCard

/-- THE SECOND FORM's CARD OF 'windlasslaw13.AtreeTells'. -/
def atreeTellsUptoCard : Claim7 := { stood := { row := atreeTellsUptoRow, standIns := [], harness := (true, "07811ce56dca292fa56e6a674e0171436cd78b18161ce8ca8d00af6efd4363c5"), looks := false }, kinds := [], alts := [], laidByText := true, laidKinds := [.listed, .data], laidTests := true, laidLooks := .later }
def AtreeTellsUptoCardSaid : Prop := Claim7.holds Tryd.pinned (.plain (OpenSpec.upto atreeTellsSpec)) atreeTellsUptoCard
end Rows
end Go.Proofs.YtcgcbpknbjafcaaDoor
