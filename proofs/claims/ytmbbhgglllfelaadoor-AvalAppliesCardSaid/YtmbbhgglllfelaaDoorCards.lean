/-
  DERIVED. GIVEN WITH THE SEED: THE CARDS: each row of YtmbbhgglllfelaaDoorRows.lean that lists a variable, with what it lists TIED to the program's text (the seventh form; the later family's looks); each row that meets fmt, with fmt's text TOLD by the authors' own Lean function (tested against real Go, not proved from fmt's source: count such statements apart). THE CARD IS WHAT COUNTS. Prove the row's statement (the work); the ties are given (YtmbbhgglllfelaaDoorTie.lean); close each card by the builder's one call (the guide's Derived/Test/ToyasCard.lean, 'card_holds'). Laid BY PROGRAM, IN A SANDBOX (cutbox-door.mjs). By AI agents, Wed Nov 11 2026. No macro, syntax, notation, axiom, sorry.
-/
import Derived.Test.YtmbbhgglllfelaaDoorRows
import GoSem.ClaimSeven
namespace Go.Proofs.YtmbbhgglllfelaaDoor
namespace Rows

/-- THE TIED CARD OF 'windlasslaw14.AvalApplies'. -/
def avalAppliesCard : Claim7 := { stood := { row := avalAppliesRow, standIns := [], harness := (true, "9ee75f9e0c38e63f580bb3a9b9caf754b5885e4da5b47fae83f0468cbd8085f3"), looks := false }, kinds := [], alts := [], laidByText := true, laidKinds := [.listed, .data], laidTests := true, laidLooks := .later }
def AvalAppliesCardSaid : Prop := Claim7.holds Tryd.pinned (.plain (OpenSpec.ofChange avalAppliesSpec)) avalAppliesCard

/-- THE TIED CARD OF 'windlasslaw14.AvalDivides'. -/
def avalDividesCard : Claim7 := { stood := { row := avalDividesRow, standIns := [], harness := (true, "9ee75f9e0c38e63f580bb3a9b9caf754b5885e4da5b47fae83f0468cbd8085f3"), looks := false }, kinds := [], alts := [], laidByText := true, laidKinds := [.listed, .data], laidTests := true, laidLooks := .later }
def AvalDividesCardSaid : Prop := Claim7.holds Tryd.pinned (.plain (OpenSpec.ofChange avalDividesSpec)) avalDividesCard

/-- THE SECOND FORM's CARD OF 'windlasslaw14.AvalApplies'. -/
def avalAppliesUptoCard : Claim7 := { stood := { row := avalAppliesUptoRow, standIns := [], harness := (true, "9ee75f9e0c38e63f580bb3a9b9caf754b5885e4da5b47fae83f0468cbd8085f3"), looks := false }, kinds := [], alts := [], laidByText := true, laidKinds := [.listed, .data], laidTests := true, laidLooks := .later }
def AvalAppliesUptoCardSaid : Prop := Claim7.holds Tryd.pinned (.plain (OpenSpec.upto avalAppliesSpec)) avalAppliesUptoCard

/-- THE SECOND FORM's CARD OF 'windlasslaw14.AvalDivides'. -/
def avalDividesUptoCard : Claim7 := { stood := { row := avalDividesUptoRow, standIns := [], harness := (true, "9ee75f9e0c38e63f580bb3a9b9caf754b5885e4da5b47fae83f0468cbd8085f3"), looks := false }, kinds := [], alts := [], laidByText := true, laidKinds := [.listed, .data], laidTests := true, laidLooks := .later }
def AvalDividesUptoCardSaid : Prop := Claim7.holds Tryd.pinned (.plain (OpenSpec.upto avalDividesSpec)) avalDividesUptoCard
end Rows
end Go.Proofs.YtmbbhgglllfelaaDoor
