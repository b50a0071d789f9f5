/-
  DERIVED. GIVEN WITH THE SEED: THE CARDS: each row of YtlpndcpbnbeohaaDoorRows.lean that lists a variable, with what it lists TIED to the program's text (the seventh form; the later family's looks); each row that meets fmt, with fmt's text TOLD by the authors' own Lean function (tested against real Go, not proved from fmt's source: count such statements apart). THE CARD IS WHAT COUNTS. Prove the row's statement (the work); the ties are given (YtlpndcpbnbeohaaDoorTie.lean); close each card by the builder's one call (the guide's Derived/Test/ToyasCard.lean, 'card_holds'). Laid BY PROGRAM, IN A SANDBOX (cutbox-door.mjs). By AI agents, Wed Nov 11 2026. No macro, syntax, notation, axiom, sorry.
-/
import Derived.Test.YtlpndcpbnbeohaaDoorRows
import GoSem.ClaimSeven
namespace Go.Proofs.YtlpndcpbnbeohaaDoor
namespace Rows

/-- THE TIED CARD OF 'windlasslaw23.EchoWrites'. -/
def echoWritesCard : Claim7 := { stood := { row := echoWritesRow, standIns := [], harness := (true, "37630ec8019dc8fcc20287f515214aff26105099b2abc89646cc4b022ab4d9ba"), looks := false }, kinds := [], alts := [], laidByText := true, laidKinds := [.data, .pinned, .pinned], laidTests := true, laidLooks := .later }
def EchoWritesCardSaid : Prop := Claim7.holds Tryd.pinned (.plain (OpenSpec.ofChange echoWritesSpec)) echoWritesCard

/-- THE TIED CARD OF 'windlasslaw23.EchoPlain'. -/
def echoPlainCard : Claim7 := { stood := { row := echoPlainRow, standIns := [], harness := (true, "37630ec8019dc8fcc20287f515214aff26105099b2abc89646cc4b022ab4d9ba"), looks := false }, kinds := [], alts := [], laidByText := true, laidKinds := [.data, .pinned, .pinned], laidTests := true, laidLooks := .later }
def EchoPlainCardSaid : Prop := Claim7.holds Tryd.pinned (.plain (OpenSpec.ofChange echoPlainSpec)) echoPlainCard

/-- THE TIED CARD OF 'windlasslaw23.EchoNumbers'. -/
def echoNumbersCard : Claim7 := { stood := { row := echoNumbersRow, standIns := [], harness := (true, "37630ec8019dc8fcc20287f515214aff26105099b2abc89646cc4b022ab4d9ba"), looks := false }, kinds := [], alts := [], laidByText := true, laidKinds := [.data, .pinned, .pinned], laidTests := true, laidLooks := .later }
def EchoNumbersCardSaid : Prop := Claim7.holds Tryd.pinned (.plain (OpenSpec.ofChange echoNumbersSpec)) echoNumbersCard

/-- THE TIED CARD OF 'windlasslaw23.EchoParts'. -/
def echoPartsCard : Claim7 := { stood := { row := echoPartsRow, standIns := [], harness := (true, "37630ec8019dc8fcc20287f515214aff26105099b2abc89646cc4b022ab4d9ba"), looks := false }, kinds := [], alts := [], laidByText := true, laidKinds := [.data, .pinned, .pinned], laidTests := true, laidLooks := .later }
def EchoPartsCardSaid : Prop := Claim7.holds Tryd.pinned (.plain (OpenSpec.ofChange echoPartsSpec)) echoPartsCard

/-- THE SECOND FORM's CARD OF 'windlasslaw23.EchoWrites'. -/
def echoWritesUptoCard : Claim7 := { stood := { row := echoWritesUptoRow, standIns := [], harness := (true, "37630ec8019dc8fcc20287f515214aff26105099b2abc89646cc4b022ab4d9ba"), looks := false }, kinds := [], alts := [], laidByText := true, laidKinds := [.data, .pinned, .pinned], laidTests := true, laidLooks := .later }
def EchoWritesUptoCardSaid : Prop := Claim7.holds Tryd.pinned (.plain (OpenSpec.upto echoWritesSpec)) echoWritesUptoCard

/-- THE SECOND FORM's CARD OF 'windlasslaw23.EchoPlain'. -/
def echoPlainUptoCard : Claim7 := { stood := { row := echoPlainUptoRow, standIns := [], harness := (true, "37630ec8019dc8fcc20287f515214aff26105099b2abc89646cc4b022ab4d9ba"), looks := false }, kinds := [], alts := [], laidByText := true, laidKinds := [.data, .pinned, .pinned], laidTests := true, laidLooks := .later }
def EchoPlainUptoCardSaid : Prop := Claim7.holds Tryd.pinned (.plain (OpenSpec.upto echoPlainSpec)) echoPlainUptoCard

/-- THE SECOND FORM's CARD OF 'windlasslaw23.EchoNumbers'. -/
def echoNumbersUptoCard : Claim7 := { stood := { row := echoNumbersUptoRow, standIns := [], harness := (true, "37630ec8019dc8fcc20287f515214aff26105099b2abc89646cc4b022ab4d9ba"), looks := false }, kinds := [], alts := [], laidByText := true, laidKinds := [.data, .pinned, .pinned], laidTests := true, laidLooks := .later }
def EchoNumbersUptoCardSaid : Prop := Claim7.holds Tryd.pinned (.plain (OpenSpec.upto echoNumbersSpec)) echoNumbersUptoCard

/-- THE SECOND FORM's CARD OF 'windlasslaw23.EchoParts'. -/
def echoPartsUptoCard : Claim7 := { stood := { row := echoPartsUptoRow, standIns := [], harness := (true, "37630ec8019dc8fcc20287f515214aff26105099b2abc89646cc4b022ab4d9ba"), looks := false }, kinds := [], alts := [], laidByText := true, laidKinds := [.data, .pinned, .pinned], laidTests := true, laidLooks := .later }
def EchoPartsUptoCardSaid : Prop := Claim7.holds Tryd.pinned (.plain (OpenSpec.upto echoPartsSpec)) echoPartsUptoCard
end Rows
end Go.Proofs.YtlpndcpbnbeohaaDoor
