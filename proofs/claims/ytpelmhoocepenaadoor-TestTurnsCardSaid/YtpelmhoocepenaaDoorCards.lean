/-
  DERIVED. GIVEN WITH THE SEED: THE CARDS: each row of YtpelmhoocepenaaDoorRows.lean that lists a variable, with what it lists TIED to the program's text (the seventh form; the later family's looks); each row that meets fmt, with fmt's text TOLD by the authors' own Lean function (tested against real Go, not proved from fmt's source: count such statements apart). THE CARD IS WHAT COUNTS. Prove the row's statement (the work); the ties are given (YtpelmhoocepenaaDoorTie.lean); close each card by the builder's one call (the guide's Derived/Test/ToyasCard.lean, 'card_holds'). Laid BY PROGRAM, IN A SANDBOX (cutbox-door.mjs). By AI agents, Wed Nov 11 2026. No macro, syntax, notation, axiom, sorry.
-/
import Derived.Test.YtpelmhoocepenaaDoorRows
import GoSem.ClaimSeven
namespace Go.Proofs.YtpelmhoocepenaaDoor
namespace Rows

/-- THE TIED CARD OF 'windlasslaw24.TestNumbers'. -/
def testNumbersCard : Claim7 := { stood := { row := testNumbersRow, standIns := [], harness := (true, "35c2ccbdef2df21db08c170dbf1040a4ef3a8a9fbfd8164eafb0f865d0078a65"), looks := false }, kinds := [], alts := [], laidByText := true, laidKinds := [.listed, .data], laidTests := true, laidLooks := .later }
def TestNumbersCardSaid : Prop := Claim7.holds Tryd.pinned (.plain (OpenSpec.ofChange testNumbersSpec)) testNumbersCard

/-- THE TIED CARD OF 'windlasslaw24.TestPaths'. -/
def testPathsCard : Claim7 := { stood := { row := testPathsRow, standIns := [], harness := (true, "35c2ccbdef2df21db08c170dbf1040a4ef3a8a9fbfd8164eafb0f865d0078a65"), looks := false }, kinds := [], alts := [], laidByText := true, laidKinds := [.listed, .data], laidTests := true, laidLooks := .later }
def TestPathsCardSaid : Prop := Claim7.holds Tryd.pinned (.plain (OpenSpec.ofChange testPathsSpec)) testPathsCard

/-- THE TIED CARD OF 'windlasslaw24.TestTurns'. -/
def testTurnsCard : Claim7 := { stood := { row := testTurnsRow, standIns := [], harness := (true, "35c2ccbdef2df21db08c170dbf1040a4ef3a8a9fbfd8164eafb0f865d0078a65"), looks := false }, kinds := [], alts := [], laidByText := true, laidKinds := [.listed, .data], laidTests := true, laidLooks := .later }
def TestTurnsCardSaid : Prop := Claim7.holds Tryd.pinned (.plain (OpenSpec.ofChange testTurnsSpec)) testTurnsCard

/-- THE SECOND FORM's CARD OF 'windlasslaw24.TestNumbers'. -/
def testNumbersUptoCard : Claim7 := { stood := { row := testNumbersUptoRow, standIns := [], harness := (true, "35c2ccbdef2df21db08c170dbf1040a4ef3a8a9fbfd8164eafb0f865d0078a65"), looks := false }, kinds := [], alts := [], laidByText := true, laidKinds := [.listed, .data], laidTests := true, laidLooks := .later }
def TestNumbersUptoCardSaid : Prop := Claim7.holds Tryd.pinned (.plain (OpenSpec.upto testNumbersSpec)) testNumbersUptoCard

/-- THE SECOND FORM's CARD OF 'windlasslaw24.TestPaths'. -/
def testPathsUptoCard : Claim7 := { stood := { row := testPathsUptoRow, standIns := [], harness := (true, "35c2ccbdef2df21db08c170dbf1040a4ef3a8a9fbfd8164eafb0f865d0078a65"), looks := false }, kinds := [], alts := [], laidByText := true, laidKinds := [.listed, .data], laidTests := true, laidLooks := .later }
def TestPathsUptoCardSaid : Prop := Claim7.holds Tryd.pinned (.plain (OpenSpec.upto testPathsSpec)) testPathsUptoCard

/-- THE SECOND FORM's CARD OF 'windlasslaw24.TestTurns'. -/
def testTurnsUptoCard : Claim7 := { stood := { row := testTurnsUptoRow, standIns := [], harness := (true, "35c2ccbdef2df21db08c170dbf1040a4ef3a8a9fbfd8164eafb0f865d0078a65"), looks := false }, kinds := [], alts := [], laidByText := true, laidKinds := [.listed, .data], laidTests := true, laidLooks := .later }
def TestTurnsUptoCardSaid : Prop := Claim7.holds Tryd.pinned (.plain (OpenSpec.upto testTurnsSpec)) testTurnsUptoCard
end Rows
end Go.Proofs.YtpelmhoocepenaaDoor
