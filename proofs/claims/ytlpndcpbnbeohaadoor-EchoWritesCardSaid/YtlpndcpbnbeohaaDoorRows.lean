/-
  NARROWER THAN 'FOR EVERY INPUT', by the rows' own cells (each row's printed sentence says how): EchoWrites: laid · EchoPlain: laid · EchoNumbers: laid · EchoParts: laid.
  DERIVED. THE GIVEN ROWS OF THIS SEAT. 4 by the template 'for every input the law returns true; each argument reads behind the call as it read before'; 0 by the template 'total and deterministic' (their statements: YtlpndcpbnbeohaaDoorTotals.lean).
  GIVEN WITH THE SEED: the statements are not yours to turn. If you find one false, say at which input.
  Laid BY PROGRAM, IN A SANDBOX (cutbox-rows.mjs): the forced cells as the released guide's own fill.sh prints them over the translation d54f76729d6793b7… (all of the seat's roots in one cut). By AI agents, Wed Nov 11 2026. No macro, syntax, notation, axiom, sorry.
-/
import Derived.Test.YtlpndcpbnbeohaaDoorChecked
import GoSem.PinnedTables
import GoSem.Claim
import GoSem.ClaimJoined
import GoSem.ClaimMapViews
import Derived.JoinedTies
import Derived.KernelRfl
namespace Go.Proofs.YtlpndcpbnbeohaaDoor
/- THE CELL 'sum', in the pinned program and in every row, IS THE sha256 OF THE DUMP (.gsa) THAT YtlpndcpbnbeohaaDoorProg.lean LOADS. Nothing in Lean hashes anything: it is a label: what it is worth is what the hold of that sum in a sandbox is worth. -/
noncomputable def Tryd.pinned : Pinned := { name := "ytlpndcpbnbeohaadoor", sum := "d54f76729d6793b72b3abeef97858fe387e8bde47f94671ea275a649dbdb2e36", checked := Tryd.checked }
namespace Rows
def none {H : Type} : Left H := { results := [], args := [] }

/- WHAT THE LISTED PACKAGE-LEVEL VARIABLES READ AS WHEN THE CALL BEGINS. Each datum BY PROGRAM (the guide's laid-datum.mjs) off the statement by which the dump's own 'gosem.cut.vars' lays the variable. In a bare row this is a premise. The card (YtlpndcpbnbeohaaDoorCards.lean) ties it to the program's text. -/
def laid_unicode_utf8_acceptRanges {H : Type} : DataW H := .agg [.agg [.lit (.int .u8 128), .lit (.int .u8 191)], .agg [.lit (.int .u8 160), .lit (.int .u8 191)], .agg [.lit (.int .u8 128), .lit (.int .u8 159)], .agg [.lit (.int .u8 144), .lit (.int .u8 191)], .agg [.lit (.int .u8 128), .lit (.int .u8 143)], .agg [.lit (.int .u8 0), .lit (.int .u8 0)], .agg [.lit (.int .u8 0), .lit (.int .u8 0)], .agg [.lit (.int .u8 0), .lit (.int .u8 0)], .agg [.lit (.int .u8 0), .lit (.int .u8 0)], .agg [.lit (.int .u8 0), .lit (.int .u8 0)], .agg [.lit (.int .u8 0), .lit (.int .u8 0)], .agg [.lit (.int .u8 0), .lit (.int .u8 0)], .agg [.lit (.int .u8 0), .lit (.int .u8 0)], .agg [.lit (.int .u8 0), .lit (.int .u8 0)], .agg [.lit (.int .u8 0), .lit (.int .u8 0)], .agg [.lit (.int .u8 0), .lit (.int .u8 0)]]
/-- One of Go's own tables, pinned by name: the form's constant. -/
def laid_unicode_CaseRanges : DataW Unit := Go.Pinned.caseRanges
/-- One of Go's own tables, pinned by name: the form's constant. -/
def laid_unicode_utf8_first : DataW Unit := Go.Pinned.utf8First

/-- 'windlasslaw23.EchoWrites': WHATEVER THE INPUT: true; the input reads as it did. -/
def echoWritesSpec : ChangeSpec := { name := "echoWrites", fn := fun _ => fun
  | [d1, d2] => { results := [.lit (.bool true)], args := [d1, d2] }
  | _ => none }
def echoWritesRow : OpenClaim := { program := "ytlpndcpbnbeohaadoor", sum := "d54f76729d6793b72b3abeef97858fe387e8bde47f94671ea275a649dbdb2e36", func := "windlass/windlasslaw23.EchoWrites", spec := "echoWrites", inPlace := ["internal/bytealg.IndexByteString", "internal/abi.NoEscape", "internal/bytealg.MakeNoZero"], unfollowed := true, recurses := true, named := ["unicode/utf8.first", "unicode/utf8.acceptRanges", "unicode.CaseRanges"], apart := false, laid := [("unicode/utf8.acceptRanges", laid_unicode_utf8_acceptRanges), ("unicode.CaseRanges", laid_unicode_CaseRanges), ("unicode/utf8.first", laid_unicode_utf8_first)] }
def EchoWritesSaid : Prop := echoWritesRow.holds Tryd.pinned (OpenSpec.ofChange echoWritesSpec)

/-- ITS FALSE NEIGHBOUR: 'it returns false'. Refute it at one input. -/
def echoWritesWrong : ChangeSpec := { name := "echoWrites", fn := fun _ => fun
  | [d1, d2] => { results := [.lit (.bool false)], args := [d1, d2] }
  | _ => none }
def EchoWritesWrongFalsely : Prop := echoWritesRow.holds Tryd.pinned (OpenSpec.ofChange echoWritesWrong)

/-- 'windlasslaw23.EchoPlain': WHATEVER THE INPUT: true; the input reads as it did. -/
def echoPlainSpec : ChangeSpec := { name := "echoPlain", fn := fun _ => fun
  | [d1, d2] => { results := [.lit (.bool true)], args := [d1, d2] }
  | _ => none }
def echoPlainRow : OpenClaim := { program := "ytlpndcpbnbeohaadoor", sum := "d54f76729d6793b72b3abeef97858fe387e8bde47f94671ea275a649dbdb2e36", func := "windlass/windlasslaw23.EchoPlain", spec := "echoPlain", inPlace := ["internal/bytealg.IndexByteString", "internal/abi.NoEscape", "internal/bytealg.MakeNoZero"], unfollowed := true, recurses := true, named := ["unicode/utf8.first", "unicode/utf8.acceptRanges", "unicode.CaseRanges"], apart := false, laid := [("unicode/utf8.acceptRanges", laid_unicode_utf8_acceptRanges), ("unicode.CaseRanges", laid_unicode_CaseRanges), ("unicode/utf8.first", laid_unicode_utf8_first)] }
def EchoPlainSaid : Prop := echoPlainRow.holds Tryd.pinned (OpenSpec.ofChange echoPlainSpec)

/-- ITS FALSE NEIGHBOUR: 'it returns false'. Refute it at one input. -/
def echoPlainWrong : ChangeSpec := { name := "echoPlain", fn := fun _ => fun
  | [d1, d2] => { results := [.lit (.bool false)], args := [d1, d2] }
  | _ => none }
def EchoPlainWrongFalsely : Prop := echoPlainRow.holds Tryd.pinned (OpenSpec.ofChange echoPlainWrong)

/-- 'windlasslaw23.EchoNumbers': WHATEVER THE INPUT: true; the input reads as it did. -/
def echoNumbersSpec : ChangeSpec := { name := "echoNumbers", fn := fun _ => fun
  | [d1, d2] => { results := [.lit (.bool true)], args := [d1, d2] }
  | _ => none }
def echoNumbersRow : OpenClaim := { program := "ytlpndcpbnbeohaadoor", sum := "d54f76729d6793b72b3abeef97858fe387e8bde47f94671ea275a649dbdb2e36", func := "windlass/windlasslaw23.EchoNumbers", spec := "echoNumbers", inPlace := ["internal/bytealg.IndexByteString", "internal/abi.NoEscape", "internal/bytealg.MakeNoZero"], unfollowed := true, recurses := true, named := ["unicode/utf8.first", "unicode/utf8.acceptRanges", "unicode.CaseRanges"], apart := false, laid := [("unicode/utf8.acceptRanges", laid_unicode_utf8_acceptRanges), ("unicode.CaseRanges", laid_unicode_CaseRanges), ("unicode/utf8.first", laid_unicode_utf8_first)] }
def EchoNumbersSaid : Prop := echoNumbersRow.holds Tryd.pinned (OpenSpec.ofChange echoNumbersSpec)

/-- ITS FALSE NEIGHBOUR: 'it returns false'. Refute it at one input. -/
def echoNumbersWrong : ChangeSpec := { name := "echoNumbers", fn := fun _ => fun
  | [d1, d2] => { results := [.lit (.bool false)], args := [d1, d2] }
  | _ => none }
def EchoNumbersWrongFalsely : Prop := echoNumbersRow.holds Tryd.pinned (OpenSpec.ofChange echoNumbersWrong)

/-- 'windlasslaw23.EchoParts': WHATEVER THE INPUT: true; the input reads as it did. -/
def echoPartsSpec : ChangeSpec := { name := "echoParts", fn := fun _ => fun
  | [d1, d2] => { results := [.lit (.bool true)], args := [d1, d2] }
  | _ => none }
def echoPartsRow : OpenClaim := { program := "ytlpndcpbnbeohaadoor", sum := "d54f76729d6793b72b3abeef97858fe387e8bde47f94671ea275a649dbdb2e36", func := "windlass/windlasslaw23.EchoParts", spec := "echoParts", inPlace := ["internal/bytealg.IndexByteString", "internal/abi.NoEscape", "internal/bytealg.MakeNoZero"], unfollowed := true, recurses := true, named := ["unicode/utf8.first", "unicode/utf8.acceptRanges", "unicode.CaseRanges"], apart := false, laid := [("unicode/utf8.acceptRanges", laid_unicode_utf8_acceptRanges), ("unicode.CaseRanges", laid_unicode_CaseRanges), ("unicode/utf8.first", laid_unicode_utf8_first)] }
def EchoPartsSaid : Prop := echoPartsRow.holds Tryd.pinned (OpenSpec.ofChange echoPartsSpec)

/-- ITS FALSE NEIGHBOUR: 'it returns false'. Refute it at one input. -/
def echoPartsWrong : ChangeSpec := { name := "echoParts", fn := fun _ => fun
  | [d1, d2] => { results := [.lit (.bool false)], args := [d1, d2] }
  | _ => none }
def EchoPartsWrongFalsely : Prop := echoPartsRow.holds Tryd.pinned (OpenSpec.ofChange echoPartsWrong)

/- THE SECOND FORM. 'bulk': how many values and letters a reading holds, each counted each time it is reached (what is shared counts as often as it is met; a slice's spare places count too). A statement '..UptoSaid' is the law's where the arguments, and the package variables that the reading takes, are together of bulk at most 1048576: NARROWER than '..Said'. Prove '..Said' where nothing that the law and all that it calls make is longer than what came in: it says more and counts as full. Else prove '..UptoSaid'. A law counts once. -/
mutual
def uptoBulk {H : Type} : DataW H → Nat
  | .lit (.string bytes) => bytes.length + 1
  | .lit _ => 1
  | .nil => 1
  | .ptr d => uptoBulk d + 1
  | .slice elems spare => uptoBulkAll elems + uptoBulkAll spare + 1
  | .agg parts => uptoBulkAll parts + 1
  | .iface _ d => uptoBulk d + 1
  | .map entries => uptoBulkEntries entries + 1
  | .held _ => 1
def uptoBulkAll {H : Type} : List (DataW H) → Nat
  | [] => 0
  | d :: r => uptoBulk d + uptoBulkAll r
def uptoBulkEntries {H : Type} : List (Lit × DataW H) → Nat
  | [] => 0
  | x :: r => uptoBulkEntry x + uptoBulkEntries r
def uptoBulkEntry {H : Type} : Lit × DataW H → Nat
  | (.string bytes, d) => bytes.length + uptoBulk d + 1
  | (_, d) => uptoBulk d + 1
 end
def uptoSmall : (H : Type) → List (DataW H) → Bool := fun _ ds => decide (uptoBulkAll ds ≤ 1048576)
def OpenSpec.upto (s : _root_.Go.ChangeSpec) : _root_.Go.OpenSpec := { _root_.Go.OpenSpec.ofChange s with cond := some uptoSmall }

/-- 'windlasslaw23.EchoWrites', WHERE WHAT IT READS IS OF BULK AT MOST 1048576: true; the input reads as it did. -/
def echoWritesUptoRow : OpenClaim := { program := "ytlpndcpbnbeohaadoor", sum := "d54f76729d6793b72b3abeef97858fe387e8bde47f94671ea275a649dbdb2e36", func := "windlass/windlasslaw23.EchoWrites", spec := "echoWrites", inPlace := ["internal/bytealg.IndexByteString", "internal/abi.NoEscape", "internal/bytealg.MakeNoZero"], unfollowed := true, recurses := true, named := ["unicode/utf8.first", "unicode/utf8.acceptRanges", "unicode.CaseRanges"], apart := false, laid := [("unicode/utf8.acceptRanges", laid_unicode_utf8_acceptRanges), ("unicode.CaseRanges", laid_unicode_CaseRanges), ("unicode/utf8.first", laid_unicode_utf8_first)], narrowed := true }
def EchoWritesUptoSaid : Prop := echoWritesUptoRow.holds Tryd.pinned (OpenSpec.upto echoWritesSpec)

/-- 'windlasslaw23.EchoPlain', WHERE WHAT IT READS IS OF BULK AT MOST 1048576: true; the input reads as it did. -/
def echoPlainUptoRow : OpenClaim := { program := "ytlpndcpbnbeohaadoor", sum := "d54f76729d6793b72b3abeef97858fe387e8bde47f94671ea275a649dbdb2e36", func := "windlass/windlasslaw23.EchoPlain", spec := "echoPlain", inPlace := ["internal/bytealg.IndexByteString", "internal/abi.NoEscape", "internal/bytealg.MakeNoZero"], unfollowed := true, recurses := true, named := ["unicode/utf8.first", "unicode/utf8.acceptRanges", "unicode.CaseRanges"], apart := false, laid := [("unicode/utf8.acceptRanges", laid_unicode_utf8_acceptRanges), ("unicode.CaseRanges", laid_unicode_CaseRanges), ("unicode/utf8.first", laid_unicode_utf8_first)], narrowed := true }
def EchoPlainUptoSaid : Prop := echoPlainUptoRow.holds Tryd.pinned (OpenSpec.upto echoPlainSpec)

/-- 'windlasslaw23.EchoNumbers', WHERE WHAT IT READS IS OF BULK AT MOST 1048576: true; the input reads as it did. -/
def echoNumbersUptoRow : OpenClaim := { program := "ytlpndcpbnbeohaadoor", sum := "d54f76729d6793b72b3abeef97858fe387e8bde47f94671ea275a649dbdb2e36", func := "windlass/windlasslaw23.EchoNumbers", spec := "echoNumbers", inPlace := ["internal/bytealg.IndexByteString", "internal/abi.NoEscape", "internal/bytealg.MakeNoZero"], unfollowed := true, recurses := true, named := ["unicode/utf8.first", "unicode/utf8.acceptRanges", "unicode.CaseRanges"], apart := false, laid := [("unicode/utf8.acceptRanges", laid_unicode_utf8_acceptRanges), ("unicode.CaseRanges", laid_unicode_CaseRanges), ("unicode/utf8.first", laid_unicode_utf8_first)], narrowed := true }
def EchoNumbersUptoSaid : Prop := echoNumbersUptoRow.holds Tryd.pinned (OpenSpec.upto echoNumbersSpec)

/-- 'windlasslaw23.EchoParts', WHERE WHAT IT READS IS OF BULK AT MOST 1048576: true; the input reads as it did. -/
def echoPartsUptoRow : OpenClaim := { program := "ytlpndcpbnbeohaadoor", sum := "d54f76729d6793b72b3abeef97858fe387e8bde47f94671ea275a649dbdb2e36", func := "windlass/windlasslaw23.EchoParts", spec := "echoParts", inPlace := ["internal/bytealg.IndexByteString", "internal/abi.NoEscape", "internal/bytealg.MakeNoZero"], unfollowed := true, recurses := true, named := ["unicode/utf8.first", "unicode/utf8.acceptRanges", "unicode.CaseRanges"], apart := false, laid := [("unicode/utf8.acceptRanges", laid_unicode_utf8_acceptRanges), ("unicode.CaseRanges", laid_unicode_CaseRanges), ("unicode/utf8.first", laid_unicode_utf8_first)], narrowed := true }
def EchoPartsUptoSaid : Prop := echoPartsUptoRow.holds Tryd.pinned (OpenSpec.upto echoPartsSpec)

end Rows
end Go.Proofs.YtlpndcpbnbeohaaDoor
