/-
  NARROWER THAN 'FOR EVERY INPUT', by the rows' own cells (each row's printed sentence says how): AtokReads: laid · AtokBlanks: laid · AtokNumbers: laid · AtokNames: laid · AtreeParses: laid · AtreeBack: laid · AtreeFit: laid · AtreeTells: laid.
  DERIVED. THE GIVEN ROWS OF THIS SEAT. 8 by the template 'for every input the law returns true; each argument reads behind the call as it read before'; 0 by the template 'total and deterministic' (their statements: YtcgcbpknbjafcaaDoorTotals.lean).
  GIVEN WITH THE SEED: the statements are not yours to turn. If you find one false, say at which input.
  Laid BY PROGRAM, IN A SANDBOX (cutbox-rows.mjs): the forced cells as the released guide's own fill.sh prints them over the translation 547d9d9144d4c50f… (all of the seat's roots in one cut). By AI agents, Wed Nov 11 2026. No macro, syntax, notation, axiom, sorry.
-/
import Derived.Test.YtcgcbpknbjafcaaDoorChecked
import GoSem.Claim
import GoSem.ClaimJoined
import GoSem.ClaimMapViews
import Derived.JoinedTies
import Derived.KernelRfl
namespace Go.Proofs.YtcgcbpknbjafcaaDoor
/- THE CELL 'sum', in the pinned program and in every row, IS THE sha256 OF THE DUMP (.gsa) THAT YtcgcbpknbjafcaaDoorProg.lean LOADS. Nothing in Lean hashes anything: it is a label: what it is worth is what the hold of that sum in a sandbox is worth. -/
noncomputable def Tryd.pinned : Pinned := { name := "ytcgcbpknbjafcaadoor", sum := "547d9d9144d4c50fa3828dcabc58c59eb890fc8648339d9aa2b8250a458788be", checked := Tryd.checked }
namespace Rows
def none {H : Type} : Left H := { results := [], args := [] }

/- WHAT THE LISTED PACKAGE-LEVEL VARIABLES READ AS WHEN THE CALL BEGINS. Each datum BY PROGRAM (the guide's laid-datum.mjs) off the statement by which the dump's own 'gosem.cut.vars' lays the variable. In a bare row this is a premise. The card (YtcgcbpknbjafcaaDoorCards.lean) ties it to the program's text. -/
def laid_unicode_White_Space {H : Type} : DataW H := .ptr (.agg [.slice [.agg [.lit (.int .u16 9), .lit (.int .u16 13), .lit (.int .u16 1)], .agg [.lit (.int .u16 32), .lit (.int .u16 133), .lit (.int .u16 101)], .agg [.lit (.int .u16 160), .lit (.int .u16 5760), .lit (.int .u16 5600)], .agg [.lit (.int .u16 8192), .lit (.int .u16 8202), .lit (.int .u16 1)], .agg [.lit (.int .u16 8232), .lit (.int .u16 8233), .lit (.int .u16 1)], .agg [.lit (.int .u16 8239), .lit (.int .u16 8287), .lit (.int .u16 48)], .agg [.lit (.int .u16 12288), .lit (.int .u16 12288), .lit (.int .u16 1)]] [], .nil, .lit (.int .i64 2)])
def laid_strings_asciiSpace {H : Type} : DataW H := .agg [.lit (.int .u8 0), .lit (.int .u8 0), .lit (.int .u8 0), .lit (.int .u8 0), .lit (.int .u8 0), .lit (.int .u8 0), .lit (.int .u8 0), .lit (.int .u8 0), .lit (.int .u8 0), .lit (.int .u8 1), .lit (.int .u8 1), .lit (.int .u8 1), .lit (.int .u8 1), .lit (.int .u8 1), .lit (.int .u8 0), .lit (.int .u8 0), .lit (.int .u8 0), .lit (.int .u8 0), .lit (.int .u8 0), .lit (.int .u8 0), .lit (.int .u8 0), .lit (.int .u8 0), .lit (.int .u8 0), .lit (.int .u8 0), .lit (.int .u8 0), .lit (.int .u8 0), .lit (.int .u8 0), .lit (.int .u8 0), .lit (.int .u8 0), .lit (.int .u8 0), .lit (.int .u8 0), .lit (.int .u8 0), .lit (.int .u8 1), .lit (.int .u8 0), .lit (.int .u8 0), .lit (.int .u8 0), .lit (.int .u8 0), .lit (.int .u8 0), .lit (.int .u8 0), .lit (.int .u8 0), .lit (.int .u8 0), .lit (.int .u8 0), .lit (.int .u8 0), .lit (.int .u8 0), .lit (.int .u8 0), .lit (.int .u8 0), .lit (.int .u8 0), .lit (.int .u8 0), .lit (.int .u8 0), .lit (.int .u8 0), .lit (.int .u8 0), .lit (.int .u8 0), .lit (.int .u8 0), .lit (.int .u8 0), .lit (.int .u8 0), .lit (.int .u8 0), .lit (.int .u8 0), .lit (.int .u8 0), .lit (.int .u8 0), .lit (.int .u8 0), .lit (.int .u8 0), .lit (.int .u8 0), .lit (.int .u8 0), .lit (.int .u8 0), .lit (.int .u8 0), .lit (.int .u8 0), .lit (.int .u8 0), .lit (.int .u8 0), .lit (.int .u8 0), .lit (.int .u8 0), .lit (.int .u8 0), .lit (.int .u8 0), .lit (.int .u8 0), .lit (.int .u8 0), .lit (.int .u8 0), .lit (.int .u8 0), .lit (.int .u8 0), .lit (.int .u8 0), .lit (.int .u8 0), .lit (.int .u8 0), .lit (.int .u8 0), .lit (.int .u8 0), .lit (.int .u8 0), .lit (.int .u8 0), .lit (.int .u8 0), .lit (.int .u8 0), .lit (.int .u8 0), .lit (.int .u8 0), .lit (.int .u8 0), .lit (.int .u8 0), .lit (.int .u8 0), .lit (.int .u8 0), .lit (.int .u8 0), .lit (.int .u8 0), .lit (.int .u8 0), .lit (.int .u8 0), .lit (.int .u8 0), .lit (.int .u8 0), .lit (.int .u8 0), .lit (.int .u8 0), .lit (.int .u8 0), .lit (.int .u8 0), .lit (.int .u8 0), .lit (.int .u8 0), .lit (.int .u8 0), .lit (.int .u8 0), .lit (.int .u8 0), .lit (.int .u8 0), .lit (.int .u8 0), .lit (.int .u8 0), .lit (.int .u8 0), .lit (.int .u8 0), .lit (.int .u8 0), .lit (.int .u8 0), .lit (.int .u8 0), .lit (.int .u8 0), .lit (.int .u8 0), .lit (.int .u8 0), .lit (.int .u8 0), .lit (.int .u8 0), .lit (.int .u8 0), .lit (.int .u8 0), .lit (.int .u8 0), .lit (.int .u8 0), .lit (.int .u8 0), .lit (.int .u8 0), .lit (.int .u8 0), .lit (.int .u8 0), .lit (.int .u8 0), .lit (.int .u8 0), .lit (.int .u8 0), .lit (.int .u8 0), .lit (.int .u8 0), .lit (.int .u8 0), .lit (.int .u8 0), .lit (.int .u8 0), .lit (.int .u8 0), .lit (.int .u8 0), .lit (.int .u8 0), .lit (.int .u8 0), .lit (.int .u8 0), .lit (.int .u8 0), .lit (.int .u8 0), .lit (.int .u8 0), .lit (.int .u8 0), .lit (.int .u8 0), .lit (.int .u8 0), .lit (.int .u8 0), .lit (.int .u8 0), .lit (.int .u8 0), .lit (.int .u8 0), .lit (.int .u8 0), .lit (.int .u8 0), .lit (.int .u8 0), .lit (.int .u8 0), .lit (.int .u8 0), .lit (.int .u8 0), .lit (.int .u8 0), .lit (.int .u8 0), .lit (.int .u8 0), .lit (.int .u8 0), .lit (.int .u8 0), .lit (.int .u8 0), .lit (.int .u8 0), .lit (.int .u8 0), .lit (.int .u8 0), .lit (.int .u8 0), .lit (.int .u8 0), .lit (.int .u8 0), .lit (.int .u8 0), .lit (.int .u8 0), .lit (.int .u8 0), .lit (.int .u8 0), .lit (.int .u8 0), .lit (.int .u8 0), .lit (.int .u8 0), .lit (.int .u8 0), .lit (.int .u8 0), .lit (.int .u8 0), .lit (.int .u8 0), .lit (.int .u8 0), .lit (.int .u8 0), .lit (.int .u8 0), .lit (.int .u8 0), .lit (.int .u8 0), .lit (.int .u8 0), .lit (.int .u8 0), .lit (.int .u8 0), .lit (.int .u8 0), .lit (.int .u8 0), .lit (.int .u8 0), .lit (.int .u8 0), .lit (.int .u8 0), .lit (.int .u8 0), .lit (.int .u8 0), .lit (.int .u8 0), .lit (.int .u8 0), .lit (.int .u8 0), .lit (.int .u8 0), .lit (.int .u8 0), .lit (.int .u8 0), .lit (.int .u8 0), .lit (.int .u8 0), .lit (.int .u8 0), .lit (.int .u8 0), .lit (.int .u8 0), .lit (.int .u8 0), .lit (.int .u8 0), .lit (.int .u8 0), .lit (.int .u8 0), .lit (.int .u8 0), .lit (.int .u8 0), .lit (.int .u8 0), .lit (.int .u8 0), .lit (.int .u8 0), .lit (.int .u8 0), .lit (.int .u8 0), .lit (.int .u8 0), .lit (.int .u8 0), .lit (.int .u8 0), .lit (.int .u8 0), .lit (.int .u8 0), .lit (.int .u8 0), .lit (.int .u8 0), .lit (.int .u8 0), .lit (.int .u8 0), .lit (.int .u8 0), .lit (.int .u8 0), .lit (.int .u8 0), .lit (.int .u8 0), .lit (.int .u8 0), .lit (.int .u8 0), .lit (.int .u8 0), .lit (.int .u8 0), .lit (.int .u8 0), .lit (.int .u8 0), .lit (.int .u8 0), .lit (.int .u8 0), .lit (.int .u8 0), .lit (.int .u8 0), .lit (.int .u8 0), .lit (.int .u8 0), .lit (.int .u8 0), .lit (.int .u8 0), .lit (.int .u8 0), .lit (.int .u8 0), .lit (.int .u8 0), .lit (.int .u8 0), .lit (.int .u8 0), .lit (.int .u8 0), .lit (.int .u8 0), .lit (.int .u8 0), .lit (.int .u8 0), .lit (.int .u8 0), .lit (.int .u8 0), .lit (.int .u8 0)]

/-- 'windlasslaw12.AtokReads': WHATEVER THE INPUT: true; the input reads as it did. -/
def atokReadsSpec : ChangeSpec := { name := "atokReads", fn := fun _ => fun
  | [d] => { results := [.lit (.bool true)], args := [d] }
  | _ => none }
def atokReadsRow : OpenClaim := { program := "ytcgcbpknbjafcaadoor", sum := "547d9d9144d4c50fa3828dcabc58c59eb890fc8648339d9aa2b8250a458788be", func := "windlass/windlasslaw12.AtokReads", spec := "atokReads", inPlace := ["internal/bytealg.IndexByteString"], unfollowed := true, recurses := true, named := ["strings.asciiSpace", "unicode.White_Space"], apart := false, laid := [("unicode.White_Space", laid_unicode_White_Space), ("strings.asciiSpace", laid_strings_asciiSpace)] }
def AtokReadsSaid : Prop := atokReadsRow.holds Tryd.pinned (OpenSpec.ofChange atokReadsSpec)

/-- ITS FALSE NEIGHBOUR: 'it returns false'. Refute it at one input. -/
def atokReadsWrong : ChangeSpec := { name := "atokReads", fn := fun _ => fun
  | [d] => { results := [.lit (.bool false)], args := [d] }
  | _ => none }
def AtokReadsWrongFalsely : Prop := atokReadsRow.holds Tryd.pinned (OpenSpec.ofChange atokReadsWrong)

/-- 'windlasslaw12.AtokBlanks': WHATEVER THE INPUT: true; the input reads as it did. -/
def atokBlanksSpec : ChangeSpec := { name := "atokBlanks", fn := fun _ => fun
  | [d1, d2] => { results := [.lit (.bool true)], args := [d1, d2] }
  | _ => none }
def atokBlanksRow : OpenClaim := { program := "ytcgcbpknbjafcaadoor", sum := "547d9d9144d4c50fa3828dcabc58c59eb890fc8648339d9aa2b8250a458788be", func := "windlass/windlasslaw12.AtokBlanks", spec := "atokBlanks", inPlace := ["internal/bytealg.IndexByteString"], unfollowed := true, recurses := true, named := ["strings.asciiSpace", "unicode.White_Space"], apart := false, laid := [("unicode.White_Space", laid_unicode_White_Space), ("strings.asciiSpace", laid_strings_asciiSpace)] }
def AtokBlanksSaid : Prop := atokBlanksRow.holds Tryd.pinned (OpenSpec.ofChange atokBlanksSpec)

/-- ITS FALSE NEIGHBOUR: 'it returns false'. Refute it at one input. -/
def atokBlanksWrong : ChangeSpec := { name := "atokBlanks", fn := fun _ => fun
  | [d1, d2] => { results := [.lit (.bool false)], args := [d1, d2] }
  | _ => none }
def AtokBlanksWrongFalsely : Prop := atokBlanksRow.holds Tryd.pinned (OpenSpec.ofChange atokBlanksWrong)

/-- 'windlasslaw12.AtokNumbers': WHATEVER THE INPUT: true; the input reads as it did. -/
def atokNumbersSpec : ChangeSpec := { name := "atokNumbers", fn := fun _ => fun
  | [d] => { results := [.lit (.bool true)], args := [d] }
  | _ => none }
def atokNumbersRow : OpenClaim := { program := "ytcgcbpknbjafcaadoor", sum := "547d9d9144d4c50fa3828dcabc58c59eb890fc8648339d9aa2b8250a458788be", func := "windlass/windlasslaw12.AtokNumbers", spec := "atokNumbers", inPlace := ["internal/bytealg.IndexByteString"], unfollowed := true, recurses := true, named := ["strings.asciiSpace", "unicode.White_Space"], apart := false, laid := [("unicode.White_Space", laid_unicode_White_Space), ("strings.asciiSpace", laid_strings_asciiSpace)] }
def AtokNumbersSaid : Prop := atokNumbersRow.holds Tryd.pinned (OpenSpec.ofChange atokNumbersSpec)

/-- ITS FALSE NEIGHBOUR: 'it returns false'. Refute it at one input. -/
def atokNumbersWrong : ChangeSpec := { name := "atokNumbers", fn := fun _ => fun
  | [d] => { results := [.lit (.bool false)], args := [d] }
  | _ => none }
def AtokNumbersWrongFalsely : Prop := atokNumbersRow.holds Tryd.pinned (OpenSpec.ofChange atokNumbersWrong)

/-- 'windlasslaw12.AtokNames': WHATEVER THE INPUT: true; the input reads as it did. -/
def atokNamesSpec : ChangeSpec := { name := "atokNames", fn := fun _ => fun
  | [d] => { results := [.lit (.bool true)], args := [d] }
  | _ => none }
def atokNamesRow : OpenClaim := { program := "ytcgcbpknbjafcaadoor", sum := "547d9d9144d4c50fa3828dcabc58c59eb890fc8648339d9aa2b8250a458788be", func := "windlass/windlasslaw12.AtokNames", spec := "atokNames", inPlace := ["internal/bytealg.IndexByteString"], unfollowed := true, recurses := true, named := ["strings.asciiSpace", "unicode.White_Space"], apart := false, laid := [("unicode.White_Space", laid_unicode_White_Space), ("strings.asciiSpace", laid_strings_asciiSpace)] }
def AtokNamesSaid : Prop := atokNamesRow.holds Tryd.pinned (OpenSpec.ofChange atokNamesSpec)

/-- ITS FALSE NEIGHBOUR: 'it returns false'. Refute it at one input. -/
def atokNamesWrong : ChangeSpec := { name := "atokNames", fn := fun _ => fun
  | [d] => { results := [.lit (.bool false)], args := [d] }
  | _ => none }
def AtokNamesWrongFalsely : Prop := atokNamesRow.holds Tryd.pinned (OpenSpec.ofChange atokNamesWrong)

/-- 'windlasslaw13.AtreeParses': WHATEVER THE INPUT: true; the input reads as it did. -/
def atreeParsesSpec : ChangeSpec := { name := "atreeParses", fn := fun _ => fun
  | [d1, d2] => { results := [.lit (.bool true)], args := [d1, d2] }
  | _ => none }
def atreeParsesRow : OpenClaim := { program := "ytcgcbpknbjafcaadoor", sum := "547d9d9144d4c50fa3828dcabc58c59eb890fc8648339d9aa2b8250a458788be", func := "windlass/windlasslaw13.AtreeParses", spec := "atreeParses", inPlace := ["internal/bytealg.IndexByteString"], unfollowed := true, recurses := true, named := ["strings.asciiSpace", "unicode.White_Space"], apart := false, laid := [("unicode.White_Space", laid_unicode_White_Space), ("strings.asciiSpace", laid_strings_asciiSpace)] }
def AtreeParsesSaid : Prop := atreeParsesRow.holds Tryd.pinned (OpenSpec.ofChange atreeParsesSpec)

/-- ITS FALSE NEIGHBOUR: 'it returns false'. Refute it at one input. -/
def atreeParsesWrong : ChangeSpec := { name := "atreeParses", fn := fun _ => fun
  | [d1, d2] => { results := [.lit (.bool false)], args := [d1, d2] }
  | _ => none }
def AtreeParsesWrongFalsely : Prop := atreeParsesRow.holds Tryd.pinned (OpenSpec.ofChange atreeParsesWrong)

/-- 'windlasslaw13.AtreeBack': WHATEVER THE INPUT: true; the input reads as it did. -/
def atreeBackSpec : ChangeSpec := { name := "atreeBack", fn := fun _ => fun
  | [d] => { results := [.lit (.bool true)], args := [d] }
  | _ => none }
def atreeBackRow : OpenClaim := { program := "ytcgcbpknbjafcaadoor", sum := "547d9d9144d4c50fa3828dcabc58c59eb890fc8648339d9aa2b8250a458788be", func := "windlass/windlasslaw13.AtreeBack", spec := "atreeBack", inPlace := ["internal/bytealg.IndexByteString"], unfollowed := true, recurses := true, named := ["strings.asciiSpace", "unicode.White_Space"], apart := false, laid := [("unicode.White_Space", laid_unicode_White_Space), ("strings.asciiSpace", laid_strings_asciiSpace)] }
def AtreeBackSaid : Prop := atreeBackRow.holds Tryd.pinned (OpenSpec.ofChange atreeBackSpec)

/-- ITS FALSE NEIGHBOUR: 'it returns false'. Refute it at one input. -/
def atreeBackWrong : ChangeSpec := { name := "atreeBack", fn := fun _ => fun
  | [d] => { results := [.lit (.bool false)], args := [d] }
  | _ => none }
def AtreeBackWrongFalsely : Prop := atreeBackRow.holds Tryd.pinned (OpenSpec.ofChange atreeBackWrong)

/-- 'windlasslaw13.AtreeFit': WHATEVER THE INPUT: true; the input reads as it did. -/
def atreeFitSpec : ChangeSpec := { name := "atreeFit", fn := fun _ => fun
  | [d] => { results := [.lit (.bool true)], args := [d] }
  | _ => none }
def atreeFitRow : OpenClaim := { program := "ytcgcbpknbjafcaadoor", sum := "547d9d9144d4c50fa3828dcabc58c59eb890fc8648339d9aa2b8250a458788be", func := "windlass/windlasslaw13.AtreeFit", spec := "atreeFit", inPlace := ["internal/bytealg.IndexByteString"], unfollowed := true, recurses := true, named := ["strings.asciiSpace", "unicode.White_Space"], apart := false, laid := [("unicode.White_Space", laid_unicode_White_Space), ("strings.asciiSpace", laid_strings_asciiSpace)] }
def AtreeFitSaid : Prop := atreeFitRow.holds Tryd.pinned (OpenSpec.ofChange atreeFitSpec)

/-- ITS FALSE NEIGHBOUR: 'it returns false'. Refute it at one input. -/
def atreeFitWrong : ChangeSpec := { name := "atreeFit", fn := fun _ => fun
  | [d] => { results := [.lit (.bool false)], args := [d] }
  | _ => none }
def AtreeFitWrongFalsely : Prop := atreeFitRow.holds Tryd.pinned (OpenSpec.ofChange atreeFitWrong)

/-- 'windlasslaw13.AtreeTells': WHATEVER THE INPUT: true; the input reads as it did. -/
def atreeTellsSpec : ChangeSpec := { name := "atreeTells", fn := fun _ => fun
  | [d1, d2] => { results := [.lit (.bool true)], args := [d1, d2] }
  | _ => none }
def atreeTellsRow : OpenClaim := { program := "ytcgcbpknbjafcaadoor", sum := "547d9d9144d4c50fa3828dcabc58c59eb890fc8648339d9aa2b8250a458788be", func := "windlass/windlasslaw13.AtreeTells", spec := "atreeTells", inPlace := ["internal/bytealg.IndexByteString", "internal/bytealg.IndexString"], unfollowed := true, recurses := true, named := ["strings.asciiSpace", "unicode.White_Space", "internal/bytealg.MaxLen"], apart := false, laid := [("unicode.White_Space", laid_unicode_White_Space), ("strings.asciiSpace", laid_strings_asciiSpace)] }
def AtreeTellsSaid : Prop := atreeTellsRow.holds Tryd.pinned (OpenSpec.ofChange atreeTellsSpec)

/-- ITS FALSE NEIGHBOUR: 'it returns false'. Refute it at one input. -/
def atreeTellsWrong : ChangeSpec := { name := "atreeTells", fn := fun _ => fun
  | [d1, d2] => { results := [.lit (.bool false)], args := [d1, d2] }
  | _ => none }
def AtreeTellsWrongFalsely : Prop := atreeTellsRow.holds Tryd.pinned (OpenSpec.ofChange atreeTellsWrong)

/- THE SECOND FORM. 'bulk': how many values and letters a reading holds, each counted each time it is reached (what is shared counts as often as it is met; a slice's spare places count too). A statement '..UptoSaid' is the law's where the arguments, and the package variables that the reading takes, are together of bulk at most 1048576: NARROWER than '..Said'. Prove '..Said' where nothing that the law and all that it calls make is longer than what came in: it says more and counts as full. Else prove '..UptoSaid'. A law counts once. -/
mutual
def uptoBulk {H : Type} : DataW H → Nat
  | .lit (.string bytes) => bytes.length + 1
  | .lit _ => 1
  | .nil => 1
  | .ptr d => uptoBulk d + 1
  | .slice elems spare => uptoBulkAll elems + uptoBulkAll spare + 1
  | .agg parts => uptoBulkAll parts + 1
  | .iface _ d => uptoBulk d + 1
  | .map entries => uptoBulkEntries entries + 1
  | .held _ => 1
def uptoBulkAll {H : Type} : List (DataW H) → Nat
  | [] => 0
  | d :: r => uptoBulk d + uptoBulkAll r
def uptoBulkEntries {H : Type} : List (Lit × DataW H) → Nat
  | [] => 0
  | x :: r => uptoBulkEntry x + uptoBulkEntries r
def uptoBulkEntry {H : Type} : Lit × DataW H → Nat
  | (.string bytes, d) => bytes.length + uptoBulk d + 1
  | (_, d) => uptoBulk d + 1
 end
def uptoSmall : (H : Type) → List (DataW H) → Bool := fun _ ds => decide (uptoBulkAll ds ≤ 1048576)
def OpenSpec.upto (s : _root_.Go.ChangeSpec) : _root_.Go.OpenSpec := { _root_.Go.OpenSpec.ofChange s with cond := some uptoSmall }

/-- 'windlasslaw12.AtokReads', WHERE WHAT IT READS IS OF BULK AT MOST 1048576: true; the input reads as it did. -/
def atokReadsUptoRow : OpenClaim := { program := "ytcgcbpknbjafcaadoor", sum := "547d9d9144d4c50fa3828dcabc58c59eb890fc8648339d9aa2b8250a458788be", func := "windlass/windlasslaw12.AtokReads", spec := "atokReads", inPlace := ["internal/bytealg.IndexByteString"], unfollowed := true, recurses := true, named := ["strings.asciiSpace", "unicode.White_Space"], apart := false, laid := [("unicode.White_Space", laid_unicode_White_Space), ("strings.asciiSpace", laid_strings_asciiSpace)], narrowed := true }
def AtokReadsUptoSaid : Prop := atokReadsUptoRow.holds Tryd.pinned (OpenSpec.upto atokReadsSpec)

/-- 'windlasslaw12.AtokBlanks', WHERE WHAT IT READS IS OF BULK AT MOST 1048576: true; the input reads as it did. -/
def atokBlanksUptoRow : OpenClaim := { program := "ytcgcbpknbjafcaadoor", sum := "547d9d9144d4c50fa3828dcabc58c59eb890fc8648339d9aa2b8250a458788be", func := "windlass/windlasslaw12.AtokBlanks", spec := "atokBlanks", inPlace := ["internal/bytealg.IndexByteString"], unfollowed := true, recurses := true, named := ["strings.asciiSpace", "unicode.White_Space"], apart := false, laid := [("unicode.White_Space", laid_unicode_White_Space), ("strings.asciiSpace", laid_strings_asciiSpace)], narrowed := true }
def AtokBlanksUptoSaid : Prop := atokBlanksUptoRow.holds Tryd.pinned (OpenSpec.upto atokBlanksSpec)

/-- 'windlasslaw12.AtokNumbers', WHERE WHAT IT READS IS OF BULK AT MOST 1048576: true; the input reads as it did. -/
def atokNumbersUptoRow : OpenClaim := { program := "ytcgcbpknbjafcaadoor", sum := "547d9d9144d4c50fa3828dcabc58c59eb890fc8648339d9aa2b8250a458788be", func := "windlass/windlasslaw12.AtokNumbers", spec := "atokNumbers", inPlace := ["internal/bytealg.IndexByteString"], unfollowed := true, recurses := true, named := ["strings.asciiSpace", "unicode.White_Space"], apart := false, laid := [("unicode.White_Space", laid_unicode_White_Space), ("strings.asciiSpace", laid_strings_asciiSpace)], narrowed := true }
def AtokNumbersUptoSaid : Prop := atokNumbersUptoRow.holds Tryd.pinned (OpenSpec.upto atokNumbersSpec)

/-- 'windlasslaw12.AtokNames', WHERE WHAT IT READS IS OF BULK AT MOST 1048576: true; the input reads as it did. -/
def atokNamesUptoRow : OpenClaim := { program := "ytcgcbpknbjafcaadoor", sum := "547d9d9144d4c50fa3828dcabc58c59eb890fc8648339d9aa2b8250a458788be", func := "windlass/windlasslaw12.AtokNames", spec := "atokNames", inPlace := ["internal/bytealg.IndexByteString"], unfollowed := true, recurses := true, named := ["strings.asciiSpace", "unicode.White_Space"], apart := false, laid := [("unicode.White_Space", laid_unicode_White_Space), ("strings.asciiSpace", laid_strings_asciiSpace)], narrowed := true }
def AtokNamesUptoSaid : Prop := atokNamesUptoRow.holds Tryd.pinned (OpenSpec.upto atokNamesSpec)

/-- 'windlasslaw13.AtreeParses', WHERE WHAT IT READS IS OF BULK AT MOST 1048576: true; the input reads as it did. -/
def atreeParsesUptoRow : OpenClaim := { program := "ytcgcbpknbjafcaadoor", sum := "547d9d9144d4c50fa3828dcabc58c59eb890fc8648339d9aa2b8250a458788be", func := "windlass/windlasslaw13.AtreeParses", spec := "atreeParses", inPlace := ["internal/bytealg.IndexByteString"], unfollowed := true, recurses := true, named := ["strings.asciiSpace", "unicode.White_Space"], apart := false, laid := [("unicode.White_Space", laid_unicode_White_Space), ("strings.asciiSpace", laid_strings_asciiSpace)], narrowed := true }
def AtreeParsesUptoSaid : Prop := atreeParsesUptoRow.holds Tryd.pinned (OpenSpec.upto atreeParsesSpec)

/-- 'windlasslaw13.AtreeBack', WHERE WHAT IT READS IS OF BULK AT MOST 1048576: true; the input reads as it did. -/
def atreeBackUptoRow : OpenClaim := { program := "ytcgcbpknbjafcaadoor", sum := "547d9d9144d4c50fa3828dcabc58c59eb890fc8648339d9aa2b8250a458788be", func := "windlass/windlasslaw13.AtreeBack", spec := "atreeBack", inPlace := ["internal/bytealg.IndexByteString"], unfollowed := true, recurses := true, named := ["strings.asciiSpace", "unicode.White_Space"], apart := false, laid := [("unicode.White_Space", laid_unicode_White_Space), ("strings.asciiSpace", laid_strings_asciiSpace)], narrowed := true }
def AtreeBackUptoSaid : Prop := atreeBackUptoRow.holds Tryd.pinned (OpenSpec.upto atreeBackSpec)

/-- 'windlasslaw13.AtreeFit', WHERE WHAT IT READS IS OF BULK AT MOST 1048576: true; the input reads as it did. -/
def atreeFitUptoRow : OpenClaim := { program := "ytcgcbpknbjafcaadoor", sum := "547d9d9144d4c50fa3828dcabc58c59eb890fc8648339d9aa2b8250a458788be", func := "windlass/windlasslaw13.AtreeFit", spec := "atreeFit", inPlace := ["internal/bytealg.IndexByteString"], unfollowed := true, recurses := true, named := ["strings.asciiSpace", "unicode.White_Space"], apart := false, laid := [("unicode.White_Space", laid_unicode_White_Space), ("strings.asciiSpace", laid_strings_asciiSpace)], narrowed := true }
def AtreeFitUptoSaid : Prop := atreeFitUptoRow.holds Tryd.pinned (OpenSpec.upto atreeFitSpec)

/-- 'windlasslaw13.AtreeTells', WHERE WHAT IT READS IS OF BULK AT MOST 1048576: true; the input reads as it did. -/
def atreeTellsUptoRow : OpenClaim := { program := "ytcgcbpknbjafcaadoor", sum := "547d9d9144d4c50fa3828dcabc58c59eb890fc8648339d9aa2b8250a458788be", func := "windlass/windlasslaw13.AtreeTells", spec := "atreeTells", inPlace := ["internal/bytealg.IndexByteString", "internal/bytealg.IndexString"], unfollowed := true, recurses := true, named := ["strings.asciiSpace", "unicode.White_Space", "internal/bytealg.MaxLen"], apart := false, laid := [("unicode.White_Space", laid_unicode_White_Space), ("strings.asciiSpace", laid_strings_asciiSpace)], narrowed := true }
def AtreeTellsUptoSaid : Prop := atreeTellsUptoRow.holds Tryd.pinned (OpenSpec.upto atreeTellsSpec)

end Rows
end Go.Proofs.YtcgcbpknbjafcaaDoor
