/-
  No cell of these rows narrows 'for every input' (looked for: loops, veiled, ifaces, maps, wideKeys, modest, calm, conditions, laid).
  DERIVED. THE GIVEN ROWS OF THIS SEAT. 3 by the template 'for every input the law returns true; each argument reads behind the call as it read before'; 0 by the template 'total and deterministic' (their statements: YtncnalboiljgiaaGreatTotals.lean).
  GIVEN WITH THE SEED: the statements are not yours to turn. If you find one false, say at which input.
  Laid BY PROGRAM, IN A SANDBOX (cutbox-rows.mjs): the forced cells as the released guide's own fill.sh prints them over the translation 9862ccc55e081a4e… (all of the seat's roots in one cut). By AI agents, Wed Nov 11 2026. No macro, syntax, notation, axiom, sorry.
-/
import Derived.Test.YtncnalboiljgiaaGreatChecked
import GoSem.Claim
import GoSem.ClaimJoined
import GoSem.ClaimMapViews
import Derived.JoinedTies
import Derived.KernelRfl
namespace Go.Proofs.YtncnalboiljgiaaGreat
/- THE CELL 'sum', in the pinned program and in every row, IS THE sha256 OF THE DUMP (.gsa) THAT YtncnalboiljgiaaGreatProg.lean LOADS. Nothing in Lean hashes anything: it is a label: what it is worth is what the hold of that sum in a sandbox is worth. -/
noncomputable def Tryz.pinned : Pinned := { name := "ytncnalboiljgiaagreat", sum := "9862ccc55e081a4eb59c155808b108df430353812adfc6caf6319a2c3a65e776", checked := Tryz.checked }
namespace Rows
def none {H : Type} : Left H := { results := [], args := [] }

/-- 'windlasslaw11.GlobExpands': WHATEVER THE INPUT: true; the input reads as it did. -/
def globExpandsSpec : ChangeSpec := { name := "globExpands", fn := fun _ => fun
  | [d1, d2, d3, d4] => { results := [.lit (.bool true)], args := [d1, d2, d3, d4] }
  | _ => none }
def globExpandsRow : OpenClaim := { program := "ytncnalboiljgiaagreat", sum := "9862ccc55e081a4eb59c155808b108df430353812adfc6caf6319a2c3a65e776", func := "windlass/windlasslaw11.GlobExpands", spec := "globExpands", inPlace := ["internal/abi.NoEscape", "internal/bytealg.MakeNoZero", "internal/bytealg.IndexByteString", "internal/bytealg.IndexString", "internal/bytealg.abigen_runtime_cmpstring"], unfollowed := true, recurses := true, named := ["internal/bytealg.MaxLen"], apart := false }
def GlobExpandsSaid : Prop := globExpandsRow.holds Tryz.pinned (OpenSpec.ofChange globExpandsSpec)

/-- ITS FALSE NEIGHBOUR: 'it returns false'. Refute it at one input. -/
def globExpandsWrong : ChangeSpec := { name := "globExpands", fn := fun _ => fun
  | [d1, d2, d3, d4] => { results := [.lit (.bool false)], args := [d1, d2, d3, d4] }
  | _ => none }
def GlobExpandsWrongFalsely : Prop := globExpandsRow.holds Tryz.pinned (OpenSpec.ofChange globExpandsWrong)

/-- 'windlasslaw11.GlobAll': WHATEVER THE INPUT: true; the input reads as it did. -/
def globAllSpec : ChangeSpec := { name := "globAll", fn := fun _ => fun
  | [d1, d2] => { results := [.lit (.bool true)], args := [d1, d2] }
  | _ => none }
def globAllRow : OpenClaim := { program := "ytncnalboiljgiaagreat", sum := "9862ccc55e081a4eb59c155808b108df430353812adfc6caf6319a2c3a65e776", func := "windlass/windlasslaw11.GlobAll", spec := "globAll", inPlace := ["internal/abi.NoEscape", "internal/bytealg.MakeNoZero", "internal/bytealg.IndexByteString", "internal/bytealg.IndexString", "internal/bytealg.abigen_runtime_cmpstring"], unfollowed := true, recurses := true, named := ["internal/bytealg.MaxLen"], apart := false }
def GlobAllSaid : Prop := globAllRow.holds Tryz.pinned (OpenSpec.ofChange globAllSpec)

/-- ITS FALSE NEIGHBOUR: 'it returns false'. Refute it at one input. -/
def globAllWrong : ChangeSpec := { name := "globAll", fn := fun _ => fun
  | [d1, d2] => { results := [.lit (.bool false)], args := [d1, d2] }
  | _ => none }
def GlobAllWrongFalsely : Prop := globAllRow.holds Tryz.pinned (OpenSpec.ofChange globAllWrong)

/-- 'windlasslaw11.GlobQuoted': WHATEVER THE INPUT: true; the input reads as it did. -/
def globQuotedSpec : ChangeSpec := { name := "globQuoted", fn := fun _ => fun
  | [d1, d2, d3] => { results := [.lit (.bool true)], args := [d1, d2, d3] }
  | _ => none }
def globQuotedRow : OpenClaim := { program := "ytncnalboiljgiaagreat", sum := "9862ccc55e081a4eb59c155808b108df430353812adfc6caf6319a2c3a65e776", func := "windlass/windlasslaw11.GlobQuoted", spec := "globQuoted", inPlace := ["internal/abi.NoEscape", "internal/bytealg.MakeNoZero", "internal/bytealg.IndexByteString", "internal/bytealg.IndexString", "internal/bytealg.abigen_runtime_cmpstring"], unfollowed := true, recurses := true, named := ["internal/bytealg.MaxLen"], apart := false }
def GlobQuotedSaid : Prop := globQuotedRow.holds Tryz.pinned (OpenSpec.ofChange globQuotedSpec)

/-- ITS FALSE NEIGHBOUR: 'it returns false'. Refute it at one input. -/
def globQuotedWrong : ChangeSpec := { name := "globQuoted", fn := fun _ => fun
  | [d1, d2, d3] => { results := [.lit (.bool false)], args := [d1, d2, d3] }
  | _ => none }
def GlobQuotedWrongFalsely : Prop := globQuotedRow.holds Tryz.pinned (OpenSpec.ofChange globQuotedWrong)

/- THE SECOND FORM. 'bulk': how many values and letters a reading holds, each counted each time it is reached (what is shared counts as often as it is met; a slice's spare places count too). A statement '..UptoSaid' is the law's where the arguments, and the package variables that the reading takes, are together of bulk at most 1048576: NARROWER than '..Said'. Prove '..Said' where nothing that the law and all that it calls make is longer than what came in: it says more and counts as full. Else prove '..UptoSaid'. A law counts once. -/
mutual
def uptoBulk {H : Type} : DataW H → Nat
  | .lit (.string bytes) => bytes.length + 1
  | .lit _ => 1
  | .nil => 1
  | .ptr d => uptoBulk d + 1
  | .slice elems spare => uptoBulkAll elems + uptoBulkAll spare + 1
  | .agg parts => uptoBulkAll parts + 1
  | .iface _ d => uptoBulk d + 1
  | .map entries => uptoBulkEntries entries + 1
  | .held _ => 1
def uptoBulkAll {H : Type} : List (DataW H) → Nat
  | [] => 0
  | d :: r => uptoBulk d + uptoBulkAll r
def uptoBulkEntries {H : Type} : List (Lit × DataW H) → Nat
  | [] => 0
  | x :: r => uptoBulkEntry x + uptoBulkEntries r
def uptoBulkEntry {H : Type} : Lit × DataW H → Nat
  | (.string bytes, d) => bytes.length + uptoBulk d + 1
  | (_, d) => uptoBulk d + 1
 end
def uptoSmall : (H : Type) → List (DataW H) → Bool := fun _ ds => decide (uptoBulkAll ds ≤ 1048576)
def OpenSpec.upto (s : _root_.Go.ChangeSpec) : _root_.Go.OpenSpec := { _root_.Go.OpenSpec.ofChange s with cond := some uptoSmall }

/-- 'windlasslaw11.GlobExpands', WHERE WHAT IT READS IS OF BULK AT MOST 1048576: true; the input reads as it did. -/
def globExpandsUptoRow : OpenClaim := { program := "ytncnalboiljgiaagreat", sum := "9862ccc55e081a4eb59c155808b108df430353812adfc6caf6319a2c3a65e776", func := "windlass/windlasslaw11.GlobExpands", spec := "globExpands", inPlace := ["internal/abi.NoEscape", "internal/bytealg.MakeNoZero", "internal/bytealg.IndexByteString", "internal/bytealg.IndexString", "internal/bytealg.abigen_runtime_cmpstring"], unfollowed := true, recurses := true, named := ["internal/bytealg.MaxLen"], apart := false, narrowed := true }
def GlobExpandsUptoSaid : Prop := globExpandsUptoRow.holds Tryz.pinned (OpenSpec.upto globExpandsSpec)

/-- 'windlasslaw11.GlobAll', WHERE WHAT IT READS IS OF BULK AT MOST 1048576: true; the input reads as it did. -/
def globAllUptoRow : OpenClaim := { program := "ytncnalboiljgiaagreat", sum := "9862ccc55e081a4eb59c155808b108df430353812adfc6caf6319a2c3a65e776", func := "windlass/windlasslaw11.GlobAll", spec := "globAll", inPlace := ["internal/abi.NoEscape", "internal/bytealg.MakeNoZero", "internal/bytealg.IndexByteString", "internal/bytealg.IndexString", "internal/bytealg.abigen_runtime_cmpstring"], unfollowed := true, recurses := true, named := ["internal/bytealg.MaxLen"], apart := false, narrowed := true }
def GlobAllUptoSaid : Prop := globAllUptoRow.holds Tryz.pinned (OpenSpec.upto globAllSpec)

/-- 'windlasslaw11.GlobQuoted', WHERE WHAT IT READS IS OF BULK AT MOST 1048576: true; the input reads as it did. -/
def globQuotedUptoRow : OpenClaim := { program := "ytncnalboiljgiaagreat", sum := "9862ccc55e081a4eb59c155808b108df430353812adfc6caf6319a2c3a65e776", func := "windlass/windlasslaw11.GlobQuoted", spec := "globQuoted", inPlace := ["internal/abi.NoEscape", "internal/bytealg.MakeNoZero", "internal/bytealg.IndexByteString", "internal/bytealg.IndexString", "internal/bytealg.abigen_runtime_cmpstring"], unfollowed := true, recurses := true, named := ["internal/bytealg.MaxLen"], apart := false, narrowed := true }
def GlobQuotedUptoSaid : Prop := globQuotedUptoRow.holds Tryz.pinned (OpenSpec.upto globQuotedSpec)

end Rows
end Go.Proofs.YtncnalboiljgiaaGreat
