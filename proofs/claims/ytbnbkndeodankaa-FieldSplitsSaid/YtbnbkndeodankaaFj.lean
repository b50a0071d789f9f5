/- Join's text and marks; when two fields are the same. -/
import Derived.Test.YtbnbkndeodankaaFw
set_option linter.unusedVariables false
set_option linter.unusedSimpArgs false
set_option autoImplicit false
namespace Go.Proofs.Ytbnbkndeodankaa.K
open Go Go.RowKit
def jp (p : Piece) : Piece := if p.kind = 3 then ⟨1, [32]⟩ else p
def jT (l : List Piece) : Bytes := (l.map fun p => (jp p).text).flatten
def jQ (l : List Piece) : Bytes := (l.map fun p => List.replicate (jp p).text.length (if (jp p).kind = 1 then (49 : UInt8) else 48)).flatten
theorem jT_step {l : List Piece} {i : Nat} {p : Piece} (h : l[i]? = some p) : jT (l.take (i + 1)) = jT (l.take i) ++ (jp p).text := by
  rw [List.take_add_one, h]; simp [jT]
theorem jQ_step {l : List Piece} {i : Nat} {p : Piece} (h : l[i]? = some p) : jQ (l.take (i + 1)) = jQ (l.take i) ++ List.replicate (jp p).text.length (if (jp p).kind = 1 then (49 : UInt8) else 48) := by
  rw [List.take_add_one, h]; simp [jQ]
theorem jp_len (p : Piece) : (jp p).text.length ≤ p.text.length + 1 := by unfold jp; split <;> simp
theorem jT_len : ∀ l : List Piece, (jT l).length ≤ bulkP l
  | [] => by simp [jT, bulkP]
  | p :: l => by
    have h1 := jT_len l; have h2 := jp_len p
    simp only [jT, List.map_cons, List.flatten_cons, List.length_append, bulkP] at h1 ⊢; omega
theorem jQ_len : ∀ l : List Piece, (jQ l).length = (jT l).length
  | [] => rfl
  | p :: l => by
    have h1 := jQ_len l
    simp only [jT, jQ, List.map_cons, List.flatten_cons, List.length_append, List.length_replicate] at h1 ⊢; omega
theorem fld_same (x y : Fld) : (decide (x.text = y.text) && decide (x.quoted = y.quoted)) = decide (x = y) := by
  cases x; cases y; simp
theorem take_same {α : Type} {a b : List α} {i : Nat} {x y : α} (h : a.take i = b.take i) (hx : a[i]? = some x) (hy : b[i]? = some y) (he : x = y) : a.take (i + 1) = b.take (i + 1) := by
  rw [List.take_add_one, List.take_add_one, h, hx, hy, he]
end Go.Proofs.Ytbnbkndeodankaa.K
