/- The document's fit rows. -/
import Derived.Test.YtmbbhgglllfelaaDoorCe
import Derived.Test.YtmbbhgglllfelaaDoorKitN
set_option linter.unusedVariables false
set_option linter.unusedSimpArgs false
set_option autoImplicit false
set_option maxRecDepth 20000
namespace Go.Proofs.YtmbbhgglllfelaaDoor.K
open Go Go.Proofs Go.RowKit

/-- The level of an operator of two operands; 0: it is none. -/
def levelV (s : Bytes) : Int := if s = [124, 124] then 1 else if s = [38, 38] then 2 else if s = [124] then 3 else if s = [94] then 4 else if s = [38] then 5 else if s = [61, 61] then 6 else if s = [33, 61] then 6 else if s = [60] then 7 else if s = [60, 61] then 7 else if s = [62] then 7 else if s = [62, 61] then 7 else if s = [60, 60] then 8 else if s = [62, 62] then 8 else if s = [43] then 9 else if s = [45] then 9 else if s = [42] then 10 else if s = [47] then 10 else if s = [37] then 10 else 0
/-- An operation that can be, by itself. -/
def formP (x : Nd) : Bool :=
  if x.op = [35] then decide ((x.kids.length : Int) = 0) && (decide (x.name = []) && decide (0 ≤ x.num))
  else if x.op = [36] then decide ((x.kids.length : Int) = 0) && (nameV x.name && decide (x.num = 0))
  else if x.op ∈ asgL then decide ((x.kids.length : Int) = 1) && (nameV x.name && decide (x.num = 0))
  else if (x.op.length : Int) = 2 ∧ ((byte x.op 0).toNat : Int) = 117 ∧ x.op.drop 1 ∈ unL then decide ((x.kids.length : Int) = 1) && (decide (x.name = []) && decide (x.num = 0))
  else if x.op = [63] then decide ((x.kids.length : Int) = 3) && (decide (x.name = []) && decide (x.num = 0))
  else decide (0 < levelV x.op) && (decide ((x.kids.length : Int) = 2) && (decide (x.name = []) && decide (x.num = 0)))
def kidsN : List Nd → Nat
  | [] => 0
  | x :: l => x.kids.length + kidsN l
def fewN (l : List Nd) : Bool := decide (l.length ≤ 1100) && decide (kidsN l ≤ 5000)
def fitF : List Nd → Nat → List Int → Bool
  | [], _, st => decide (st.length = 1)
  | x :: l, i, st => if formP x = true ∧ x.kids.length ≤ st.length ∧ st.drop (st.length - x.kids.length) = x.kids then fitF l (i + 1) (st.take (st.length - x.kids.length) ++ [(i : Int)]) else false
def fitV (l : List Nd) : Bool := decide (1 ≤ l.length ∧ l.length ≤ 1000) && fitF l 0 []
theorem kidsN_append (a b : List Nd) : kidsN (a ++ b) = kidsN a + kidsN b := by induction a <;> simp_all [kidsN, Nat.add_assoc]
theorem kidsN_step {l : List Nd} {i : Nat} {x : Nd} (h : l[i]? = some x) : kidsN (l.take (i + 1)) = kidsN (l.take i) + x.kids.length := by
  rw [List.take_add_one, h, kidsN_append]; simp [kidsN]
theorem kidsN_take (l : List Nd) (i : Nat) : kidsN (l.take i) ≤ kidsN l := by
  have := kidsN_append (l.take i) (l.drop i); rw [List.take_append_drop] at this; omega

theorem fitF_step {l : List Nd} {i : Nat} {x : Nd} {st : List Int} (h : l[i]? = some x) : fitF (l.drop i) i st = if formP x = true ∧ x.kids.length ≤ st.length ∧ st.drop (st.length - x.kids.length) = x.kids then fitF (l.drop (i + 1)) (i + 1) (st.take (st.length - x.kids.length) ++ [(i : Int)]) else false := by
  obtain ⟨hi, he⟩ := List.getElem?_eq_some_iff.1 h
  rw [List.drop_eq_getElem_cons hi, he, fitF]

end Go.Proofs.YtmbbhgglllfelaaDoor.K
