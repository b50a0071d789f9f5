/- Trees: their own operations, their kids, where they lie in a row. -/
import Derived.Test.YtmbbhgglllfelaaDoorTreeP
set_option linter.unusedVariables false
set_option linter.unusedSimpArgs false
set_option autoImplicit false
set_option maxRecDepth 20000
namespace Go.Proofs.YtmbbhgglllfelaaDoor.K
open Go Go.Proofs Go.RowKit
namespace Tr
/-- A tree's own operation. -/
def node : Tr → Nat → Nd
  | num n, _ => ⟨[35], n, [], []⟩
  | var s, _ => ⟨[36], 0, s, []⟩
  | asg o n t, b => ⟨o, 0, n, [t.root b]⟩
  | un o t, b => ⟨117 :: o, 0, [], [t.root b]⟩
  | cnd x y z, b => ⟨[63], 0, [], [x.root b, y.root (b + x.sz), z.root (b + x.sz + y.sz)]⟩
  | bin o x y, b => ⟨o, 0, [], [x.root b, y.root (b + x.sz)]⟩
/-- Its kids: each a tree, and where it begins. -/
def kidsT : Tr → Nat → List (Tr × Nat)
  | num _, _ => []
  | var _, _ => []
  | asg _ _ t, b => [(t, b)]
  | un _ t, b => [(t, b)]
  | cnd x y z, b => [(x, b), (y, b + x.sz), (z, b + x.sz + y.sz)]
  | bin _ x y, b => [(x, b), (y, b + x.sz)]
theorem node_kids (t : Tr) (b : Nat) : (t.node b).kids = (t.kidsT b).map fun c => c.1.root c.2 := by cases t <;> rfl
/-- A tree's row lies in a row, from a place on. -/
def SubAt (l : List Nd) (t : Tr) (b : Nat) : Prop := ∀ j x, (t.row b)[j]? = some x → l[b + j]? = some x
theorem SubAt.left {l : List Nd} {t : Tr} {b : Nat} {r s : List Nd} (h : ∀ j x, (r ++ s)[j]? = some x → l[b + j]? = some x) : ∀ j x, r[j]? = some x → l[b + j]? = some x := fun j x hj => h j x (by
  have := (List.getElem?_eq_some_iff.1 hj).1
  rw [List.getElem?_append_left this]; exact hj)
theorem SubAt.right {l : List Nd} {b : Nat} {r s : List Nd} {n : Nat} (hn : r.length = n) (h : ∀ j x, (r ++ s)[j]? = some x → l[b + j]? = some x) : ∀ j x, s[j]? = some x → l[b + n + j]? = some x := fun j x hj => by
  rw [Nat.add_assoc]
  refine h (n + j) x ?_
  rw [List.getElem?_append_right (by omega), show n + j - r.length = j by omega]; exact hj
theorem sub_node {l : List Nd} {t : Tr} {b : Nat} (h : SubAt l t b) : l[b + t.sz - 1]? = some (t.node b) := by
  have hp := t.sz_pos
  have : (t.row b)[t.sz - 1]? = some (t.node b) := by
    cases t with
    | num n => rfl
    | var s => rfl
    | asg o n t => simp only [row, sz, node]; rw [List.getElem?_append_right (by rw [row_len]; omega), row_len, show t.sz + 1 - 1 - t.sz = 0 by omega]; rfl
    | un o t => simp only [row, sz, node]; rw [List.getElem?_append_right (by rw [row_len]; omega), row_len, show t.sz + 1 - 1 - t.sz = 0 by omega]; rfl
    | cnd x y z =>
      simp only [row, sz, node]
      rw [List.getElem?_append_right (by rw [row_len]; omega), row_len, List.getElem?_append_right (by rw [row_len]; omega), row_len, List.getElem?_append_right (by rw [row_len]; omega), row_len, show x.sz + y.sz + z.sz + 1 - 1 - x.sz - y.sz - z.sz = 0 by omega]; rfl
    | bin o x y =>
      simp only [row, sz, node]
      rw [List.getElem?_append_right (by rw [row_len]; omega), row_len, List.getElem?_append_right (by rw [row_len]; omega), row_len, show x.sz + y.sz + 1 - 1 - x.sz - y.sz = 0 by omega]; rfl
  have h2 := h _ _ this
  rwa [show b + (t.sz - 1) = b + t.sz - 1 by omega] at h2
theorem sub_kid {l : List Nd} {t : Tr} {b : Nat} (h : SubAt l t b) (hok : t.ok) : ∀ c, c ∈ t.kidsT b → SubAt l c.1 c.2 ∧ c.1.sz < t.sz ∧ c.2 + c.1.sz ≤ b + t.sz ∧ c.1.ok ∧ lightN (c.1.row c.2) ≤ lightN (t.row b) := by
  intro c hc
  cases t with
  | num n => cases hc
  | var s => cases hc
  | asg o n t =>
    obtain rfl := List.mem_singleton.1 hc
    exact ⟨SubAt.left (t := t) h, by simp [sz], by simp [sz], hok.2.2, by simp only [row, lightN_append]; omega⟩
  | un o t =>
    obtain rfl := List.mem_singleton.1 hc
    exact ⟨SubAt.left (t := t) h, by simp [sz], by simp [sz], hok.2, by simp only [row, lightN_append]; omega⟩
  | cnd x y z =>
    simp only [kidsT, List.mem_cons, List.not_mem_nil, or_false] at hc
    have hy := SubAt.right (row_len x b) h
    rcases hc with rfl | rfl | rfl
    · exact ⟨SubAt.left (t := x) h, by simp only [sz]; omega, by simp only [sz]; omega, hok.1, by simp only [row, lightN_append]; omega⟩
    · exact ⟨SubAt.left (t := y) hy, by simp only [sz]; omega, by simp only [sz]; omega, hok.2.1, by simp only [row, lightN_append]; omega⟩
    · exact ⟨SubAt.left (t := z) (SubAt.right (row_len y _) hy), by simp only [sz]; omega, by simp only [sz]; omega, hok.2.2, by simp only [row, lightN_append]; omega⟩
  | bin o x y =>
    simp only [kidsT, List.mem_cons, List.not_mem_nil, or_false] at hc
    have hy := SubAt.right (row_len x b) h
    rcases hc with rfl | rfl
    · exact ⟨SubAt.left (t := x) h, by simp only [sz]; omega, by simp only [sz]; omega, hok.2.1, by simp only [row, lightN_append]; omega⟩
    · exact ⟨SubAt.left (t := y) hy, by simp only [sz]; omega, by simp only [sz]; omega, hok.2.2, by simp only [row, lightN_append]; omega⟩
end Tr
end Go.Proofs.YtmbbhgglllfelaaDoor.K
