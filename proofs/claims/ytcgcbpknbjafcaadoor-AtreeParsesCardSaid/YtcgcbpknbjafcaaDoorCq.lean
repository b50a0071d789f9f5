/- The laws AtreeBack and AtreeFit. -/
import Derived.Test.YtcgcbpknbjafcaaDoorCj
import Derived.Test.YtcgcbpknbjafcaaDoorTreeR
set_option linter.unusedVariables false
set_option linter.unusedSimpArgs false
set_option autoImplicit false
set_option maxRecDepth 20000
namespace Go.Proofs.YtcgcbpknbjafcaaDoor.K
open Go Go.Proofs Go.RowKit

theorem lightN_le {N : Nat} : ∀ l : List Nd, (∀ x, x ∈ l → x.name.length ≤ N) → lightN l ≤ l.length * (N + 30)
  | [], _ => Nat.zero_le _
  | x :: l, h => by
    have h1 := lightN_le l (fun y hy => h y (by simp [hy]))
    have h2 := h x (by simp)
    rw [lightN, List.length_cons, Nat.add_mul]; omega
theorem light_few {l : List Nd} (hK : ∀ x, x ∈ l → x.kids.length ≤ 140737488355328 ∧ x.name.length ≤ 140737488355328) (h : l.length ≤ 1100) : lightN l ≤ 4611686018427387904 := by
  have h1 := lightN_le l (N := 140737488355328) (fun x hx => (hK x hx).2)
  have h2 := Nat.mul_le_mul_right (140737488355328 + 30) h
  omega
theorem few_len {l : List Nd} (h : fewN l = true) : l.length ≤ 1100 := by unfold fewN at h; simp only [Bool.and_eq_true, decide_eq_true_eq] at h; exact h.1
/-- A fit row's text is read as it, or is too deep. -/
theorem back_law {l : List Nd} (hn : ∀ x, x ∈ l → x.num ≤ 9223372036854775807 ∧ x.name.length ≤ 140737488355328) (hf : fitV l = true) : (printV l).length ≤ lightN l ∧ (((parseV (printV l) (toksF ((printV l).length + 1) (printV l) 0)).2.2 = 0 ∧ (parseV (printV l) (toksF ((printV l).length + 1) (printV l) 0)).1 = l) ∨ (parseV (printV l) (toksF ((printV l).length + 1) (printV l) 0)).2.2 = 104) := by
  obtain ⟨t, h1, h2, h3⟩ := fitV_tree hn hf
  have hp : printV l = str t := by rw [h2]; exact printV_tree h1
  rw [hp]
  refine ⟨by rw [h2]; exact str_len t 0 h1, ?_⟩
  rcases parse_str h1 h3 rfl with e | ⟨a, e⟩
  · rw [e]; exact .inl ⟨rfl, h2.symm⟩
  · rw [e]; exact .inr rfl

/-- What is read is fit, and not too long to be asked about. -/
theorem fit_law {s : Bytes} (hs : s.length ≤ 140737488355328) : ((parseV s (toksF (s.length + 1) s 0)).2.2 ≠ 0 ∧ (parseV s (toksF (s.length + 1) s 0)).1 = []) ∨ ((parseV s (toksF (s.length + 1) s 0)).2.2 = 0 ∧ fitV (parseV s (toksF (s.length + 1) s 0)).1 = true ∧ (parseV s (toksF (s.length + 1) s 0)).1.length ≤ 1000 ∧ (∀ x, x ∈ (parseV s (toksF (s.length + 1) s 0)).1 → x.kids.length ≤ 140737488355328 ∧ x.name.length ≤ 140737488355328) ∧ ∀ x, x ∈ (parseV s (toksF (s.length + 1) s 0)).1 → x.num ≤ 9223372036854775807) := by
  rcases parse_tree hs rfl with h | ⟨h1, t, h2, h3, h4⟩
  · exact .inl h
  · refine .inr ⟨h1, ?_⟩
    rw [h4]
    exact ⟨tree_fitV h2 h3, by rw [Tr.row_len]; exact h3, fun x hx => ⟨Nat.le_trans (tree_kids t 0 x hx) (by omega), tree_name t 0 h2 x hx⟩, tree_num t 0 h2⟩

end Go.Proofs.YtcgcbpknbjafcaaDoor.K
