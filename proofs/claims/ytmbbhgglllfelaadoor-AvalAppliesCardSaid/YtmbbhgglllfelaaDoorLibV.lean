/- The library's functions of texts that chapter 14 calls. -/
import Derived.Test.YtmbbhgglllfelaaDoorGa
set_option linter.unusedVariables false
set_option linter.unusedSimpArgs false
set_option autoImplicit false
namespace Go.Proofs.YtmbbhgglllfelaaDoor.K
open Go Go.Proofs Go.RowKit
theorem TrimPrefix_spec (s p : Bytes) (w : World) : CallR Tryd.prog 12 #[S s, S p] w fun v w' => v = S (Lib.trimPrefix s p) ∧ Chg [] w w' :=
  CallR.of (Tryd.strings_TrimPrefix ⟨⟨s⟩⟩ ⟨⟨p⟩⟩ w) fun e w' ⟨h1, h2⟩ => ⟨_, h1, rfl, .refl' h2⟩
theorem TrimSuffix_spec (s p : Bytes) (w : World) (hs : s.length ≤ 9223372036854775807) : CallR Tryd.prog 58 #[S s, S p] w fun v w' => v = S (Lib.trimSuffix s p) ∧ Chg [] w w' :=
  CallR.of (Tryd.strings_TrimSuffix ⟨⟨s⟩⟩ ⟨⟨p⟩⟩ w hs) fun e w' ⟨h1, h2⟩ => ⟨_, h1, rfl, .refl' h2⟩
theorem Compare_spec (s p : Bytes) (w : World) : CallR Tryd.prog 71 #[S s, S p] w fun v w' => v = .int .i64 (Lib.compareBytes s p) ∧ Chg [] w w' :=
  CallR.of (Tryd.strings_Compare ⟨⟨s⟩⟩ ⟨⟨p⟩⟩ w) fun e w' ⟨h1, h2⟩ => ⟨_, h1, rfl, .refl' h2⟩
/-! ### the order of texts -/
theorem cmp_lt : ∀ a b : Bytes, (Lib.compareBytes a b < 0 ↔ Op.bytesLess a b = true) ∧ (Lib.compareBytes a b = 0 ↔ a = b)
  | [], [] => by simp [Lib.compareBytes, Op.bytesLess]
  | [], _ :: _ => by simp [Lib.compareBytes, Op.bytesLess]
  | _ :: _, [] => by simp [Lib.compareBytes, Op.bytesLess]
  | a :: x, b :: y => by
    obtain ⟨h1, h2⟩ := cmp_lt x y
    simp only [Lib.compareBytes, Op.bytesLess]
    by_cases e : a = b
    · subst e; simp [h1, h2]
    · by_cases l : a < b
      · simp [l, e]
      · have hb : b < a := by
          rcases UInt8.lt_or_le b a with h | h
          · exact h
          · exact absurd (UInt8.lt_of_le_of_ne h e) l
        simp [l, e, hb]
theorem less_irrefl : ∀ a : Bytes, Op.bytesLess a a = false
  | [] => rfl
  | a :: x => by simp [Op.bytesLess, less_irrefl x]
theorem less_trans : ∀ a b c : Bytes, Op.bytesLess a b = true → Op.bytesLess b c = true → Op.bytesLess a c = true
  | _, [], _, h, _ => by cases ‹Bytes› <;> simp [Op.bytesLess] at h
  | _, _ :: _, [], _, h => by simp [Op.bytesLess] at h
  | [], _ :: _, _ :: _, _, _ => rfl
  | a :: x, b :: y, c :: z, h1, h2 => by
    simp only [Op.bytesLess, Bool.or_eq_true, decide_eq_true_eq, Bool.and_eq_true, beq_iff_eq] at h1 h2 ⊢
    rcases h1 with h1 | ⟨h1, h3⟩ <;> rcases h2 with h2 | ⟨h2, h4⟩
    · exact .inl (UInt8.lt_trans h1 h2)
    · subst h2; exact .inl h1
    · subst h1; exact .inl h2
    · subst h1; subst h2; exact .inr ⟨rfl, less_trans x y z h3 h4⟩
theorem less_total : ∀ a b : Bytes, a ≠ b → Op.bytesLess a b = false → Op.bytesLess b a = true
  | [], [], h, _ => absurd rfl h
  | [], _ :: _, _, h => by simp [Op.bytesLess] at h
  | _ :: _, [], _, _ => rfl
  | a :: x, b :: y, h1, h2 => by
    simp only [Op.bytesLess, Bool.or_eq_false_iff, decide_eq_false_iff_not, Bool.and_eq_false_iff, Bool.or_eq_true, decide_eq_true_eq, Bool.and_eq_true, beq_iff_eq, beq_eq_false_iff_ne] at h2 ⊢
    by_cases e : a = b
    · subst e
      have h3 := h2.2.resolve_left (fun h => h rfl)
      exact .inr ⟨rfl, less_total x y (fun e => h1 (by rw [e])) h3⟩
    · exact .inl (by
        have := h2.1
        rcases UInt8.lt_or_le b a with h | h
        · exact h
        · exact absurd (UInt8.lt_of_le_of_ne h e) this)
end Go.Proofs.YtmbbhgglllfelaaDoor.K
