/- Walks: names as tokens. -/
import Derived.Test.YtmbbhgglllfelaaDoorBh
import Derived.Test.YtmbbhgglllfelaaDoorKitM
set_option linter.unusedVariables false
set_option linter.unusedSimpArgs false
set_option autoImplicit false
set_option maxRecDepth 20000
namespace Go.Proofs.YtmbbhgglllfelaaDoor.K
open Go Go.Proofs Go.RowKit

theorem runN_app {p : UInt8 → Bool} {s t : Bytes} (h : s.all p = true) : runN p (s ++ t) = s.length + runN p t := by
  induction s with
  | nil => simp
  | cons c s ih =>
    simp only [List.all_cons, Bool.and_eq_true] at h
    simp only [List.cons_append, runN, if_pos h.1, ih h.2, List.length_cons]; omega
theorem beg_word {c : UInt8} (h : begB c = true) : wordB c = true := by unfold wordB; rw [h, Bool.true_or]
theorem beg_dig {c : UInt8} (h : begB c = true) : digB c = false := by
  simp only [begB, alphaB, upB, loB, digB, Bool.or_eq_true, decide_eq_true_eq, decide_eq_false_iff_not] at *; omega
theorem beg_blank {c : UInt8} (h : begB c = true) : blankB c = false := by
  simp only [begB, alphaB, upB, loB, blankB, Bool.or_eq_true, decide_eq_true_eq, Bool.or_eq_false_iff, decide_eq_false_iff_not] at *; omega
theorem byte_app {a b : Bytes} {i : Nat} (h : a.length = i) : byte (a ++ b) i = byte b 0 := by
  subst h; simp [byte, List.getD_eq_getElem?_getD, List.getElem?_append_right]
theorem drop_app' {a b : Bytes} {i : Nat} (h : a.length = i) : (a ++ b).drop i = b := by subst h; simp
/-- A token at a place: what stands before it, and what the rest is. -/
theorem toksF_at {a b : Bytes} {k n : Nat} {t : Int × Int × Bytes} (hb : b ≠ []) (h : blankB (byte b 0) = false) (hn : nextV b = (t, (n : Int), 0)) (ht : ¬ t.1 = 0) : toksF (k + 1) (a ++ b) a.length = (t, (a.length : Int), 0) :: toksF k (a ++ b) (a.length + n) :=
  toksF_tok (by have := List.length_pos_iff.2 hb; simp; omega) (by rw [byte_app rfl]; exact h) (by rw [drop_app' rfl]; exact hn) ht
theorem toksF_at' {s a b : Bytes} {i k n : Nat} {t : Int × Int × Bytes} (hs : s = a ++ b) (hi : a.length = i) (hb : b ≠ []) (h : blankB (byte b 0) = false) (hn : nextV b = (t, (n : Int), 0)) (ht : ¬ t.1 = 0) : toksF (k + 1) s i = (t, (i : Int), 0) :: toksF k s (i + n) := by
  subst hs; subst hi; exact toksF_at hb h hn ht
theorem nameV_cons {s : Bytes} (h : nameV s = true) : ∃ c r, s = c :: r ∧ begB c = true ∧ s.all wordB = true := by
  cases s with
  | nil => cases h
  | cons c r =>
    simp only [nameV, Bool.and_eq_true] at h
    exact ⟨c, r, rfl, h.1, by rw [List.all_cons, beg_word h.1, h.2]; rfl⟩
theorem next_name' {s t : Bytes} (h : nameV s = true) (ht : runN wordB t = 0) : nextV (s ++ t) = ((2, 0, s), ((s.length : Nat) : Int), 0) := by
  obtain ⟨c, r, rfl, h1, h2⟩ := nameV_cons h
  have hr := runN_app (t := t) h2
  rw [ht, Nat.add_zero] at hr
  have := next_name (s := c :: r ++ t) (i := 0) (W := (c :: r ++ t).take ((c :: r).length)) (by simp) (beg_dig h1) h1 (by rw [List.drop_zero, hr])
  rw [List.drop_zero, hr] at this
  rw [this]; simp
theorem names_one {s : Bytes} (h : nameV s = true) : tokV (toksF (s.length + 1) s 0) = ([((2, 0, s), 0), ((0, 0, []), (s.length : Int))], 0, 0) := by
  obtain ⟨c, r, e, h1, h2⟩ := nameV_cons h
  have hn := next_name' (t := []) h rfl
  rw [List.append_nil] at hn
  have hl : 0 < s.length := by rw [e]; simp
  obtain ⟨m, hm⟩ : ∃ m, s.length = m + 1 := ⟨s.length - 1, by omega⟩
  have ht := toksF_at' (s := s) (a := []) (b := s) (i := 0) (k := m + 1) rfl rfl (by rw [e]; simp) (by rw [e]; exact beg_blank h1) hn (by simp)
  have hz := toksF_end s m
  rw [hm] at ht hz ⊢
  rw [ht, Nat.zero_add, hz]
  rfl
def tailB : Bytes := [60, 60, 48, 120, 49, 102]
theorem names_two {s : Bytes} (h : nameV s = true) : tokV (toksF ((([55, 43] ++ s) ++ tailB).length + 1) (([55, 43] ++ s) ++ tailB) 0) = ([((1, 7, []), 0), ((3, 0, [43]), 1), ((2, 0, s), 2), ((3, 0, [60, 60]), ((2 + s.length : Nat) : Int)), ((1, 31, []), ((2 + s.length + 2 : Nat) : Int)), ((0, 0, []), ((2 + s.length + 6 : Nat) : Int))], 0, 0) := by
  obtain ⟨c, r, e, h1, h2⟩ := nameV_cons h
  obtain ⟨T, hT⟩ : ∃ T, T = ([55, 43] ++ s) ++ tailB := ⟨_, rfl⟩
  have hl : T.length = 2 + s.length + 6 := by rw [hT]; simp [tailB]; omega
  rw [← hT]
  have c61 : ¬ 61 = c := fun e2 => by subst e2; revert h1; decide
  have c61b : ((61 : UInt8) == c) = false := by simpa using c61
  have n1 : nextV ([55, 43] ++ s ++ tailB) = ((1, 7, []), ((1 : Nat) : Int), 0) :=
    next_num (i := 0) (W := [55]) (by simp) rfl rfl (by kernel_rfl)
  have o2 : opV (43 :: (s ++ tailB)) = [43] := by
    rw [e]; simp [opV, opsL, Lib.hasPrefix, List.isPrefixOf, List.find?, c61b]
  have n2 : nextV (43 :: (s ++ tailB)) = ((3, 0, [43]), ((1 : Nat) : Int), 0) := by
    have := next_op (s := 43 :: (s ++ tailB)) (i := 0) (by simp) rfl rfl (by rw [List.drop_zero, o2]; simp)
    rw [List.drop_zero, o2] at this; exact this
  have n3 : nextV (s ++ tailB) = ((2, 0, s), ((s.length : Nat) : Int), 0) := next_name' h rfl
  have n4 : nextV tailB = ((3, 0, [60, 60]), ((2 : Nat) : Int), 0) := by kernel_rfl
  have n5 : nextV [48, 120, 49, 102] = ((1, 31, []), ((4 : Nat) : Int), 0) := by kernel_rfl
  obtain ⟨m, hm⟩ : ∃ m, T.length + 1 = m + 6 := ⟨T.length - 5, by omega⟩
  have t1 := toksF_at' (s := T) (a := []) (b := [55, 43] ++ s ++ tailB) (i := 0) (k := m + 5) hT rfl (by simp) rfl n1 (by simp)
  have t2 := toksF_at' (s := T) (a := [55]) (b := 43 :: (s ++ tailB)) (i := 1) (k := m + 4) (by rw [hT]; simp) rfl (by simp) rfl n2 (by simp)
  have t3 := toksF_at' (s := T) (a := [55, 43]) (b := s ++ tailB) (i := 2) (k := m + 3) (by rw [hT]; simp) rfl (by rw [e]; simp) (by rw [e]; exact beg_blank h1) n3 (by simp)
  have t4 := toksF_at' (s := T) (a := [55, 43] ++ s) (b := tailB) (i := 2 + s.length) (k := m + 2) hT (by simp; omega) (by simp [tailB]) (by decide) n4 (by simp)
  have t5 := toksF_at' (s := T) (a := [55, 43] ++ s ++ [60, 60]) (b := [48, 120, 49, 102]) (i := 2 + s.length + 2) (k := m + 1) (by rw [hT]; simp [tailB]) (by simp; omega) (by simp) (by decide) n5 (by simp)
  have t6 := toksF_end T m
  rw [hl] at t6
  rw [hm, t1, Nat.zero_add, t2, t3, t4, t5, t6]
  rfl


end Go.Proofs.YtmbbhgglllfelaaDoor.K
