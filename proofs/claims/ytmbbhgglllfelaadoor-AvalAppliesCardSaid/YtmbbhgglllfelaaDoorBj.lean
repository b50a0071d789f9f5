/- Walks: numbers written and read. -/
import Derived.Test.YtmbbhgglllfelaaDoorBi
import Derived.Test.YtmbbhgglllfelaaDoorKitM
set_option linter.unusedVariables false
set_option linter.unusedSimpArgs false
set_option autoImplicit false
set_option maxRecDepth 20000
namespace Go.Proofs.YtmbbhgglllfelaaDoor.K
open Go Go.Proofs Go.RowKit

/-- Digits. -/
def hexB : Bytes := [48, 49, 50, 51, 52, 53, 54, 55, 56, 57, 97, 98, 99, 100, 101, 102]
def digC (d : Nat) : UInt8 := byte hexB d
theorem digC_all : ((List.range 16).all fun d => decide (digV (digC d) = (d : Int)) && wordB (digC d) && decide ((digC d).toNat < 128) && decide (digC d ≠ 120) && decide (digC d ≠ 88) && (decide (10 ≤ d) || digB (digC d)) && (decide (d = 0) || decide (digC d ≠ 48))) = true := by kernel_rfl
theorem digC_at {d : Nat} (h : d < 16) : digV (digC d) = d ∧ wordB (digC d) = true ∧ (digC d).toNat < 128 ∧ digC d ≠ 120 ∧ digC d ≠ 88 ∧ (d < 10 → digB (digC d) = true) ∧ (d ≠ 0 → digC d ≠ 48) := by
  have h2 := List.all_eq_true.1 digC_all d (List.mem_range.2 h)
  simp only [Bool.and_eq_true, Bool.or_eq_true, decide_eq_true_eq] at h2
  obtain ⟨⟨⟨⟨⟨⟨a1, a2⟩, a3⟩, a4⟩, a5⟩, a6⟩, a7⟩ := h2
  exact ⟨a1, a2, a3, a4, a5, fun h => a6.resolve_left (by omega), fun h => a7.resolve_left h⟩
def valN (b acc : Nat) (s : Bytes) : Nat := s.foldl (fun a c => a * b + (digV c).toNat) acc
def allD (b : Nat) (s : Bytes) : Prop := ∀ c, c ∈ s → ∃ d, d < b ∧ c = digC d
theorem valN_cons (b acc : Nat) (c : UInt8) (s : Bytes) : valN b acc (c :: s) = valN b (acc * b + (digV c).toNat) s := rfl
theorem valN_acc (b : Nat) : ∀ (s : Bytes) (acc : Nat), valN b acc s = acc * b ^ s.length + valN b 0 s
  | [], acc => by simp [valN]
  | c :: s, acc => by
    rw [valN_cons, valN_cons, valN_acc b s (acc * b + _), valN_acc b s (0 * b + _), List.length_cons, Nat.pow_succ, Nat.add_mul, Nat.zero_mul, Nat.zero_add, Nat.mul_assoc, Nat.mul_comm b]
    omega
theorem readN_val {b : Nat} (hb : 2 ≤ b) (hb2 : b ≤ 16) : ∀ (s : Bytes) (acc : Nat), allD b s → valN b acc s ≤ 9223372036854775807 → readN b acc s = some ((valN b acc s : Nat) : Int)
  | [], acc, _, _ => rfl
  | c :: s, acc, hd, hm => by
    obtain ⟨d, h1, h2⟩ := hd c (by simp)
    have hv := (digC_at (d := d) (by omega)).1
    rw [← h2] at hv
    have hle : acc * b + d ≤ 9223372036854775807 := by
      rw [valN_cons, valN_acc, hv, Int.toNat_natCast] at hm
      have : 1 ≤ b ^ s.length := Nat.one_le_pow _ _ (by omega)
      have := Nat.mul_le_mul_left (acc * b + d) this
      omega
    have ih := readN_val hb hb2 s (acc * b + d) (fun x hx => hd x (by simp [hx])) (by rw [valN_cons, hv, Int.toNat_natCast] at hm; exact hm)
    rw [readN, hv, if_neg, valN_cons, hv, Int.toNat_natCast, ← ih]
    · congr 1
    · rintro (h | h | h)
      · omega
      · omega
      · rw [Int.tdiv_eq_ediv_of_nonneg (by omega)] at h
        have h3 : (acc : Int) ≤ (9223372036854775807 - (d : Int)) / (b : Int) := (Int.le_ediv_iff_mul_le (by omega)).2 (by
          have h4 : ((acc * b : Nat) : Int) + d ≤ 9223372036854775807 := by omega
          rw [Int.natCast_mul] at h4; omega)
        omega
theorem allD_cons {b d : Nat} {s : Bytes} (h : allD b s) (hd : d < b) : allD b (digC d :: s) := fun c hc => by
  rcases List.mem_cons.1 hc with rfl | hc
  · exact ⟨d, hd, rfl⟩
  · exact h c hc
theorem allD_word {b : Nat} {s : Bytes} (hb : b ≤ 16) (h : allD b s) : s.all wordB = true := List.all_eq_true.2 fun c hc => by
  obtain ⟨d, h1, rfl⟩ := h c hc
  exact (digC_at (by omega)).2.1
/-- What the loop that writes the digits keeps. -/
def NumI (b n m : Nat) (s : Bytes) : Prop := valN b 0 s + m * b ^ s.length = n ∧ allD b s ∧ m * 2 ^ s.length ≤ n ∧ s.length ≤ 64 ∧ (m = 0 → s ≠ [] → (s = [48] ∧ n = 0) ∨ byte s 0 ≠ 48) ∧ (s = [] → m = n)
theorem NumI.start (b n : Nat) : NumI b n n [] := ⟨by simp [valN], fun c hc => (by cases hc), by simp, by simp, fun _ h => absurd rfl h, fun _ => rfl⟩
theorem NumI.step {b n m : Nat} {s : Bytes} (hb : 2 ≤ b) (hb2 : b ≤ 16) (hn : n ≤ 9223372036854775807) (h : NumI b n m s) (hc : 0 < m ∨ s = []) : NumI b n (m / b) (digC (m % b) :: s) := by
  obtain ⟨h1, h2, h3, h4, h5, h6⟩ := h
  have hmb : m % b < b := Nat.mod_lt _ (by omega)
  have hd := digC_at (d := m % b) (by omega)
  have hdm := Nat.div_add_mod m b
  refine ⟨?_, allD_cons h2 hmb, ?_, ?_, ?_, fun h => by cases h⟩
  · rw [valN_cons, valN_acc, hd.1, Int.toNat_natCast, List.length_cons, Nat.pow_succ, Nat.zero_mul, Nat.zero_add]
    rw [← h1]
    have e : m * b ^ s.length = m % b * b ^ s.length + m / b * (b ^ s.length * b) := by
      conv => lhs; rw [← hdm]
      rw [Nat.add_mul, Nat.mul_comm b (m / b), Nat.mul_assoc, Nat.mul_comm b]; omega
    omega
  · rw [List.length_cons, Nat.pow_succ]
    have h7 : m / b ≤ m / 2 := Nat.div_le_div_left hb (by omega)
    have h8 : m / 2 * (2 ^ s.length * 2) ≤ m * 2 ^ s.length := by
      rw [Nat.mul_comm (2 ^ s.length) 2, ← Nat.mul_assoc]
      exact Nat.mul_le_mul_right _ (Nat.div_mul_le_self m 2)
    exact Nat.le_trans (Nat.mul_le_mul_right _ h7) (Nat.le_trans h8 h3)
  · rcases hc with hc | hc
    · have h7 : 2 ^ s.length ≤ n := Nat.le_trans (Nat.le_mul_of_pos_left _ hc) h3
      have h8 : 2 ^ s.length < 2 ^ 63 := by have : (2 : Nat) ^ 63 = 9223372036854775808 := rfl; omega
      have := (Nat.pow_lt_pow_iff_right (by omega : 1 < 2)).1 h8
      simp only [List.length_cons]; omega
    · subst hc; simp
  · intro hm _
    have hlt : m < b := (Nat.div_eq_zero_iff_lt (by omega)).1 hm
    rw [Nat.mod_eq_of_lt hlt] at *
    by_cases h0 : m = 0
    · subst h0
      have hs : s = [] := hc.resolve_left (by omega)
      subst hs
      exact .inl ⟨rfl, (h6 rfl).symm⟩
    · right; show digC m ≠ 48; exact hd.2.2.2.2.2.2 h0
theorem NumI.val {b n : Nat} {s : Bytes} (h : NumI b n 0 s) : valN b 0 s = n := by have := h.1; omega
theorem number_one {T : Bytes} {n : Int} (hc : constV T = (n, true)) (hT : T ≠ []) (hd : digB (byte T 0) = true) (hw : T.all wordB = true) : tokV (toksF (T.length + 1) T 0) = ([((1, n, []), 0), ((0, 0, []), (T.length : Int))], 0, 0) := by
  have hr := runN_app (t := []) hw
  rw [List.append_nil] at hr
  have hr2 : runN wordB T = T.length := by rw [hr]; rfl
  have hp := List.length_pos_iff.2 hT
  have hn : nextV T = ((1, n, []), ((T.length : Nat) : Int), 0) := by
    have := next_num (s := T) (i := 0) (W := T) hp hd (by rw [List.drop_zero, hr2, List.take_length]) (by rw [hc])
    rw [List.drop_zero, hr2, hc] at this; exact this
  have hbl : blankB (byte T 0) = false := by
    simp only [digB, blankB, decide_eq_true_eq, Bool.or_eq_false_iff, decide_eq_false_iff_not] at *; omega
  obtain ⟨m, hm⟩ : ∃ m, T.length = m + 1 := ⟨T.length - 1, by omega⟩
  have ht := toksF_at' (s := T) (a := []) (b := T) (i := 0) (k := m + 1) rfl rfl hT hbl hn (by simp)
  have hz := toksF_end T m
  rw [hm] at ht hz ⊢
  rw [ht, Nat.zero_add, hz]
  rfl
theorem number_10 {n : Nat} {s : Bytes} (hn : n ≤ 9223372036854775807) (h : NumI 10 n 0 s) (hs : s ≠ []) : constV s = ((n : Int), true) ∧ digB (byte s 0) = true ∧ s.all wordB = true := by
  have hr := readN_val (b := 10) (by omega) (by omega) s 0 h.2.1 (by rw [h.val]; exact hn)
  rw [h.val] at hr
  have hcb : constB s = (10, s) := constB_10 (fun ⟨a, b⟩ => by
    rcases h.2.2.2.2.1 rfl hs with ⟨e, _⟩ | e
    · rw [e] at a; simp at a
    · exact e b)
  refine ⟨by rw [constV_some hcb hr, decide_eq_false hs]; rfl, ?_, allD_word (by omega) h.2.1⟩
  cases s with
  | nil => exact absurd rfl hs
  | cons c s =>
    obtain ⟨d, h1, h2⟩ := h.2.1 c (by simp)
    show digB c = true
    rw [h2]; exact (digC_at (by omega)).2.2.2.2.2.1 h1
theorem number_8 {n : Nat} {s : Bytes} (hn : n ≤ 9223372036854775807) (h : NumI 8 n 0 s) (hs : s ≠ []) : constV ([48] ++ s) = ((n : Int), true) ∧ digB (byte ([48] ++ s) 0) = true ∧ ([48] ++ s).all wordB = true := by
  have hr := readN_val (b := 8) (by omega) (by omega) s 0 h.2.1 (by rw [h.val]; exact hn)
  rw [h.val] at hr
  have hw := allD_word (by omega) h.2.1
  cases s with
  | nil => exact absurd rfl hs
  | cons c s =>
    obtain ⟨d, h1, h2⟩ := h.2.1 c (by simp)
    have hd := digC_at (d := d) (by omega)
    have hcb : constB ([48] ++ c :: s) = (8, c :: s) := constB_8 (by simp) rfl (by show ¬ c = 120; rw [h2]; exact hd.2.2.2.1) (by show ¬ c = 88; rw [h2]; exact hd.2.2.2.2.1)
    exact ⟨by rw [constV_some hcb hr, decide_eq_false hs]; rfl, rfl, by rw [List.all_append, hw]; rfl⟩
theorem number_16 {n : Nat} {s : Bytes} (hn : n ≤ 9223372036854775807) (h : NumI 16 n 0 s) (hs : s ≠ []) : constV ([48, 88] ++ s) = ((n : Int), true) ∧ digB (byte ([48, 88] ++ s) 0) = true ∧ ([48, 88] ++ s).all wordB = true := by
  have hr := readN_val (b := 16) (by omega) (by omega) s 0 h.2.1 (by rw [h.val]; exact hn)
  rw [h.val] at hr
  have hcb : constB ([48, 88] ++ s) = (16, s) := constB_16 (by simp) rfl (.inr rfl)
  exact ⟨by rw [constV_some hcb hr, decide_eq_false hs]; rfl, rfl, by rw [List.all_append, allD_word (by omega) h.2.1]; rfl⟩
def nE : Enc Nat := .flat 1 (fun x => [.int .u64 (x : Int)]) (by omega) (fun _ => rfl) (fun _ u hu => by simp at hu; subst hu; rfl)
def bases : List Nat := [10, 8, 16]
theorem bases_in {i x : Nat} (h : bases[i]? = some x) : x = 10 ∨ x = 8 ∨ x = 16 := by
  have := List.mem_of_getElem? h
  simpa [bases] using this

theorem nums_mu {m x : Nat} {z : Bytes} (hx : 2 ≤ x) (h : 0 < m ∨ z = []) : m / x + 0 < m + (if z = [] then 1 else 0) := by
  by_cases hm : m = 0
  · subst hm; rw [if_pos (h.resolve_left (by omega))]; simp
  · have := Nat.div_lt_self (by omega : 0 < m) (by omega : 1 < x)
    split <;> omega
theorem nums_le {b n m : Nat} {s : Bytes} (h : NumI b n m s) : m ≤ n := Nat.le_trans (Nat.le_mul_of_pos_right _ (Nat.pos_of_ne_zero (by simp))) h.2.2.1
theorem i64_of {n : Int} (h : (Lit.int .i64 n).wf = true) : -9223372036854775808 ≤ n ∧ n ≤ 9223372036854775807 := by
  simp [Lit.wf] at h
  have h2 : IntKind.i64.min = -9223372036854775808 := rfl
  have h3 : IntKind.i64.max = 9223372036854775807 := rfl
  omega


end Go.Proofs.YtmbbhgglllfelaaDoor.K
