/- Walks: numbers written and read. -/
import Derived.Test.YtcgcbpknbjafcaaDoorBi
import Derived.Test.YtcgcbpknbjafcaaDoorKitM
set_option linter.unusedVariables false
set_option linter.unusedSimpArgs false
set_option autoImplicit false
set_option maxRecDepth 20000
namespace Go.Proofs.YtcgcbpknbjafcaaDoor.K
open Go Go.Proofs Go.RowKit

/-- Digits. -/
def hexB : Bytes := [48, 49, 50, 51, 52, 53, 54, 55, 56, 57, 97, 98, 99, 100, 101, 102]
def digC (d : Nat) : UInt8 := byte hexB d
theorem digC_all : ((List.range 16).all fun d => decide (digV (digC d) = (d : Int)) && wordB (digC d) && decide ((digC d).toNat < 128) && decide (digC d ≠ 120) && decide (digC d ≠ 88) && (decide (10 ≤ d) || digB (digC d)) && (decide (d = 0) || decide (digC d ≠ 48))) = true := by kernel_rfl
theorem digC_at {d : Nat} (h : d < 16) : digV (digC d) = d ∧ wordB (digC d) = true ∧ (digC d).toNat < 128 ∧ digC d ≠ 120 ∧ digC d ≠ 88 ∧ (d < 10 → digB (digC d) = true) ∧ (d ≠ 0 → digC d ≠ 48) := by
  have h2 := List.all_eq_true.1 digC_all d (List.mem_range.2 h)
  simp only [Bool.and_eq_true, Bool.or_eq_true, decide_eq_true_eq] at h2
  obtain ⟨⟨⟨⟨⟨⟨a1, a2⟩, a3⟩, a4⟩, a5⟩, a6⟩, a7⟩ := h2
  exact ⟨a1, a2, a3, a4, a5, fun h => a6.resolve_left (by omega), fun h => a7.resolve_left h⟩
def valN (b acc : Nat) (s : Bytes) : Nat := s.foldl (fun a c => a * b + (digV c).toNat) acc
def allD (b : Nat) (s : Bytes) : Prop := ∀ c, c ∈ s → ∃ d, d < b ∧ c = digC d
theorem valN_cons (b acc : Nat) (c : UInt8) (s : Bytes) : valN b acc (c :: s) = valN b (acc * b + (digV c).toNat) s := rfl
theorem valN_acc (b : Nat) : ∀ (s : Bytes) (acc : Nat), valN b acc s = acc * b ^ s.length + valN b 0 s
  | [], acc => by simp [valN]
  | c :: s, acc => by
    rw [valN_cons, valN_cons, valN_acc b s (acc * b + _), valN_acc b s (0 * b + _), List.length_cons, Nat.pow_succ, Nat.add_mul, Nat.zero_mul, Nat.zero_add, Nat.mul_assoc, Nat.mul_comm b]
    omega
theorem readN_val {b : Nat} (hb : 2 ≤ b) (hb2 : b ≤ 16) : ∀ (s : Bytes) (acc : Nat), allD b s → valN b acc s ≤ 9223372036854775807 → readN b acc s = some ((valN b acc s : Nat) : Int)
  | [], acc, _, _ => rfl
  | c :: s, acc, hd, hm => by
    obtain ⟨d, h1, h2⟩ := hd c (by simp)
    have hv := (digC_at (d := d) (by omega)).1
    rw [← h2] at hv
    have hle : acc * b + d ≤ 9223372036854775807 := by
      rw [valN_cons, valN_acc, hv, Int.toNat_natCast] at hm
      have : 1 ≤ b ^ s.length := Nat.one_le_pow _ _ (by omega)
      have := Nat.mul_le_mul_left (acc * b + d) this
      omega
    have ih := readN_val hb hb2 s (acc * b + d) (fun x hx => hd x (by simp [hx])) (by rw [valN_cons, hv, Int.toNat_natCast] at hm; exact hm)
    rw [readN, hv, if_neg, valN_cons, hv, Int.toNat_natCast, ← ih]
    · congr 1
    · rintro (h | h | h)
      · omega
      · omega
      · rw [Int.tdiv_eq_ediv_of_nonneg (by omega)] at h
        have h3 : (acc : Int) ≤ (9223372036854775807 - (d : Int)) / (b : Int) := (Int.le_ediv_iff_mul_le (by omega)).2 (by
          have h4 : ((acc * b : Nat) : Int) + d ≤ 9223372036854775807 := by omega
          rw [Int.natCast_mul] at h4; omega)
        omega
theorem allD_cons {b d : Nat} {s : Bytes} (h : allD b s) (hd : d < b) : allD b (digC d :: s) := fun c hc => by
  rcases List.mem_cons.1 hc with rfl | hc
  · exact ⟨d, hd, rfl⟩
  · exact h c hc
theorem allD_word {b : Nat} {s : Bytes} (hb : b ≤ 16) (h : allD b s) : s.all wordB = true := List.all_eq_true.2 fun c hc => by
  obtain ⟨d, h1, rfl⟩ := h c hc
  exact (digC_at (by omega)).2.1
/-- What the loop that writes the digits keeps. -/
def NumI (b n m : Nat) (s : Bytes) : Prop := valN b 0 s + m * b ^ s.length = n ∧ allD b s ∧ m * 2 ^ s.length ≤ n ∧ s.length ≤ 64 ∧ (m = 0 → s ≠ [] → (s = [48] ∧ n = 0) ∨ byte s 0 ≠ 48) ∧ (s = [] → m = n)
theorem NumI.start (b n : Nat) : NumI b n n [] := ⟨by simp [valN], fun c hc => (by cases hc), by simp, by simp, fun _ h => absurd rfl h, fun _ => rfl⟩
theorem NumI.step {b n m : Nat} {s : Bytes} (hb : 2 ≤ b) (hb2 : b ≤ 16) (hn : n ≤ 9223372036854775807) (h : NumI b n m s) (hc : 0 < m ∨ s = []) : NumI b n (m / b) (digC (m % b) :: s) := by
  obtain ⟨h1, h2, h3, h4, h5, h6⟩ := h
  have hmb : m % b < b := Nat.mod_lt _ (by omega)
  have hd := digC_at (d := m % b) (by omega)
  have hdm := Nat.div_add_mod m b
  refine ⟨?_, allD_cons h2 hmb, ?_, ?_, ?_, fun h => by cases h⟩
  · rw [valN_cons, valN_acc, hd.1, Int.toNat_natCast, List.length_cons, Nat.pow_succ, Nat.zero_mul, Nat.zero_add]
    rw [← h1]
    have e : m * b ^ s.length = m % b * b ^ s.length + m / b * (b ^ s.length * b) := by
      conv => lhs; rw [← hdm]
      rw [Nat.add_mul, Nat.mul_comm b (m / b), Nat.mul_assoc, Nat.mul_comm b]; omega
    omega
  · rw [List.length_cons, Nat.pow_succ]
    have h7 : m / b ≤ m / 2 := Nat.div_le_div_left hb (by omega)
    have h8 : m / 2 * (2 ^ s.length * 2) ≤ m * 2 ^ s.length := by
      rw [Nat.mul_comm (2 ^ s.length) 2, ← Nat.mul_assoc]
      exact Nat.mul_le_mul_right _ (Nat.div_mul_le_self m 2)
    exact Nat.le_trans (Nat.mul_le_mul_right _ h7) (Nat.le_trans h8 h3)
  · rcases hc with hc | hc
    · have h7 : 2 ^ s.length ≤ n := Nat.le_trans (Nat.le_mul_of_pos_left _ hc) h3
      have h8 : 2 ^ s.length < 2 ^ 63 := by have : (2 : Nat) ^ 63 = 9223372036854775808 := rfl; omega
      have := (Nat.pow_lt_pow_iff_right (by omega : 1 < 2)).1 h8
      simp only [List.length_cons]; omega
    · subst hc; simp
  · intro hm _
    have hlt : m < b := (Nat.div_eq_zero_iff_lt (by omega)).1 hm
    rw [Nat.mod_eq_of_lt hlt] at *
    by_cases h0 : m = 0
    · subst h0
      have hs : s = [] := hc.resolve_left (by omega)
      subst hs
      exact .inl ⟨rfl, (h6 rfl).symm⟩
    · right; show digC m ≠ 48; exact hd.2.2.2.2.2.2 h0
theorem NumI.val {b n : Nat} {s : Bytes} (h : NumI b n 0 s) : valN b 0 s = n := by have := h.1; omega
theorem number_one {T : Bytes} {n : Int} (hc : constV T = (n, true)) (hT : T ≠ []) (hd : digB (byte T 0) = true) (hw : T.all wordB = true) : tokV (toksF (T.length + 1) T 0) = ([((1, n, []), 0), ((0, 0, []), (T.length : Int))], 0, 0) := by
  have hr := runN_app (t := []) hw
  rw [List.append_nil] at hr
  have hr2 : runN wordB T = T.length := by rw [hr]; rfl
  have hp := List.length_pos_iff.2 hT
  have hn : nextV T = ((1, n, []), ((T.length : Nat) : Int), 0) := by
    have := next_num (s := T) (i := 0) (W := T) hp hd (by rw [List.drop_zero, hr2, List.take_length]) (by rw [hc])
    rw [List.drop_zero, hr2, hc] at this; exact this
  have hbl : blankB (byte T 0) = false := by
    simp only [digB, blankB, decide_eq_true_eq, Bool.or_eq_false_iff, decide_eq_false_iff_not] at *; omega
  obtain ⟨m, hm⟩ : ∃ m, T.length = m + 1 := ⟨T.length - 1, by omega⟩
  have ht := toksF_at' (s := T) (a := []) (b := T) (i := 0) (k := m + 1) rfl rfl hT hbl hn (by simp)
  have hz := toksF_end T m
  rw [hm] at ht hz ⊢
  rw [ht, Nat.zero_add, hz]
  rfl
theorem number_10 {n : Nat} {s : Bytes} (hn : n ≤ 9223372036854775807) (h : NumI 10 n 0 s) (hs : s ≠ []) : constV s = ((n : Int), true) ∧ digB (byte s 0) = true ∧ s.all wordB = true := by
  have hr := readN_val (b := 10) (by omega) (by omega) s 0 h.2.1 (by rw [h.val]; exact hn)
  rw [h.val] at hr
  have hcb : constB s = (10, s) := constB_10 (fun ⟨a, b⟩ => by
    rcases h.2.2.2.2.1 rfl hs with ⟨e, _⟩ | e
    · rw [e] at a; simp at a
    · exact e b)
  refine ⟨by rw [constV_some hcb hr, decide_eq_false hs]; rfl, ?_, allD_word (by omega) h.2.1⟩
  cases s with
  | nil => exact absurd rfl hs
  | cons c s =>
    obtain ⟨d, h1, h2⟩ := h.2.1 c (by simp)
    show digB c = true
    rw [h2]; exact (digC_at (by omega)).2.2.2.2.2.1 h1
theorem number_8 {n : Nat} {s : Bytes} (hn : n ≤ 9223372036854775807) (h : NumI 8 n 0 s) (hs : s ≠ []) : constV ([48] ++ s) = ((n : Int), true) ∧ digB (byte ([48] ++ s) 0) = true ∧ ([48] ++ s).all wordB = true := by
  have hr := readN_val (b := 8) (by omega) (by omega) s 0 h.2.1 (by rw [h.val]; exact hn)
  rw [h.val] at hr
  have hw := allD_word (by omega) h.2.1
  cases s with
  | nil => exact absurd rfl hs
  | cons c s =>
    obtain ⟨d, h1, h2⟩ := h.2.1 c (by simp)
    have hd := digC_at (d := d) (by omega)
    have hcb : constB ([48] ++ c :: s) = (8, c :: s) := constB_8 (by simp) rfl (by show ¬ c = 120; rw [h2]; exact hd.2.2.2.1) (by show ¬ c = 88; rw [h2]; exact hd.2.2.2.2.1)
    exact ⟨by rw [constV_some hcb hr, decide_eq_false hs]; rfl, rfl, by rw [List.all_append, hw]; rfl⟩
theorem number_16 {n : Nat} {s : Bytes} (hn : n ≤ 9223372036854775807) (h : NumI 16 n 0 s) (hs : s ≠ []) : constV ([48, 88] ++ s) = ((n : Int), true) ∧ digB (byte ([48, 88] ++ s) 0) = true ∧ ([48, 88] ++ s).all wordB = true := by
  have hr := readN_val (b := 16) (by omega) (by omega) s 0 h.2.1 (by rw [h.val]; exact hn)
  rw [h.val] at hr
  have hcb : constB ([48, 88] ++ s) = (16, s) := constB_16 (by simp) rfl (.inr rfl)
  exact ⟨by rw [constV_some hcb hr, decide_eq_false hs]; rfl, rfl, by rw [List.all_append, allD_word (by omega) h.2.1]; rfl⟩
def nE : Enc Nat := .flat 1 (fun x => [.int .u64 (x : Int)]) (by omega) (fun _ => rfl) (fun _ u hu => by simp at hu; subst hu; rfl)
def bases : List Nat := [10, 8, 16]
theorem bases_in {i x : Nat} (h : bases[i]? = some x) : x = 10 ∨ x = 8 ∨ x = 16 := by
  have := List.mem_of_getElem? h
  simpa [bases] using this

theorem nums_mu {m x : Nat} {z : Bytes} (hx : 2 ≤ x) (h : 0 < m ∨ z = []) : m / x + 0 < m + (if z = [] then 1 else 0) := by
  by_cases hm : m = 0
  · subst hm; rw [if_pos (h.resolve_left (by omega))]; simp
  · have := Nat.div_lt_self (by omega : 0 < m) (by omega : 1 < x)
    split <;> omega
theorem nums_le {b n m : Nat} {s : Bytes} (h : NumI b n m s) : m ≤ n := Nat.le_trans (Nat.le_mul_of_pos_right _ (Nat.pos_of_ne_zero (by simp))) h.2.2.1
theorem i64_of {n : Int} (h : (Lit.int .i64 n).wf = true) : -9223372036854775808 ≤ n ∧ n ≤ 9223372036854775807 := by
  simp [Lit.wf] at h
  have h2 : IntKind.i64.min = -9223372036854775808 := rfl
  have h3 : IntKind.i64.max = 9223372036854775807 := rfl
  omega

theorem AtokNumbers_spec (n0 : Int) (w : World) (hn0 : (Lit.int .i64 n0).wf = true) (ht : Tab w) : CallR Tryd.prog 5 #[.int .i64 n0] w fun v w' => v = .bool true ∧ Chg [] w w' := by
 have hnr := i64_of hn0
 refine callR_of_wp (args := [_]) Tryd.func5 rfl (Nat.le_of_ble_eq_true rfl) ?_
 have HC : Chg [] w w := .refl _
 have ht1 := ht.lt
 refine x_seq ?_
 refine x_region rfl ?_
 refine w_plain rfl (st_assign (v := .bool _) rfl ?_)
 refine wops_nil ?_
 refine then_n ?_
 refine x_seq ?_
 refine x_seq ?_
 refine x_region rfl ?_
 refine w_plain rfl (st_move (v := .int _ _) rfl ?_)
 refine w_plain rfl (st_lss rfl rfl ?_)
 refine wops_nil ?_
 refine then_n ?_
 refine x_cond rfl (fun h0 => ?_) (fun h0 => ?_)
 ·skip
  try simp only [nm, ne_eq] at h0
  refine x_seq ?_
  refine x_region rfl ?_
  refine w_plain rfl (st_call (ags := []) rfl rfl T.ent11 rfl (awake_spec _ ht) ?_)
  rintro _ w1 ⟨rfl, c2⟩
  replace HC := HC.then c2
  replace ht := ht.tr0 c2
  refine w_plain rfl (st_assign (v := .bool _) rfl ?_)
  refine wops_nil ?_
  refine then_n ?_
  refine x_ret ?_
  refine then_r ?_
  refine ret_tmp (v := .bool _) rfl rfl ?_
  exact ⟨rfl, HC⟩
 ·skip
  try simp only [nm, ne_eq] at h0
  obtain ⟨n, rfl⟩ : ∃ n : Nat, n0 = (n : Int) := ⟨n0.toNat, by omega⟩
  refine x_skip ?_
  refine then_n ?_
  refine x_seq ?_
  refine x_seq ?_
  refine x_region rfl ?_
  refine w_plain rfl (st_lit (ps := [(0, .const (.int .u64 10)), (1, .const (.int .u64 8)), (2, .const (.int .u64 16))]) (vs := [.int _ _, .int _ _, .int _ _]) T.lit37 (by decide) rfl (by simp only [List.forall_mem_cons, List.not_mem_nil, false_imp_iff, implies_true, and_true]; exact ⟨rfl, rfl, rfl⟩) rfl ?_)
  intro b3 w4 e5 c6 hb7
  have ge_b3 : w.heap.size ≤ b3 := by rw [e5]; exact HC.size
  replace HC := HC.then c6
  replace ht := ht.tr0 c6
  clear e5
  refine w_plain rfl (st_len (ct := #[37]) (by rw [show ((#[37] : Array TypeId)[0]?).bind Tryd.prog.underlying = some (.slice 35) from T.u37]; rfl) rfl ?_)
  refine w_plain rfl (st_move (v := .int _ _) rfl ?_)
  refine wops_nil ?_
  refine then_n ?_
  refine x_block ?_
  have hbs : Sl nE w4 (fun k => k = b3) (some ⟨b3, 0, none⟩) bases := sl_lit bases (by decide) (show Blk _ _ (bases.flatMap fun (x : Nat) => [.int .u64 (x : Int)]) _ from hb7)
  refine x_loop (ι := Nat) [2, 4, 5, 6, 7, 8, 9, 10, 11, 17, 18, 19, 20, 21, 22, 23, 24, 25, 26, 27, 28, 29, 30, 31, 32, 33, 34, 35, 36, 37, 38, 39, 40, 41, 42, 43, 44, 45, 46, 47, 48, 49, 50, 51, 52, 53, 54, 55, 56, 57, 58, 59, 60, 61, 62, 63, 64, 65, 66, 67, 68, 69, 70, 71, 72, 73, 74, 75, 76, 77, 78, 79, 80, 81, 82, 83, 84, 85, 86, 87, 88, 89, 90] (fun i => [(17, .int .i64 (i : Int))]) (fun i W => (i ≤ bases.length) ∧ (Chg [] w W) ∧ (Tab W) ∧ (Sl nE W (fun k => k = b3) (some ⟨b3, 0, none⟩) bases)) (fun i => bases.length - i) 0 ?_ ?_ ?_
  · exact ⟨rfl, trivial⟩
  ·skip
   refine ⟨?_, HC, ht, hbs⟩
   exact Nat.zero_le _
  intro i G9 w8 ⟨hi, HC, ht, hbs⟩
  change wp _ _ _ _ _ (upds (over _ _ G9) [(17, .int .i64 (i : Int))]) _ _
  have h3b : bases.length = 3 := rfl
  refine x_seq ?_
  refine x_region rfl ?_
  refine w_plain rfl (st_lss rfl rfl ?_)
  refine wops_nil ?_
  refine then_n ?_
  refine x_seq ?_
  refine x_cond rfl (fun h1 => ?_) (fun h1 => ?_)
  ·skip
   try simp only [nm, ne_eq] at h1
   refine x_skip ?_
   refine then_n ?_
   refine x_seq ?_
   refine x_block ?_
   refine x_seq ?_
   refine x_region rfl ?_
   obtain ⟨x, hx10⟩ : ∃ zz, bases[i]? = some zz := ⟨_, List.getElem?_eq_getElem (by omega)⟩
   obtain ⟨lb15, _, vs14, hA11, hR13, hC12⟩ := hbs.at hx10
   obtain rfl : vs14 = [.int .u64 (x : Int)] := hR13
   refine w_plain rfl (st_indexAddr T.u37 T.size35 (congrArg (fun z => Value.slice z _ _) hA11) rfl (by omega) (by omega) ?_)
   refine w_plain rfl (st_load1 (v := .int _ _) T.one35 rfl (hC12.at (j := 0) rfl) ?_)
   refine w_plain rfl (st_assign (v := .int _ _) rfl ?_)
   refine wops_nil ?_
   refine then_n ?_
   refine x_seq ?_
   have hb3 := bases_in hx10
   have hb2 : 2 ≤ x ∧ x ≤ 16 := by omega
   refine x_region rfl ?_
   refine w_plain rfl (st_assign (v := S _) rfl ?_)
   refine wops_nil ?_
   refine then_n ?_
   refine x_seq ?_
   refine x_seq ?_
   refine x_region rfl ?_
   refine w_plain rfl (st_move (v := .int _ _) rfl ?_)
   refine w_plain rfl (st_convk T.u2 T.u35 rfl (by exact wrapu64_id (by omega) (by omega)) ?_)
   refine w_plain rfl (st_assign (v := .int _ _) rfl ?_)
   refine wops_nil ?_
   refine then_n ?_
   refine x_block ?_
   refine x_loop (ι := Nat × Bytes) [5, 6, 23, 24, 25, 26, 27, 28, 29, 30, 31, 32, 33, 34, 35, 36, 37, 38] (fun ⟨m, z⟩ => [(6, .int .u64 (m : Int)), (5, S z)]) (fun ⟨m, z⟩ W => (NumI x n m z) ∧ (Chg [] w W) ∧ (Tab W) ∧ (Sl nE W (fun k => k = b3) (some ⟨b3, 0, none⟩) bases)) (fun ⟨m, z⟩ => m + (if z = [] then 1 else 0)) (n, []) ?_ ?_ ?_
   · exact ⟨rfl, rfl, trivial⟩
   ·skip
    refine ⟨?_, HC, ht, hbs⟩
    exact NumI.start _ _
   intro ⟨m, z⟩ G17 w16 ⟨hnum, HC, ht, hbs⟩
   change wp _ _ _ _ _ (upds (over _ _ G17) [(6, .int .u64 (m : Int)), (5, S z)]) _ _
   refine x_seq ?_
   refine x_seq ?_
   refine x_region rfl ?_
   refine w_plain rfl (st_move (v := .int _ _) rfl ?_)
   refine w_plain rfl (st_gtr rfl rfl ?_)
   refine w_plain rfl (st_move (v := .bool _) rfl ?_)
   refine w_split (d := 25) rfl (fun g18 => ?_) (fun g18 => ?_)
   ·skip
    try simp only [nm, ne_eq] at g18
    refine w_no 2 25 false ?_
    refine w_no 2 25 false ?_
    refine w_plain rfl (st_pick (b := true) (v := .bool _) rfl rfl ?_)
    refine wops_nil ?_
    refine then_n ?_
    refine x_cond (t := true) rfl (fun h2 => ?_) (fun h2 => ?_)
    rotate_left
    · exact absurd h2 (by decide)
    have hmz : 0 < m ∨ z = [] := by first | exact .inr (by assumption) | exact .inl (by omega)
    have hmx : m % x < 16 := Nat.lt_of_lt_of_le (Nat.mod_lt _ (by omega)) hb2.2
    have hdx := digC_at hmx
    have h16 : List.length [(48 : UInt8), 49, 50, 51, 52, 53, 54, 55, 56, 57, 97, 98, 99, 100, 101, 102] = 16 := rfl
    have hrm : (m : Int).tmod (x : Int) = ((m % x : Nat) : Int) := by rw [Int.tmod_eq_emod_of_nonneg (by omega)]; exact (Int.natCast_emod m x).symm
    have hqm : IntKind.u64.wrap ((m : Int).tdiv (x : Int)) = ((m / x : Nat) : Int) := by have hml := nums_le hnum; rw [quou64 (by omega) (by omega) (by omega)]; exact (Int.natCast_ediv m x).symm
    have hzl := hnum.2.2.2.1
    have hnml : m ≤ n := nums_le hnum
    refine x_skip ?_
    refine then_n ?_
    refine x_seq ?_
    refine x_block ?_
    refine x_region rfl ?_
    refine w_plain rfl (st_move (v := .int _ _) rfl ?_)
    refine w_plain rfl (st_move (v := .int _ _) rfl ?_)
    refine w_plain rfl (st_remk rfl rfl (by omega) (by exact hrm) ?_)
    refine w_plain rfl (st_sidx T.u9 rfl rfl (by omega) (by omega) ?_)
    refine w_plain rfl (st_byteStr (c := digC (m % x)) T.u5 T.u9 rfl (by exact hdx.2.2.1) ?_)
    refine w_plain rfl (st_move (v := S _) rfl ?_)
    refine w_plain rfl (st_sadd rfl rfl (by (try simp only [List.length_append, List.length_cons, List.length_nil] at *); omega) ?_)
    refine w_plain rfl (st_assign (v := S _) rfl ?_)
    refine wops_nil ?_
    refine block_n ?_
    refine then_n ?_
    refine x_region rfl ?_
    refine w_plain rfl (st_move (v := .int _ _) rfl ?_)
    refine w_plain rfl (st_move (v := .int _ _) rfl ?_)
    refine w_plain rfl (st_quok rfl rfl (by omega) (by exact hqm) ?_)
    refine w_plain rfl (st_assign (v := .int _ _) rfl ?_)
    refine wops_nil ?_
    refine then_n ?_
    refine ⟨(m / x, digC (m % x) :: z), ?_, ?_, rfl, ⟨rfl, rfl, trivial⟩, ?_⟩
    ·skip
     refine ⟨?_, HC, ht, hbs⟩
     exact NumI.step hb2.1 hb2.2 (by omega) hnum hmz
    ·skip
     show m / x + (if digC (m % x) :: z = [] then 1 else 0) < m + (if z = [] then 1 else 0); rw [if_neg (by simp)]; exact nums_mu hb2.1 hmz
    repeat (first | exact agree_upds agree_over rfl | refine agree_upd ?_ rfl | refine agree_upds ?_ rfl | refine agree_over_sub ?_ rfl)
   ·skip
    try simp only [nm, ne_eq] at g18
    refine w_yes 2 25 false (st_move (v := S _) rfl ?_)
    refine w_yes 2 25 false (st_seql rfl rfl ?_)
    refine w_plain rfl (st_pick (b := false) (v := .bool _) rfl rfl ?_)
    refine wops_nil ?_
    refine then_n ?_
    refine x_cond rfl (fun h2 => ?_) (fun h2 => ?_)
    ·skip
     try simp only [nm, ne_eq] at h2
     have hmz : 0 < m ∨ z = [] := by first | exact .inr (by assumption) | exact .inl (by omega)
     have hmx : m % x < 16 := Nat.lt_of_lt_of_le (Nat.mod_lt _ (by omega)) hb2.2
     have hdx := digC_at hmx
     have h16 : List.length [(48 : UInt8), 49, 50, 51, 52, 53, 54, 55, 56, 57, 97, 98, 99, 100, 101, 102] = 16 := rfl
     have hrm : (m : Int).tmod (x : Int) = ((m % x : Nat) : Int) := by rw [Int.tmod_eq_emod_of_nonneg (by omega)]; exact (Int.natCast_emod m x).symm
     have hqm : IntKind.u64.wrap ((m : Int).tdiv (x : Int)) = ((m / x : Nat) : Int) := by have hml := nums_le hnum; rw [quou64 (by omega) (by omega) (by omega)]; exact (Int.natCast_ediv m x).symm
     have hzl := hnum.2.2.2.1
     have hnml : m ≤ n := nums_le hnum
     refine x_skip ?_
     refine then_n ?_
     refine x_seq ?_
     refine x_block ?_
     refine x_region rfl ?_
     refine w_plain rfl (st_move (v := .int _ _) rfl ?_)
     refine w_plain rfl (st_move (v := .int _ _) rfl ?_)
     refine w_plain rfl (st_remk rfl rfl (by omega) (by exact hrm) ?_)
     refine w_plain rfl (st_sidx T.u9 rfl rfl (by omega) (by omega) ?_)
     refine w_plain rfl (st_byteStr (c := digC (m % x)) T.u5 T.u9 rfl (by exact hdx.2.2.1) ?_)
     refine w_plain rfl (st_move (v := S _) rfl ?_)
     refine w_plain rfl (st_sadd rfl rfl (by (try simp only [List.length_append, List.length_cons, List.length_nil] at *); omega) ?_)
     refine w_plain rfl (st_assign (v := S _) rfl ?_)
     refine wops_nil ?_
     refine block_n ?_
     refine then_n ?_
     refine x_region rfl ?_
     refine w_plain rfl (st_move (v := .int _ _) rfl ?_)
     refine w_plain rfl (st_move (v := .int _ _) rfl ?_)
     refine w_plain rfl (st_quok rfl rfl (by omega) (by exact hqm) ?_)
     refine w_plain rfl (st_assign (v := .int _ _) rfl ?_)
     refine wops_nil ?_
     refine then_n ?_
     refine ⟨(m / x, digC (m % x) :: z), ?_, ?_, rfl, ⟨rfl, rfl, trivial⟩, ?_⟩
     ·skip
      refine ⟨?_, HC, ht, hbs⟩
      exact NumI.step hb2.1 hb2.2 (by omega) hnum hmz
     ·skip
      show m / x + (if digC (m % x) :: z = [] then 1 else 0) < m + (if z = [] then 1 else 0); rw [if_neg (by simp)]; exact nums_mu hb2.1 hmz
     repeat (first | exact agree_upds agree_over rfl | refine agree_upd ?_ rfl | refine agree_upds ?_ rfl | refine agree_over_sub ?_ rfl)
    ·skip
     try simp only [nm, ne_eq] at h2
     obtain rfl : m = 0 := by omega
     have hzne : z ≠ [] := by assumption
     have hzl := hnum.2.2.2.1
     refine x_exit ?_
     refine then_x ?_
     refine then_x ?_
     refine block_x ?_
     refine then_n ?_
     refine x_seq ?_
     refine x_seq ?_
     refine x_region rfl ?_
     refine w_plain rfl (st_move (v := .int _ _) rfl ?_)
     refine wops_nil ?_
     refine then_n ?_
     refine x_block ?_
     refine x_seq ?_
     refine x_region rfl ?_
     refine w_plain rfl (st_eql rfl rfl ?_)
     refine w_plain rfl (st_assign (v := .bool _) rfl ?_)
     refine wops_nil ?_
     refine then_n ?_
     refine x_cond rfl (fun h3 => ?_) (fun h3 => ?_)
     ·skip
      try simp only [nm, ne_eq] at h3
      obtain rfl : x = 8 := by omega
      obtain ⟨hcv, hcd, hcw⟩ := number_8 (n := n) (s := z) (by omega) hnum hzne
      have hTe := number_one hcv (by simp [hzne]) hcd hcw
      refine x_region rfl ?_
      refine w_plain rfl (st_move (v := S _) rfl ?_)
      refine w_plain rfl (st_sadd rfl rfl (by (try simp only [List.length_append, List.length_cons, List.length_nil] at *); omega) ?_)
      refine w_plain rfl (st_assign (v := S _) rfl ?_)
      refine wops_nil ?_
      refine block_n ?_
      refine then_n ?_
      refine x_seq ?_
      refine x_region rfl ?_
      refine w_plain rfl (st_move (v := S _) rfl ?_)
      refine w_plain rfl (st_call (ags := [_]) rfl rfl T.ent14 rfl (Constant_spec ([48] ++ z) _ (by first | omega | (simp only [List.length_append, List.length_cons, List.length_nil]; omega))) ?_)
      rintro _ w19 ⟨rfl, c20⟩
      rw [hcv]
      replace HC := HC.then c20
      replace ht := ht.tr0 c20
      replace hbs := hbs.tr0 c20
      refine w_plain rfl (st_move (v := .tuple ⟨[_, _]⟩) rfl ?_)
      refine w_plain rfl (st_extract (vs := [_, _]) (v := .int _ _) rfl rfl ?_)
      refine w_plain rfl (st_extract (vs := [_, _]) (v := .bool _) rfl rfl ?_)
      refine w_plain rfl (st_assign (v := .int _ _) rfl ?_)
      refine w_plain rfl (st_assign (v := .bool _) rfl ?_)
      refine wops_nil ?_
      refine then_n ?_
      refine x_seq ?_
      refine x_region rfl ?_
      refine w_plain rfl (st_move (v := S _) rfl ?_)
      refine w_plain rfl (st_call (ags := [_]) rfl rfl T.ent12 rfl (Tokens_spec ([48] ++ z) _ rfl (by first | omega | (simp only [List.length_append, List.length_cons, List.length_nil]; omega)) ht) ?_)
      rintro _ w21 ⟨A1, cap1, rfl, ho1, c22⟩
      rw [hTe] at ho1 ⊢
      have hs1 : Sl tkE w21 (fun k => w.heap.size ≤ k) A1 ([((1, (n : Int), []), 0), ((0, 0, []), (([48] ++ z).length : Int))] : List Tk) := (ho1.mono (D' := fun k => w.heap.size ≤ k) (fun k _ h => by have := HC.size; omega)).sl
      replace HC := HC.then c22
      replace ht := ht.tr0 c22
      replace hbs := hbs.tr0 c22
      refine w_plain rfl (st_move (v := .tuple ⟨[_, _, _]⟩) rfl ?_)
      refine w_plain rfl (st_extract (vs := [_, _, _]) (v := .slice _ _ _) rfl rfl ?_)
      refine w_plain rfl (st_extract (vs := [_, _, _]) (v := .int _ _) rfl rfl ?_)
      refine w_plain rfl (st_extract (vs := [_, _, _]) (v := .int _ _) rfl rfl ?_)
      refine w_plain rfl (st_assign (v := .slice _ _ _) rfl ?_)
      refine w_plain rfl (st_assign (v := .int _ _) rfl ?_)
      refine w_plain rfl (st_assign (v := .int _ _) rfl ?_)
      refine wops_nil ?_
      refine then_n ?_
      refine x_seq ?_
      refine x_region rfl ?_
      refine w_plain rfl (st_move (v := .int _ _) rfl ?_)
      refine w_plain rfl (st_move (v := .int _ _) rfl ?_)
      refine w_plain rfl (st_neq rfl rfl ?_)
      refine w_plain rfl (st_move (v := .bool _) rfl ?_)
      refine w_split (d := 62) rfl (fun g23 => ?_) (fun g23 => ?_)
      ·skip
       try simp only [nm, ne_eq] at g23
       simp at g23
      ·skip
       try simp only [nm, ne_eq] at g23
       refine w_yes 3 62 false (st_move (v := .bool _) rfl ?_)
       refine w_yes 3 62 false (st_not rfl ?_)
       refine w_plain rfl (st_pick (b := false) (v := .bool _) rfl rfl ?_)
       refine w_plain rfl (st_move (v := .bool _) rfl ?_)
       refine w_split (d := 66) rfl (fun g24 => ?_) (fun g24 => ?_)
       ·skip
        try simp only [nm, ne_eq] at g24
        simp at g24
       ·skip
        try simp only [nm, ne_eq] at g24
        refine w_yes 7 66 false (st_move (v := .int _ _) rfl ?_)
        refine w_yes 7 66 false (st_neq rfl rfl ?_)
        refine w_plain rfl (st_pick (b := false) (v := .bool _) rfl rfl ?_)
        refine w_plain rfl (st_move (v := .bool _) rfl ?_)
        refine w_split (d := 70) rfl (fun g25 => ?_) (fun g25 => ?_)
        ·skip
         try simp only [nm, ne_eq] at g25
         first | exact absurd rfl g25 | simp at g25
        ·skip
         try simp only [nm, ne_eq] at g25
         refine w_yes 11 70 false (st_move (v := .slice _ _ _) rfl ?_)
         refine w_yes 11 70 false (st_len (ct := #[23]) (by rw [show ((#[23] : Array TypeId)[0]?).bind Tryd.prog.underlying = some (.slice 34) from T.u23]; rfl) rfl ?_)
         refine w_yes 11 70 false (st_neq rfl rfl ?_)
         refine w_plain rfl (st_pick (b := false) (v := .bool _) rfl rfl ?_)
         refine w_plain rfl (st_move (v := .bool _) rfl ?_)
         refine w_split (d := 75) rfl (fun g26 => ?_) (fun g26 => ?_)
         ·skip
          try simp only [nm, ne_eq] at g26
          simp at g26
         ·skip
          try simp only [nm, ne_eq] at g26
          refine w_yes 16 75 false (st_move (v := .slice _ _ _) rfl ?_)
          obtain ⟨x27, hx28⟩ : ∃ zz, ([((1, (n : Int), []), 0), ((0, 0, []), (([48] ++ z).length : Int))] : List Tk)[0]? = some zz := ⟨_, List.getElem?_eq_getElem (by simp)⟩
          obtain ⟨lb33, _, vs32, hA29, hR31, hC30⟩ := hs1.at hx28
          obtain rfl : vs32 = tokC x27.1 x27.2 := hR31
          refine w_yes 16 75 false (st_indexAddr T.u23 T.size34 (congrArg (fun z => Value.slice z _ _) hA29) rfl (by omega) (by simp) ?_)
          refine w_yes 16 75 false (st_fieldAddr T.fld34_1 rfl ?_)
          refine w_yes 16 75 false (st_load1 (v := .int _ _) T.one2 rfl (hC30.at (j := 1) rfl) ?_)
          refine w_yes 16 75 false (st_move (v := .int _ _) rfl ?_)
          refine w_yes 16 75 false (st_neq rfl rfl ?_)
          refine w_plain rfl (st_pick (b := false) (v := .bool _) rfl rfl ?_)
          refine w_plain rfl (st_move (v := .bool _) rfl ?_)
          refine w_split (d := 83) rfl (fun g34 => ?_) (fun g34 => ?_)
          ·skip
           try simp only [nm, ne_eq] at g34
           have hxe := Option.some.inj ((hx28).symm.trans (show _ = some ((1, (n : Int), []), 0) from rfl))
           rw [hxe] at g34
           simp at g34
          ·skip
           try simp only [nm, ne_eq] at g34
           refine w_yes 24 83 false (st_move (v := .slice _ _ _) rfl ?_)
           obtain ⟨x35, hx36⟩ : ∃ zz, ([((1, (n : Int), []), 0), ((0, 0, []), (([48] ++ z).length : Int))] : List Tk)[0]? = some zz := ⟨_, List.getElem?_eq_getElem (by simp)⟩
           obtain ⟨lb41, _, vs40, hA37, hR39, hC38⟩ := hs1.at hx36
           obtain rfl : vs40 = tokC x35.1 x35.2 := hR39
           refine w_yes 24 83 false (st_indexAddr T.u23 T.size34 (congrArg (fun z => Value.slice z _ _) hA37) rfl (by omega) (by simp) ?_)
           refine w_yes 24 83 false (st_fieldAddr T.fld34_0 rfl ?_)
           refine w_yes 24 83 false (st_load1 (v := .int _ _) T.one3 rfl (hC38.at (j := 0) rfl) ?_)
           refine w_yes 24 83 false (st_neq rfl rfl ?_)
           refine w_plain rfl (st_pick (b := false) (v := .bool _) rfl rfl ?_)
           refine wops_nil ?_
           refine then_n ?_
           refine x_cond rfl (fun h5 => ?_) (fun h5 => ?_)
           ·skip
            try simp only [nm, ne_eq] at h5
            have hxe := Option.some.inj ((hx36).symm.trans (show _ = some ((1, (n : Int), []), 0) from rfl))
            rw [hxe] at h5
            simp at h5
           ·skip
            try simp only [nm, ne_eq] at h5
            refine x_skip ?_
            refine block_n ?_
            refine then_n ?_
            refine x_region rfl ?_
            refine w_plain rfl (st_addn rfl rfl (by constructor <;> omega) ?_)
            refine w_plain rfl (st_move (v := .int _ _) rfl ?_)
            refine wops_nil ?_
            refine then_n ?_
            refine ⟨i + 1, ?_, ?_, rfl, ⟨rfl, trivial⟩, ?_⟩
            ·skip
             refine ⟨?_, HC, ht, hbs⟩
             show i + 1 ≤ bases.length; omega
            ·skip
             show bases.length - (i + 1) < bases.length - i; omega
            repeat (first | exact agree_upds agree_over rfl | refine agree_upd ?_ rfl | refine agree_upds ?_ rfl | refine agree_over_sub ?_ rfl)
     ·skip
      try simp only [nm, ne_eq] at h3
      refine x_seq ?_
      refine x_region rfl ?_
      refine w_plain rfl (st_eql rfl rfl ?_)
      refine w_plain rfl (st_assign (v := .bool _) rfl ?_)
      refine wops_nil ?_
      refine then_n ?_
      refine x_cond rfl (fun h4 => ?_) (fun h4 => ?_)
      ·skip
       try simp only [nm, ne_eq] at h4
       obtain rfl : x = 16 := by omega
       obtain ⟨hcv, hcd, hcw⟩ := number_16 (n := n) (s := z) (by omega) hnum hzne
       have hTe := number_one hcv (by simp [hzne]) hcd hcw
       refine x_region rfl ?_
       refine w_plain rfl (st_move (v := S _) rfl ?_)
       refine w_plain rfl (st_sadd rfl rfl (by (try simp only [List.length_append, List.length_cons, List.length_nil] at *); omega) ?_)
       refine w_plain rfl (st_assign (v := S _) rfl ?_)
       refine wops_nil ?_
       refine block_n ?_
       refine then_n ?_
       refine x_seq ?_
       refine x_region rfl ?_
       refine w_plain rfl (st_move (v := S _) rfl ?_)
       refine w_plain rfl (st_call (ags := [_]) rfl rfl T.ent14 rfl (Constant_spec ([48, 88] ++ z) _ (by first | omega | (simp only [List.length_append, List.length_cons, List.length_nil]; omega))) ?_)
       rintro _ w42 ⟨rfl, c43⟩
       rw [hcv]
       replace HC := HC.then c43
       replace ht := ht.tr0 c43
       replace hbs := hbs.tr0 c43
       refine w_plain rfl (st_move (v := .tuple ⟨[_, _]⟩) rfl ?_)
       refine w_plain rfl (st_extract (vs := [_, _]) (v := .int _ _) rfl rfl ?_)
       refine w_plain rfl (st_extract (vs := [_, _]) (v := .bool _) rfl rfl ?_)
       refine w_plain rfl (st_assign (v := .int _ _) rfl ?_)
       refine w_plain rfl (st_assign (v := .bool _) rfl ?_)
       refine wops_nil ?_
       refine then_n ?_
       refine x_seq ?_
       refine x_region rfl ?_
       refine w_plain rfl (st_move (v := S _) rfl ?_)
       refine w_plain rfl (st_call (ags := [_]) rfl rfl T.ent12 rfl (Tokens_spec ([48, 88] ++ z) _ rfl (by first | omega | (simp only [List.length_append, List.length_cons, List.length_nil]; omega)) ht) ?_)
       rintro _ w44 ⟨A1, cap1, rfl, ho1, c45⟩
       rw [hTe] at ho1 ⊢
       have hs1 : Sl tkE w44 (fun k => w.heap.size ≤ k) A1 ([((1, (n : Int), []), 0), ((0, 0, []), (([48, 88] ++ z).length : Int))] : List Tk) := (ho1.mono (D' := fun k => w.heap.size ≤ k) (fun k _ h => by have := HC.size; omega)).sl
       replace HC := HC.then c45
       replace ht := ht.tr0 c45
       replace hbs := hbs.tr0 c45
       refine w_plain rfl (st_move (v := .tuple ⟨[_, _, _]⟩) rfl ?_)
       refine w_plain rfl (st_extract (vs := [_, _, _]) (v := .slice _ _ _) rfl rfl ?_)
       refine w_plain rfl (st_extract (vs := [_, _, _]) (v := .int _ _) rfl rfl ?_)
       refine w_plain rfl (st_extract (vs := [_, _, _]) (v := .int _ _) rfl rfl ?_)
       refine w_plain rfl (st_assign (v := .slice _ _ _) rfl ?_)
       refine w_plain rfl (st_assign (v := .int _ _) rfl ?_)
       refine w_plain rfl (st_assign (v := .int _ _) rfl ?_)
       refine wops_nil ?_
       refine then_n ?_
       refine x_seq ?_
       refine x_region rfl ?_
       refine w_plain rfl (st_move (v := .int _ _) rfl ?_)
       refine w_plain rfl (st_move (v := .int _ _) rfl ?_)
       refine w_plain rfl (st_neq rfl rfl ?_)
       refine w_plain rfl (st_move (v := .bool _) rfl ?_)
       refine w_split (d := 62) rfl (fun g46 => ?_) (fun g46 => ?_)
       ·skip
        try simp only [nm, ne_eq] at g46
        simp at g46
       ·skip
        try simp only [nm, ne_eq] at g46
        refine w_yes 3 62 false (st_move (v := .bool _) rfl ?_)
        refine w_yes 3 62 false (st_not rfl ?_)
        refine w_plain rfl (st_pick (b := false) (v := .bool _) rfl rfl ?_)
        refine w_plain rfl (st_move (v := .bool _) rfl ?_)
        refine w_split (d := 66) rfl (fun g47 => ?_) (fun g47 => ?_)
        ·skip
         try simp only [nm, ne_eq] at g47
         simp at g47
        ·skip
         try simp only [nm, ne_eq] at g47
         refine w_yes 7 66 false (st_move (v := .int _ _) rfl ?_)
         refine w_yes 7 66 false (st_neq rfl rfl ?_)
         refine w_plain rfl (st_pick (b := false) (v := .bool _) rfl rfl ?_)
         refine w_plain rfl (st_move (v := .bool _) rfl ?_)
         refine w_split (d := 70) rfl (fun g48 => ?_) (fun g48 => ?_)
         ·skip
          try simp only [nm, ne_eq] at g48
          first | exact absurd rfl g48 | simp at g48
         ·skip
          try simp only [nm, ne_eq] at g48
          refine w_yes 11 70 false (st_move (v := .slice _ _ _) rfl ?_)
          refine w_yes 11 70 false (st_len (ct := #[23]) (by rw [show ((#[23] : Array TypeId)[0]?).bind Tryd.prog.underlying = some (.slice 34) from T.u23]; rfl) rfl ?_)
          refine w_yes 11 70 false (st_neq rfl rfl ?_)
          refine w_plain rfl (st_pick (b := false) (v := .bool _) rfl rfl ?_)
          refine w_plain rfl (st_move (v := .bool _) rfl ?_)
          refine w_split (d := 75) rfl (fun g49 => ?_) (fun g49 => ?_)
          ·skip
           try simp only [nm, ne_eq] at g49
           simp at g49
          ·skip
           try simp only [nm, ne_eq] at g49
           refine w_yes 16 75 false (st_move (v := .slice _ _ _) rfl ?_)
           obtain ⟨x50, hx51⟩ : ∃ zz, ([((1, (n : Int), []), 0), ((0, 0, []), (([48, 88] ++ z).length : Int))] : List Tk)[0]? = some zz := ⟨_, List.getElem?_eq_getElem (by simp)⟩
           obtain ⟨lb56, _, vs55, hA52, hR54, hC53⟩ := hs1.at hx51
           obtain rfl : vs55 = tokC x50.1 x50.2 := hR54
           refine w_yes 16 75 false (st_indexAddr T.u23 T.size34 (congrArg (fun z => Value.slice z _ _) hA52) rfl (by omega) (by simp) ?_)
           refine w_yes 16 75 false (st_fieldAddr T.fld34_1 rfl ?_)
           refine w_yes 16 75 false (st_load1 (v := .int _ _) T.one2 rfl (hC53.at (j := 1) rfl) ?_)
           refine w_yes 16 75 false (st_move (v := .int _ _) rfl ?_)
           refine w_yes 16 75 false (st_neq rfl rfl ?_)
           refine w_plain rfl (st_pick (b := false) (v := .bool _) rfl rfl ?_)
           refine w_plain rfl (st_move (v := .bool _) rfl ?_)
           refine w_split (d := 83) rfl (fun g57 => ?_) (fun g57 => ?_)
           ·skip
            try simp only [nm, ne_eq] at g57
            have hxe := Option.some.inj ((hx51).symm.trans (show _ = some ((1, (n : Int), []), 0) from rfl))
            rw [hxe] at g57
            simp at g57
           ·skip
            try simp only [nm, ne_eq] at g57
            refine w_yes 24 83 false (st_move (v := .slice _ _ _) rfl ?_)
            obtain ⟨x58, hx59⟩ : ∃ zz, ([((1, (n : Int), []), 0), ((0, 0, []), (([48, 88] ++ z).length : Int))] : List Tk)[0]? = some zz := ⟨_, List.getElem?_eq_getElem (by simp)⟩
            obtain ⟨lb64, _, vs63, hA60, hR62, hC61⟩ := hs1.at hx59
            obtain rfl : vs63 = tokC x58.1 x58.2 := hR62
            refine w_yes 24 83 false (st_indexAddr T.u23 T.size34 (congrArg (fun z => Value.slice z _ _) hA60) rfl (by omega) (by simp) ?_)
            refine w_yes 24 83 false (st_fieldAddr T.fld34_0 rfl ?_)
            refine w_yes 24 83 false (st_load1 (v := .int _ _) T.one3 rfl (hC61.at (j := 0) rfl) ?_)
            refine w_yes 24 83 false (st_neq rfl rfl ?_)
            refine w_plain rfl (st_pick (b := false) (v := .bool _) rfl rfl ?_)
            refine wops_nil ?_
            refine then_n ?_
            refine x_cond rfl (fun h5 => ?_) (fun h5 => ?_)
            ·skip
             try simp only [nm, ne_eq] at h5
             have hxe := Option.some.inj ((hx59).symm.trans (show _ = some ((1, (n : Int), []), 0) from rfl))
             rw [hxe] at h5
             simp at h5
            ·skip
             try simp only [nm, ne_eq] at h5
             refine x_skip ?_
             refine block_n ?_
             refine then_n ?_
             refine x_region rfl ?_
             refine w_plain rfl (st_addn rfl rfl (by constructor <;> omega) ?_)
             refine w_plain rfl (st_move (v := .int _ _) rfl ?_)
             refine wops_nil ?_
             refine then_n ?_
             refine ⟨i + 1, ?_, ?_, rfl, ⟨rfl, trivial⟩, ?_⟩
             ·skip
              refine ⟨?_, HC, ht, hbs⟩
              show i + 1 ≤ bases.length; omega
             ·skip
              show bases.length - (i + 1) < bases.length - i; omega
             repeat (first | exact agree_upds agree_over rfl | refine agree_upd ?_ rfl | refine agree_upds ?_ rfl | refine agree_over_sub ?_ rfl)
      ·skip
       try simp only [nm, ne_eq] at h4
       obtain rfl : x = 10 := by omega
       obtain ⟨hcv, hcd, hcw⟩ := number_10 (n := n) (s := z) (by omega) hnum hzne
       have hTe := number_one hcv (by simp [hzne]) hcd hcw
       refine x_skip ?_
       refine block_n ?_
       refine then_n ?_
       refine x_seq ?_
       refine x_region rfl ?_
       refine w_plain rfl (st_move (v := S _) rfl ?_)
       refine w_plain rfl (st_call (ags := [_]) rfl rfl T.ent14 rfl (Constant_spec (z) _ (by first | omega | (simp only [List.length_append, List.length_cons, List.length_nil]; omega))) ?_)
       rintro _ w65 ⟨rfl, c66⟩
       rw [hcv]
       replace HC := HC.then c66
       replace ht := ht.tr0 c66
       replace hbs := hbs.tr0 c66
       refine w_plain rfl (st_move (v := .tuple ⟨[_, _]⟩) rfl ?_)
       refine w_plain rfl (st_extract (vs := [_, _]) (v := .int _ _) rfl rfl ?_)
       refine w_plain rfl (st_extract (vs := [_, _]) (v := .bool _) rfl rfl ?_)
       refine w_plain rfl (st_assign (v := .int _ _) rfl ?_)
       refine w_plain rfl (st_assign (v := .bool _) rfl ?_)
       refine wops_nil ?_
       refine then_n ?_
       refine x_seq ?_
       refine x_region rfl ?_
       refine w_plain rfl (st_move (v := S _) rfl ?_)
       refine w_plain rfl (st_call (ags := [_]) rfl rfl T.ent12 rfl (Tokens_spec (z) _ rfl (by first | omega | (simp only [List.length_append, List.length_cons, List.length_nil]; omega)) ht) ?_)
       rintro _ w67 ⟨A1, cap1, rfl, ho1, c68⟩
       rw [hTe] at ho1 ⊢
       have hs1 : Sl tkE w67 (fun k => w.heap.size ≤ k) A1 ([((1, (n : Int), []), 0), ((0, 0, []), ((z).length : Int))] : List Tk) := (ho1.mono (D' := fun k => w.heap.size ≤ k) (fun k _ h => by have := HC.size; omega)).sl
       replace HC := HC.then c68
       replace ht := ht.tr0 c68
       replace hbs := hbs.tr0 c68
       refine w_plain rfl (st_move (v := .tuple ⟨[_, _, _]⟩) rfl ?_)
       refine w_plain rfl (st_extract (vs := [_, _, _]) (v := .slice _ _ _) rfl rfl ?_)
       refine w_plain rfl (st_extract (vs := [_, _, _]) (v := .int _ _) rfl rfl ?_)
       refine w_plain rfl (st_extract (vs := [_, _, _]) (v := .int _ _) rfl rfl ?_)
       refine w_plain rfl (st_assign (v := .slice _ _ _) rfl ?_)
       refine w_plain rfl (st_assign (v := .int _ _) rfl ?_)
       refine w_plain rfl (st_assign (v := .int _ _) rfl ?_)
       refine wops_nil ?_
       refine then_n ?_
       refine x_seq ?_
       refine x_region rfl ?_
       refine w_plain rfl (st_move (v := .int _ _) rfl ?_)
       refine w_plain rfl (st_move (v := .int _ _) rfl ?_)
       refine w_plain rfl (st_neq rfl rfl ?_)
       refine w_plain rfl (st_move (v := .bool _) rfl ?_)
       refine w_split (d := 62) rfl (fun g69 => ?_) (fun g69 => ?_)
       ·skip
        try simp only [nm, ne_eq] at g69
        simp at g69
       ·skip
        try simp only [nm, ne_eq] at g69
        refine w_yes 3 62 false (st_move (v := .bool _) rfl ?_)
        refine w_yes 3 62 false (st_not rfl ?_)
        refine w_plain rfl (st_pick (b := false) (v := .bool _) rfl rfl ?_)
        refine w_plain rfl (st_move (v := .bool _) rfl ?_)
        refine w_split (d := 66) rfl (fun g70 => ?_) (fun g70 => ?_)
        ·skip
         try simp only [nm, ne_eq] at g70
         simp at g70
        ·skip
         try simp only [nm, ne_eq] at g70
         refine w_yes 7 66 false (st_move (v := .int _ _) rfl ?_)
         refine w_yes 7 66 false (st_neq rfl rfl ?_)
         refine w_plain rfl (st_pick (b := false) (v := .bool _) rfl rfl ?_)
         refine w_plain rfl (st_move (v := .bool _) rfl ?_)
         refine w_split (d := 70) rfl (fun g71 => ?_) (fun g71 => ?_)
         ·skip
          try simp only [nm, ne_eq] at g71
          first | exact absurd rfl g71 | simp at g71
         ·skip
          try simp only [nm, ne_eq] at g71
          refine w_yes 11 70 false (st_move (v := .slice _ _ _) rfl ?_)
          refine w_yes 11 70 false (st_len (ct := #[23]) (by rw [show ((#[23] : Array TypeId)[0]?).bind Tryd.prog.underlying = some (.slice 34) from T.u23]; rfl) rfl ?_)
          refine w_yes 11 70 false (st_neq rfl rfl ?_)
          refine w_plain rfl (st_pick (b := false) (v := .bool _) rfl rfl ?_)
          refine w_plain rfl (st_move (v := .bool _) rfl ?_)
          refine w_split (d := 75) rfl (fun g72 => ?_) (fun g72 => ?_)
          ·skip
           try simp only [nm, ne_eq] at g72
           simp at g72
          ·skip
           try simp only [nm, ne_eq] at g72
           refine w_yes 16 75 false (st_move (v := .slice _ _ _) rfl ?_)
           obtain ⟨x73, hx74⟩ : ∃ zz, ([((1, (n : Int), []), 0), ((0, 0, []), ((z).length : Int))] : List Tk)[0]? = some zz := ⟨_, List.getElem?_eq_getElem (by simp)⟩
           obtain ⟨lb79, _, vs78, hA75, hR77, hC76⟩ := hs1.at hx74
           obtain rfl : vs78 = tokC x73.1 x73.2 := hR77
           refine w_yes 16 75 false (st_indexAddr T.u23 T.size34 (congrArg (fun z => Value.slice z _ _) hA75) rfl (by omega) (by simp) ?_)
           refine w_yes 16 75 false (st_fieldAddr T.fld34_1 rfl ?_)
           refine w_yes 16 75 false (st_load1 (v := .int _ _) T.one2 rfl (hC76.at (j := 1) rfl) ?_)
           refine w_yes 16 75 false (st_move (v := .int _ _) rfl ?_)
           refine w_yes 16 75 false (st_neq rfl rfl ?_)
           refine w_plain rfl (st_pick (b := false) (v := .bool _) rfl rfl ?_)
           refine w_plain rfl (st_move (v := .bool _) rfl ?_)
           refine w_split (d := 83) rfl (fun g80 => ?_) (fun g80 => ?_)
           ·skip
            try simp only [nm, ne_eq] at g80
            have hxe := Option.some.inj ((hx74).symm.trans (show _ = some ((1, (n : Int), []), 0) from rfl))
            rw [hxe] at g80
            simp at g80
           ·skip
            try simp only [nm, ne_eq] at g80
            refine w_yes 24 83 false (st_move (v := .slice _ _ _) rfl ?_)
            obtain ⟨x81, hx82⟩ : ∃ zz, ([((1, (n : Int), []), 0), ((0, 0, []), ((z).length : Int))] : List Tk)[0]? = some zz := ⟨_, List.getElem?_eq_getElem (by simp)⟩
            obtain ⟨lb87, _, vs86, hA83, hR85, hC84⟩ := hs1.at hx82
            obtain rfl : vs86 = tokC x81.1 x81.2 := hR85
            refine w_yes 24 83 false (st_indexAddr T.u23 T.size34 (congrArg (fun z => Value.slice z _ _) hA83) rfl (by omega) (by simp) ?_)
            refine w_yes 24 83 false (st_fieldAddr T.fld34_0 rfl ?_)
            refine w_yes 24 83 false (st_load1 (v := .int _ _) T.one3 rfl (hC84.at (j := 0) rfl) ?_)
            refine w_yes 24 83 false (st_neq rfl rfl ?_)
            refine w_plain rfl (st_pick (b := false) (v := .bool _) rfl rfl ?_)
            refine wops_nil ?_
            refine then_n ?_
            refine x_cond rfl (fun h5 => ?_) (fun h5 => ?_)
            ·skip
             try simp only [nm, ne_eq] at h5
             have hxe := Option.some.inj ((hx82).symm.trans (show _ = some ((1, (n : Int), []), 0) from rfl))
             rw [hxe] at h5
             simp at h5
            ·skip
             try simp only [nm, ne_eq] at h5
             refine x_skip ?_
             refine block_n ?_
             refine then_n ?_
             refine x_region rfl ?_
             refine w_plain rfl (st_addn rfl rfl (by constructor <;> omega) ?_)
             refine w_plain rfl (st_move (v := .int _ _) rfl ?_)
             refine wops_nil ?_
             refine then_n ?_
             refine ⟨i + 1, ?_, ?_, rfl, ⟨rfl, trivial⟩, ?_⟩
             ·skip
              refine ⟨?_, HC, ht, hbs⟩
              show i + 1 ≤ bases.length; omega
             ·skip
              show bases.length - (i + 1) < bases.length - i; omega
             repeat (first | exact agree_upds agree_over rfl | refine agree_upd ?_ rfl | refine agree_upds ?_ rfl | refine agree_over_sub ?_ rfl)
  ·skip
   try simp only [nm, ne_eq] at h1
   refine x_exit ?_
   refine then_x ?_
   refine then_x ?_
   refine block_x ?_
   refine then_n ?_
   refine x_seq ?_
   refine x_region rfl ?_
   refine w_plain rfl (st_call (ags := []) rfl rfl T.ent11 rfl (awake_spec _ ht) ?_)
   rintro _ w88 ⟨rfl, c89⟩
   replace HC := HC.then c89
   replace ht := ht.tr0 c89
   replace hbs := hbs.tr0 c89
   refine w_plain rfl (st_assign (v := .bool _) rfl ?_)
   refine wops_nil ?_
   refine then_n ?_
   refine x_ret ?_
   refine ret_tmp (v := .bool _) rfl rfl ?_
   exact ⟨rfl, HC⟩

end Go.Proofs.YtcgcbpknbjafcaaDoor.K
