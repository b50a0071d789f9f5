/- The tokens of a tree's text. -/
import Derived.Test.YtcgcbpknbjafcaaDoorTree
set_option linter.unusedVariables false
set_option linter.unusedSimpArgs false
set_option autoImplicit false
set_option maxRecDepth 20000
namespace Go.Proofs.YtcgcbpknbjafcaaDoor.K
open Go Go.Proofs Go.RowKit Tr
/-! ### digits -/
theorem num_dec : ∀ (m n : Nat) (z : Bytes), n ≤ 9223372036854775807 → NumI 10 n m z → (0 < m ∨ z = []) → NumI 10 n 0 (decT m ++ z)
  | m, n, z, hn, h, hc => by
    have hs := h.step (by omega) (by omega) hn hc
    rw [decT]
    by_cases h10 : m < 10
    · rw [dif_pos h10]
      rw [Nat.div_eq_of_lt h10, Nat.mod_eq_of_lt h10] at hs
      exact hs
    · rw [dif_neg h10, List.append_assoc]
      exact num_dec (m / 10) n _ hn hs (.inl (by omega))
termination_by m => m
decreasing_by omega
theorem decT_ne (n : Nat) : decT n ≠ [] := by
  rw [decT]; split <;> simp
theorem dec_num {n : Nat} (hn : n ≤ 9223372036854775807) : constV (decT n) = ((n : Int), true) ∧ digB (byte (decT n) 0) = true ∧ (decT n).all wordB = true := by
  have h := num_dec n n [] hn (NumI.start 10 n) (.inr rfl)
  rw [List.append_nil] at h
  exact number_10 hn h (decT_ne n)
theorem byte_app0 {a b : Bytes} (h : a ≠ []) : byte (a ++ b) 0 = byte a 0 := by
  cases a with
  | nil => exact absurd rfl h
  | cons c a => rfl
theorem next_dec {n : Nat} {r : Bytes} (hn : n ≤ 9223372036854775807) (hr : runN wordB r = 0) : nextV (decT n ++ r) = ((1, (n : Int), []), (((decT n).length : Nat) : Int), 0) := by
  obtain ⟨h1, h2, h3⟩ := dec_num hn
  have hl := runN_app (t := r) h3
  rw [hr, Nat.add_zero] at hl
  have hp := List.length_pos_iff.2 (decT_ne n)
  have := next_num (s := decT n ++ r) (i := 0) (W := decT n) (by rw [List.length_append]; omega) (by rw [byte_app0 (decT_ne n)]; exact h2) (by rw [List.drop_zero, hl, List.take_left]) (by rw [h1])
  rw [List.drop_zero, hl, h1] at this; exact this
/-! ### operators -/
theorem find_congr {q q' : Bytes → Bool} : ∀ (l : List Bytes), (∀ p, p ∈ l → q p = q' p) → l.find? q = l.find? q'
  | [], _ => rfl
  | x :: l, h => by rw [List.find?_cons, List.find?_cons, h x (by simp), find_congr l (fun p hp => h p (by simp [hp]))]
theorem op_same {o r : Bytes} (h : ∀ p, p ∈ opsL → Lib.hasPrefix (o ++ r) p = Lib.hasPrefix o p) : opV (o ++ r) = opV o := by unfold opV; rw [find_congr _ h]
theorem ops_all : (opsL.all fun o => decide (o ≠ []) && !(digB (byte o 0)) && !(begB (byte o 0)) && !(blankB (byte o 0)) && decide (opV o = o) && (o.drop 1).all (fun c => decide (c ≠ 40) && !(wordB c)) && (!([40, 41, 63, 58].contains (byte o 0)) || decide (o.length = 1))) = true := by kernel_rfl
theorem ops_at {o : Bytes} (h : o ∈ opsL) : o ≠ [] ∧ digB (byte o 0) = false ∧ begB (byte o 0) = false ∧ blankB (byte o 0) = false ∧ opV o = o ∧ (∀ c, c ∈ o.drop 1 → c ≠ 40 ∧ wordB c = false) ∧ (byte o 0 ∈ [40, 41, 63, 58] → o.length = 1) := by
  have := List.all_eq_true.1 ops_all o h
  simp only [Bool.and_eq_true, decide_eq_true_eq, Bool.not_eq_true', List.all_eq_true, Bool.or_eq_true] at this
  obtain ⟨⟨⟨⟨⟨⟨a1, a2⟩, a3⟩, a4⟩, a5⟩, a6⟩, a7⟩ := this
  exact ⟨a1, a2, a3, a4, a5, a6, fun hm => a7.resolve_left (by rw [List.contains_iff_mem.2 hm]; simp)⟩
theorem next_at {o r : Bytes} (ho : o ∈ opsL) (h : ∀ p, p ∈ opsL → Lib.hasPrefix (o ++ r) p = Lib.hasPrefix o p) : nextV (o ++ r) = ((3, 0, o), ((o.length : Nat) : Int), 0) := by
  obtain ⟨h1, h2, h3, h4, h5, _⟩ := ops_at ho
  have h6 : opV (o ++ r) = o := by rw [op_same h, h5]
  have hp := List.length_pos_iff.2 h1
  have := next_op (s := o ++ r) (i := 0) (by rw [List.length_append]; omega) (by rw [byte_app0 h1]; exact h2) (by rw [byte_app0 h1]; exact h3) (by rw [List.drop_zero, h6]; exact h1)
  rw [List.drop_zero, h6] at this; exact this
theorem next_oper {o r : Bytes} {c : UInt8} (ho : o ∈ opsL) (hc : c = 40 ∨ wordB c = true) : nextV (o ++ c :: r) = ((3, 0, o), ((o.length : Nat) : Int), 0) := by
  refine next_at ho fun p hp => ?_
  have ho1 := (ops_at ho).1
  have hfr : c ∉ p.drop 1 := fun hm => by
    obtain ⟨a, b⟩ := (ops_at hp).2.2.2.2.2.1 c hm
    rcases hc with hc | hc
    · exact a hc
    · rw [hc] at b; cases b
  rw [Bool.eq_iff_iff, pre_iff, pre_iff]
  constructor
  · rintro ⟨t, ht⟩
    rcases List.append_eq_append_iff.1 ht with ⟨a, h1, h2⟩ | ⟨a, h1, h2⟩
    · cases a with
      | nil => exact ⟨[], by rw [h1]; simp⟩
      | cons x a =>
        have hx : c = x := (List.cons.inj h2).1
        refine absurd ?_ hfr
        rw [h1]
        cases o with
        | nil => exact absurd rfl ho1
        | cons y o => simp [hx]
    · exact ⟨a, h1⟩
  · rintro ⟨t, ht⟩; exact ⟨t ++ c :: r, by rw [ht, List.append_assoc]⟩
theorem next_solo {c : UInt8} {r : Bytes} (hc : [c] ∈ opsL) (h4 : c ∈ ([40, 41, 63, 58] : Bytes)) : nextV (c :: r) = ((3, 0, [c]), ((1 : Nat) : Int), 0) := by
  refine next_at (o := [c]) hc fun p hp => ?_
  rw [Bool.eq_iff_iff, pre_iff, pre_iff]
  constructor
  · rintro ⟨t, ht⟩
    cases p with
    | nil => exact absurd rfl (ops_at hp).1
    | cons x p =>
      have hx : c = x := (List.cons.inj ht).1
      subst hx
      have := (ops_at hp).2.2.2.2.2.2 h4
      have : p = [] := List.length_eq_zero_iff.1 (by simpa using this)
      subst this; exact ⟨[], rfl⟩
  · rintro ⟨t, ht⟩; exact ⟨t ++ r, by rw [ht, List.append_assoc]⟩
/-! ### a tree's tokens -/
def yd (x : Tk) : Yd := (x.1, x.2, 0)
def opT (o : Bytes) (i : Nat) : Tk := ((3, 0, o), (i : Int))
def toks : Tr → Nat → List Tk
  | num n, i => [((1, n, []), (i : Int))]
  | var s, i => [((2, 0, s), (i : Int))]
  | asg o n t, i => opT [40] i :: ((2, 0, n), ((i + 1 : Nat) : Int)) :: opT o (i + 1 + n.length) :: (toks t (i + 1 + n.length + o.length) ++ [opT [41] (i + 1 + n.length + o.length + (str t).length)])
  | un o t, i => opT [40] i :: opT o (i + 1) :: (toks t (i + 1 + o.length) ++ [opT [41] (i + 1 + o.length + (str t).length)])
  | cnd a b c, i => opT [40] i :: (toks a (i + 1) ++ opT [63] (i + 1 + (str a).length) :: (toks b (i + 1 + (str a).length + 1) ++ opT [58] (i + 1 + (str a).length + 1 + (str b).length) :: (toks c (i + 1 + (str a).length + 1 + (str b).length + 1) ++ [opT [41] (i + 1 + (str a).length + 1 + (str b).length + 1 + (str c).length)])))
  | bin o a b, i => opT [40] i :: (toks a (i + 1) ++ opT o (i + 1 + (str a).length) :: (toks b (i + 1 + (str a).length + o.length) ++ [opT [41] (i + 1 + (str a).length + o.length + (str b).length)]))
/-- A tree's text begins with '(' or a byte of a word. -/
theorem str_hd : ∀ t : Tr, t.ok → ∃ c s, str t = c :: s ∧ (c = 40 ∨ wordB c = true)
  | num n, h => by
    have h1 := (dec_num (n := n.toNat) (by have := h.2; omega)).2.2
    cases e : decT n.toNat with
    | nil => exact absurd e (decT_ne _)
    | cons c s =>
      rw [e] at h1; simp only [List.all_cons, Bool.and_eq_true] at h1
      exact ⟨c, s, e, .inr h1.1⟩
  | var s, h => by
    obtain ⟨c, r, e, h1, h2⟩ := nameV_cons h.1
    exact ⟨c, r, e, .inr (beg_word h1)⟩
  | asg o n t, h => ⟨40, _, rfl, .inl rfl⟩
  | un o t, h => ⟨40, _, rfl, .inl rfl⟩
  | cnd a b c, h => ⟨40, _, rfl, .inl rfl⟩
  | bin o a b, h => ⟨40, _, rfl, .inl rfl⟩
theorem tok_step {S b : Bytes} {i k n : Nat} {x : Int × Int × Bytes} (hd : S.drop i = b) (hi : i ≤ S.length) (hb : b ≠ []) (h : blankB (byte b 0) = false) (hn : nextV b = (x, (n : Int), 0)) (ht : ¬ x.1 = 0) : toksF (k + 1) S i = yd (x, (i : Int)) :: toksF k S (i + n) := by
  subst hd
  exact toksF_at' (a := S.take i) (List.take_append_drop _ _).symm (by rw [List.length_take]; omega) hb h hn ht
theorem word_blank {c : UInt8} (h : c = 40 ∨ wordB c = true) : blankB c = false := by
  rcases h with rfl | h
  · decide
  · simp only [wordB, begB, alphaB, upB, loB, digB, blankB, Bool.or_eq_true, decide_eq_true_eq, Bool.or_eq_false_iff, decide_eq_false_iff_not] at *; omega
theorem drop_more {S a b : Bytes} {i n : Nat} (h : S.drop i = a ++ b) (hn : a.length = n) : S.drop (i + n) = b := by
  subst hn; rw [← List.drop_drop, h, List.drop_left]
theorem drop_le {S b : Bytes} {i : Nat} (h : S.drop i = b) (hb : b ≠ []) : i ≤ S.length := by
  by_cases hi : i ≤ S.length
  · exact hi
  · exact absurd (h.symm.trans (List.drop_of_length_le (by omega))) hb
theorem solo_step {S r : Bytes} {c : UInt8} {i k : Nat} (hd : S.drop i = c :: r) (hc : [c] ∈ opsL) (h4 : c ∈ ([40, 41, 63, 58] : Bytes)) : toksF (k + 1) S i = yd (opT [c] i) :: toksF k S (i + 1) :=
  tok_step hd (drop_le hd (by simp)) (by simp) ((ops_at hc).2.2.2.1) (next_solo hc h4) (by simp)
theorem oper_step {S o r : Bytes} {c : UInt8} {i k : Nat} (hd : S.drop i = o ++ c :: r) (ho : o ∈ opsL) (hc : c = 40 ∨ wordB c = true) : toksF (k + 1) S i = yd (opT o i) :: toksF k S (i + o.length) :=
  tok_step hd (drop_le hd (by simp)) (by simp) (by rw [byte_app0 (ops_at ho).1]; exact (ops_at ho).2.2.2.1) (next_oper ho hc) (by simp)
theorem asg_ops {o : Bytes} (h : o ∈ asgL) : o ∈ opsL ∧ wordB (byte o 0) = false ∧ o ≠ [] := by revert o; decide
theorem un_ops {o : Bytes} (h : o ∈ unL) : o ∈ opsL := by revert o; decide
theorem lv_ops {o : Bytes} (h : 0 < levelV o) : o ∈ opsL ∧ wordB (byte o 0) = false ∧ o ≠ [] := by
  have h1 := lvl_in h
  have : ∀ o, o ∈ opsB → o ∈ opsL ∧ wordB (byte o 0) = false ∧ o ≠ [] := by decide
  exact this o h1
theorem run_off0 {o r : Bytes} (ho : o ≠ []) (h : wordB (byte o 0) = false) : runN wordB (o ++ r) = 0 := by
  cases o with
  | nil => exact absurd rfl ho
  | cons c o => show (if wordB c = true then _ else 0) = 0; rw [if_neg (by rw [show wordB c = false from h]; simp)]
theorem toks_str : ∀ (t : Tr) (S r : Bytes) (i k : Nat), t.ok → S.drop i = str t ++ r → runN wordB r = 0 → toksF ((toks t i).length + k) S i = (toks t i).map yd ++ toksF k S (i + (str t).length)
  | num n, S, r, i, k, h, hd, hr => by
    have hn : ((n.toNat : Nat) : Int) = n := by have := h.1; omega
    have h1 := next_dec (n := n.toNat) (by have := h.2; omega) hr
    rw [hn] at h1
    have hne := decT_ne n.toNat
    have hbl : blankB (byte (decT n.toNat ++ r) 0) = false := by
      rw [byte_app0 hne]; exact word_blank (.inr (by have := (dec_num (n := n.toNat) (by have := h.2; omega)).2.1; unfold wordB; rw [this, Bool.or_true]))
    show toksF ([_].length + k) S i = _
    rw [show ([((1, n, []), (i : Int))] : List Tk).length + k = k + 1 by simp [Nat.add_comm]]
    rw [tok_step (k := k) hd (drop_le hd (by simp [str, hne])) (by simp [str, hne]) hbl h1 (by simp)]; rfl
  | var s, S, r, i, k, h, hd, hr => by
    obtain ⟨c, q, e, h1, h2⟩ := nameV_cons h.1
    have hn := next_name' (t := r) h.1 hr
    show toksF ([_].length + k) S i = _
    rw [show ([((2, 0, s), (i : Int))] : List Tk).length + k = k + 1 by simp [Nat.add_comm]]
    have hne : s ≠ [] := by rw [e]; simp
    rw [tok_step (k := k) hd (drop_le hd (by simp [str, hne])) (by simp [str, hne]) (by rw [show str (var s) = s from rfl, byte_app0 hne, e]; exact beg_blank h1) hn (by simp)]; rfl
  | asg o n t, S, r, i, k, h, hd, hr => by
    obtain ⟨ho, hn, ht⟩ := h
    obtain ⟨hol, how, hoe⟩ := asg_ops ho
    obtain ⟨c, q, e, h1, h2⟩ := nameV_cons hn.1
    obtain ⟨tc, tr, et, hc⟩ := str_hd t ht
    have hne : n ≠ [] := by rw [e]; simp
    have d0 : S.drop i = 40 :: (n ++ (o ++ (str t ++ (41 :: r)))) := by rw [hd]; simp [str]
    have d1 : S.drop (i + 1) = n ++ (o ++ (str t ++ (41 :: r))) := drop_more (a := [40]) d0 rfl
    have d2 : S.drop (i + 1 + n.length) = o ++ (str t ++ (41 :: r)) := drop_more d1 rfl
    have d3 : S.drop (i + 1 + n.length + o.length) = str t ++ (41 :: r) := drop_more d2 rfl
    have d4 : S.drop (i + 1 + n.length + o.length + (str t).length) = 41 :: r := drop_more d3 rfl
    have s1 := fun k => solo_step (k := k) d0 (by decide) (by decide)
    have s2 := fun k => tok_step (k := k) d1 (drop_le d1 (by simp [hne])) (by simp [hne]) (by rw [byte_app0 hne, e]; exact beg_blank h1) (next_name' hn.1 (run_off0 hoe how)) (by simp)
    have s3 := fun k => oper_step (k := k) (c := tc) (r := tr ++ (41 :: r)) (by rw [d2, et]; rfl) hol hc
    have s4 := fun k => toks_str t S (41 :: r) (i + 1 + n.length + o.length) k ht d3 (by rfl)
    have s5 := fun k => solo_step (k := k) d4 (by decide) (by decide)
    have hl : (toks (asg o n t) i).length + k = ((toks t (i + 1 + n.length + o.length)).length + (k + 1)) + 1 + 1 + 1 := by simp only [toks, List.length_cons, List.length_append, List.length_nil]; omega
    have hp : i + (str (asg o n t)).length = i + 1 + n.length + o.length + (str t).length + 1 := by simp only [str, List.length_append, List.length_cons, List.length_nil]; omega
    rw [hl, s1, s2, s3, s4, s5]
    rw [hp]
    simp only [toks, List.map_cons, List.map_append, List.map_nil, List.cons_append, List.append_assoc, List.nil_append]
    try rfl
  | un o t, S, r, i, k, h, hd, hr => by
    obtain ⟨ho, ht⟩ := h
    have hol := un_ops ho
    obtain ⟨tc, tr, et, hc⟩ := str_hd t ht
    have d0 : S.drop i = 40 :: (o ++ (str t ++ (41 :: r))) := by rw [hd]; simp [str]
    have d2 : S.drop (i + 1) = o ++ (str t ++ (41 :: r)) := drop_more (a := [40]) d0 rfl
    have d3 : S.drop (i + 1 + o.length) = str t ++ (41 :: r) := drop_more d2 rfl
    have d4 : S.drop (i + 1 + o.length + (str t).length) = 41 :: r := drop_more d3 rfl
    have s1 := fun k => solo_step (k := k) d0 (by decide) (by decide)
    have s3 := fun k => oper_step (k := k) (c := tc) (r := tr ++ (41 :: r)) (by rw [d2, et]; rfl) hol hc
    have s4 := fun k => toks_str t S (41 :: r) (i + 1 + o.length) k ht d3 (by rfl)
    have s5 := fun k => solo_step (k := k) d4 (by decide) (by decide)
    have hl : (toks (un o t) i).length + k = ((toks t (i + 1 + o.length)).length + (k + 1)) + 1 + 1 := by simp only [toks, List.length_cons, List.length_append, List.length_nil]; omega
    have hp : i + (str (un o t)).length = i + 1 + o.length + (str t).length + 1 := by simp only [str, List.length_append, List.length_cons, List.length_nil]; omega
    rw [hl, s1, s3, s4, s5]
    rw [hp]
    simp only [toks, List.map_cons, List.map_append, List.map_nil, List.cons_append, List.append_assoc, List.nil_append]
    try rfl
  | cnd a b c, S, r, i, k, h, hd, hr => by
    obtain ⟨ha, hb, hc⟩ := h
    have d0 : S.drop i = 40 :: (str a ++ (63 :: (str b ++ (58 :: (str c ++ (41 :: r)))))) := by rw [hd]; simp [str]
    have d1 : S.drop (i + 1) = str a ++ (63 :: (str b ++ (58 :: (str c ++ (41 :: r))))) := drop_more (a := [40]) d0 rfl
    have d2 := drop_more d1 rfl
    have d3 := drop_more (a := [63]) d2 rfl
    have d4 := drop_more d3 rfl
    have d5 := drop_more (a := [58]) d4 rfl
    have d6 := drop_more d5 rfl
    have s1 := fun k => solo_step (k := k) d0 (by decide) (by decide)
    have s2 := fun k => toks_str a S _ (i + 1) k ha d1 (by rfl)
    have s3 := fun k => solo_step (k := k) d2 (by decide) (by decide)
    have s4 := fun k => toks_str b S _ (i + 1 + (str a).length + 1) k hb d3 (by rfl)
    have s5 := fun k => solo_step (k := k) d4 (by decide) (by decide)
    have s6 := fun k => toks_str c S _ (i + 1 + (str a).length + 1 + (str b).length + 1) k hc d5 (by rfl)
    have s7 := fun k => solo_step (k := k) d6 (by decide) (by decide)
    simp only [List.length_cons, List.length_nil, Nat.zero_add] at s3 s4 s5 s6 s7
    have hl : (toks (cnd a b c) i).length + k = ((toks a (i + 1)).length + (((toks b (i + 1 + (str a).length + 1)).length + (((toks c (i + 1 + (str a).length + 1 + (str b).length + 1)).length + (k + 1)) + 1)) + 1)) + 1 := by simp only [toks, List.length_cons, List.length_append, List.length_nil]; omega
    have hp : i + (str (cnd a b c)).length = i + 1 + (str a).length + 1 + (str b).length + 1 + (str c).length + 1 := by simp only [str, List.length_append, List.length_cons, List.length_nil]; omega
    rw [hl, s1, s2, s3, s4, s5, s6, s7]
    rw [hp]
    simp only [toks, List.map_cons, List.map_append, List.map_nil, List.cons_append, List.append_assoc, List.nil_append]
    try rfl
  | bin o a b, S, r, i, k, h, hd, hr => by
    obtain ⟨ho, ha, hb⟩ := h
    obtain ⟨hol, how, hoe⟩ := lv_ops ho
    obtain ⟨tc, tr, et, hc⟩ := str_hd b hb
    have d0 : S.drop i = 40 :: (str a ++ (o ++ (str b ++ (41 :: r)))) := by rw [hd]; simp [str]
    have d1 : S.drop (i + 1) = str a ++ (o ++ (str b ++ (41 :: r))) := drop_more (a := [40]) d0 rfl
    have d2 : S.drop (i + 1 + (str a).length) = o ++ (str b ++ (41 :: r)) := drop_more d1 rfl
    have d3 : S.drop (i + 1 + (str a).length + o.length) = str b ++ (41 :: r) := drop_more d2 rfl
    have d4 : S.drop (i + 1 + (str a).length + o.length + (str b).length) = 41 :: r := drop_more d3 rfl
    have s1 := fun k => solo_step (k := k) d0 (by decide) (by decide)
    have s2 := fun k => toks_str a S _ (i + 1) k ha d1 (run_off0 hoe how)
    have s3 := fun k => oper_step (k := k) (c := tc) (r := tr ++ (41 :: r)) (by rw [d2, et]; rfl) hol hc
    have s4 := fun k => toks_str b S (41 :: r) (i + 1 + (str a).length + o.length) k hb d3 (by rfl)
    have s5 := fun k => solo_step (k := k) d4 (by decide) (by decide)
    have hl : (toks (bin o a b) i).length + k = ((toks a (i + 1)).length + (((toks b (i + 1 + (str a).length + o.length)).length + (k + 1)) + 1)) + 1 := by simp only [toks, List.length_cons, List.length_append, List.length_nil]; omega
    have hp : i + (str (bin o a b)).length = i + 1 + (str a).length + o.length + (str b).length + 1 := by simp only [str, List.length_append, List.length_cons, List.length_nil]; omega
    rw [hl, s1, s2, s3, s4, s5]
    rw [hp]
    simp only [toks, List.map_cons, List.map_append, List.map_nil, List.cons_append, List.append_assoc, List.nil_append]
    try rfl
end Go.Proofs.YtcgcbpknbjafcaaDoor.K
