/- Walks: names as tokens. -/
import Derived.Test.YtcgcbpknbjafcaaDoorBh
import Derived.Test.YtcgcbpknbjafcaaDoorKitM
set_option linter.unusedVariables false
set_option linter.unusedSimpArgs false
set_option autoImplicit false
set_option maxRecDepth 20000
namespace Go.Proofs.YtcgcbpknbjafcaaDoor.K
open Go Go.Proofs Go.RowKit

theorem runN_app {p : UInt8 → Bool} {s t : Bytes} (h : s.all p = true) : runN p (s ++ t) = s.length + runN p t := by
  induction s with
  | nil => simp
  | cons c s ih =>
    simp only [List.all_cons, Bool.and_eq_true] at h
    simp only [List.cons_append, runN, if_pos h.1, ih h.2, List.length_cons]; omega
theorem beg_word {c : UInt8} (h : begB c = true) : wordB c = true := by unfold wordB; rw [h, Bool.true_or]
theorem beg_dig {c : UInt8} (h : begB c = true) : digB c = false := by
  simp only [begB, alphaB, upB, loB, digB, Bool.or_eq_true, decide_eq_true_eq, decide_eq_false_iff_not] at *; omega
theorem beg_blank {c : UInt8} (h : begB c = true) : blankB c = false := by
  simp only [begB, alphaB, upB, loB, blankB, Bool.or_eq_true, decide_eq_true_eq, Bool.or_eq_false_iff, decide_eq_false_iff_not] at *; omega
theorem byte_app {a b : Bytes} {i : Nat} (h : a.length = i) : byte (a ++ b) i = byte b 0 := by
  subst h; simp [byte, List.getD_eq_getElem?_getD, List.getElem?_append_right]
theorem drop_app' {a b : Bytes} {i : Nat} (h : a.length = i) : (a ++ b).drop i = b := by subst h; simp
/-- A token at a place: what stands before it, and what the rest is. -/
theorem toksF_at {a b : Bytes} {k n : Nat} {t : Int × Int × Bytes} (hb : b ≠ []) (h : blankB (byte b 0) = false) (hn : nextV b = (t, (n : Int), 0)) (ht : ¬ t.1 = 0) : toksF (k + 1) (a ++ b) a.length = (t, (a.length : Int), 0) :: toksF k (a ++ b) (a.length + n) :=
  toksF_tok (by have := List.length_pos_iff.2 hb; simp; omega) (by rw [byte_app rfl]; exact h) (by rw [drop_app' rfl]; exact hn) ht
theorem toksF_at' {s a b : Bytes} {i k n : Nat} {t : Int × Int × Bytes} (hs : s = a ++ b) (hi : a.length = i) (hb : b ≠ []) (h : blankB (byte b 0) = false) (hn : nextV b = (t, (n : Int), 0)) (ht : ¬ t.1 = 0) : toksF (k + 1) s i = (t, (i : Int), 0) :: toksF k s (i + n) := by
  subst hs; subst hi; exact toksF_at hb h hn ht
theorem nameV_cons {s : Bytes} (h : nameV s = true) : ∃ c r, s = c :: r ∧ begB c = true ∧ s.all wordB = true := by
  cases s with
  | nil => cases h
  | cons c r =>
    simp only [nameV, Bool.and_eq_true] at h
    exact ⟨c, r, rfl, h.1, by rw [List.all_cons, beg_word h.1, h.2]; rfl⟩
theorem next_name' {s t : Bytes} (h : nameV s = true) (ht : runN wordB t = 0) : nextV (s ++ t) = ((2, 0, s), ((s.length : Nat) : Int), 0) := by
  obtain ⟨c, r, rfl, h1, h2⟩ := nameV_cons h
  have hr := runN_app (t := t) h2
  rw [ht, Nat.add_zero] at hr
  have := next_name (s := c :: r ++ t) (i := 0) (W := (c :: r ++ t).take ((c :: r).length)) (by simp) (beg_dig h1) h1 (by rw [List.drop_zero, hr])
  rw [List.drop_zero, hr] at this
  rw [this]; simp
theorem names_one {s : Bytes} (h : nameV s = true) : tokV (toksF (s.length + 1) s 0) = ([((2, 0, s), 0), ((0, 0, []), (s.length : Int))], 0, 0) := by
  obtain ⟨c, r, e, h1, h2⟩ := nameV_cons h
  have hn := next_name' (t := []) h rfl
  rw [List.append_nil] at hn
  have hl : 0 < s.length := by rw [e]; simp
  obtain ⟨m, hm⟩ : ∃ m, s.length = m + 1 := ⟨s.length - 1, by omega⟩
  have ht := toksF_at' (s := s) (a := []) (b := s) (i := 0) (k := m + 1) rfl rfl (by rw [e]; simp) (by rw [e]; exact beg_blank h1) hn (by simp)
  have hz := toksF_end s m
  rw [hm] at ht hz ⊢
  rw [ht, Nat.zero_add, hz]
  rfl
def tailB : Bytes := [60, 60, 48, 120, 49, 102]
theorem names_two {s : Bytes} (h : nameV s = true) : tokV (toksF ((([55, 43] ++ s) ++ tailB).length + 1) (([55, 43] ++ s) ++ tailB) 0) = ([((1, 7, []), 0), ((3, 0, [43]), 1), ((2, 0, s), 2), ((3, 0, [60, 60]), ((2 + s.length : Nat) : Int)), ((1, 31, []), ((2 + s.length + 2 : Nat) : Int)), ((0, 0, []), ((2 + s.length + 6 : Nat) : Int))], 0, 0) := by
  obtain ⟨c, r, e, h1, h2⟩ := nameV_cons h
  obtain ⟨T, hT⟩ : ∃ T, T = ([55, 43] ++ s) ++ tailB := ⟨_, rfl⟩
  have hl : T.length = 2 + s.length + 6 := by rw [hT]; simp [tailB]; omega
  rw [← hT]
  have c61 : ¬ 61 = c := fun e2 => by subst e2; revert h1; decide
  have c61b : ((61 : UInt8) == c) = false := by simpa using c61
  have n1 : nextV ([55, 43] ++ s ++ tailB) = ((1, 7, []), ((1 : Nat) : Int), 0) :=
    next_num (i := 0) (W := [55]) (by simp) rfl rfl (by kernel_rfl)
  have o2 : opV (43 :: (s ++ tailB)) = [43] := by
    rw [e]; simp [opV, opsL, Lib.hasPrefix, List.isPrefixOf, List.find?, c61b]
  have n2 : nextV (43 :: (s ++ tailB)) = ((3, 0, [43]), ((1 : Nat) : Int), 0) := by
    have := next_op (s := 43 :: (s ++ tailB)) (i := 0) (by simp) rfl rfl (by rw [List.drop_zero, o2]; simp)
    rw [List.drop_zero, o2] at this; exact this
  have n3 : nextV (s ++ tailB) = ((2, 0, s), ((s.length : Nat) : Int), 0) := next_name' h rfl
  have n4 : nextV tailB = ((3, 0, [60, 60]), ((2 : Nat) : Int), 0) := by kernel_rfl
  have n5 : nextV [48, 120, 49, 102] = ((1, 31, []), ((4 : Nat) : Int), 0) := by kernel_rfl
  obtain ⟨m, hm⟩ : ∃ m, T.length + 1 = m + 6 := ⟨T.length - 5, by omega⟩
  have t1 := toksF_at' (s := T) (a := []) (b := [55, 43] ++ s ++ tailB) (i := 0) (k := m + 5) hT rfl (by simp) rfl n1 (by simp)
  have t2 := toksF_at' (s := T) (a := [55]) (b := 43 :: (s ++ tailB)) (i := 1) (k := m + 4) (by rw [hT]; simp) rfl (by simp) rfl n2 (by simp)
  have t3 := toksF_at' (s := T) (a := [55, 43]) (b := s ++ tailB) (i := 2) (k := m + 3) (by rw [hT]; simp) rfl (by rw [e]; simp) (by rw [e]; exact beg_blank h1) n3 (by simp)
  have t4 := toksF_at' (s := T) (a := [55, 43] ++ s) (b := tailB) (i := 2 + s.length) (k := m + 2) hT (by simp; omega) (by simp [tailB]) (by decide) n4 (by simp)
  have t5 := toksF_at' (s := T) (a := [55, 43] ++ s ++ [60, 60]) (b := [48, 120, 49, 102]) (i := 2 + s.length + 2) (k := m + 1) (by rw [hT]; simp [tailB]) (by simp; omega) (by simp) (by decide) n5 (by simp)
  have t6 := toksF_end T m
  rw [hl] at t6
  rw [hm, t1, Nat.zero_add, t2, t3, t4, t5, t6]
  rfl

theorem AtokNames_spec (s : Bytes) (w : World) (hs : s.length ≤ 9223372036854775807) (ht : Tab w) : CallR Tryd.prog 6 #[S s] w fun v w' => v = .bool true ∧ Chg [] w w' := by
 refine callR_of_wp (args := [_]) Tryd.func6 rfl (Nat.le_of_ble_eq_true rfl) ?_
 have HC : Chg [] w w := .refl _
 have ht1 := ht.lt
 refine x_seq ?_
 refine x_region rfl ?_
 refine w_plain rfl (st_assign (v := .bool _) rfl ?_)
 refine wops_nil ?_
 refine then_n ?_
 refine x_seq ?_
 refine x_seq ?_
 refine x_region rfl ?_
 refine w_plain rfl (st_move (v := S _) rfl ?_)
 refine w_plain rfl (st_slen (ct := #[9]) T.u9 rfl ?_)
 refine w_plain rfl (st_gtr rfl rfl ?_)
 refine w_plain rfl (st_move (v := .bool _) rfl ?_)
 refine w_split (d := 12) rfl (fun g1 => ?_) (fun g1 => ?_)
 ·skip
  try simp only [nm, ne_eq] at g1
  refine w_no 3 12 false ?_
  refine w_no 3 12 false ?_
  refine w_no 3 12 false ?_
  refine w_plain rfl (st_pick (b := true) (v := .bool _) rfl rfl ?_)
  refine wops_nil ?_
  refine then_n ?_
  refine x_cond (t := true) rfl (fun h0 => ?_) (fun h0 => ?_)
  rotate_left
  · exact absurd h0 (by decide)
  refine x_seq ?_
  refine x_region rfl ?_
  refine w_plain rfl (st_call (ags := []) rfl rfl T.ent11 rfl (awake_spec _ ht) ?_)
  rintro _ w2 ⟨rfl, c3⟩
  replace HC := HC.then c3
  replace ht := ht.tr0 c3
  refine w_plain rfl (st_assign (v := .bool _) rfl ?_)
  refine wops_nil ?_
  refine then_n ?_
  refine x_ret ?_
  refine then_r ?_
  refine ret_tmp (v := .bool _) rfl rfl ?_
  exact ⟨rfl, HC⟩
 ·skip
  try simp only [nm, ne_eq] at g1
  refine w_yes 3 12 false (st_move (v := S _) rfl ?_)
  refine w_yes 3 12 false (st_call (ags := [_]) rfl rfl T.ent18 rfl (Name_spec s _ (by omega)) ?_)
  rintro _ w4 ⟨rfl, c5⟩
  replace HC := HC.then c5
  replace ht := ht.tr0 c5
  refine w_yes 3 12 false (st_not rfl ?_)
  refine w_plain rfl (st_pick (b := false) (v := .bool _) rfl rfl ?_)
  refine wops_nil ?_
  refine then_n ?_
  refine x_cond rfl (fun h0 => ?_) (fun h0 => ?_)
  ·skip
   try simp only [nm, ne_eq] at h0
   refine x_seq ?_
   refine x_region rfl ?_
   refine w_plain rfl (st_call (ags := []) rfl rfl T.ent11 rfl (awake_spec _ ht) ?_)
   rintro _ w6 ⟨rfl, c7⟩
   replace HC := HC.then c7
   replace ht := ht.tr0 c7
   refine w_plain rfl (st_assign (v := .bool _) rfl ?_)
   refine wops_nil ?_
   refine then_n ?_
   refine x_ret ?_
   refine then_r ?_
   refine ret_tmp (v := .bool _) rfl rfl ?_
   exact ⟨rfl, HC⟩
  ·skip
   try simp only [nm, ne_eq] at h0
   have hnm : nameV s = true := by assumption
   refine x_skip ?_
   refine then_n ?_
   refine x_seq ?_
   refine x_region rfl ?_
   refine w_plain rfl (st_move (v := S _) rfl ?_)
   refine w_plain rfl (st_call (ags := [_]) rfl rfl T.ent12 rfl (Tokens_spec s _ rfl (by first | omega | (simp only [List.length_append, List.length_cons, List.length_nil, tailB]; omega)) ht) ?_)
   rintro _ w8 ⟨A1, cap1, rfl, ho1, c9⟩
   rw [names_one hnm] at ho1 ⊢
   have hs1 : Sl tkE w8 (fun k => w.heap.size ≤ k) A1 [((2, 0, s), 0), ((0, 0, []), (s.length : Int))] := (ho1.mono (D' := fun k => w.heap.size ≤ k) (fun k _ h => by have := HC.size; omega)).sl
   replace HC := HC.then c9
   replace ht := ht.tr0 c9
   refine w_plain rfl (st_move (v := .tuple ⟨[_, _, _]⟩) rfl ?_)
   refine w_plain rfl (st_extract (vs := [_, _, _]) (v := .slice _ _ _) rfl rfl ?_)
   refine w_plain rfl (st_extract (vs := [_, _, _]) (v := .int _ _) rfl rfl ?_)
   refine w_plain rfl (st_extract (vs := [_, _, _]) (v := .int _ _) rfl rfl ?_)
   refine w_plain rfl (st_assign (v := .slice _ _ _) rfl ?_)
   refine w_plain rfl (st_assign (v := .int _ _) rfl ?_)
   refine w_plain rfl (st_assign (v := .int _ _) rfl ?_)
   refine wops_nil ?_
   refine then_n ?_
   refine x_seq ?_
   refine x_region rfl ?_
   refine w_plain rfl (st_move (v := S _) rfl ?_)
   refine w_plain rfl (st_sadd rfl rfl (by (try simp only [List.length_append, List.length_cons, List.length_nil] at *); omega) ?_)
   refine w_plain rfl (st_sadd rfl rfl (by (try simp only [List.length_append, List.length_cons, List.length_nil] at *); omega) ?_)
   refine w_plain rfl (st_call (ags := [_]) rfl rfl T.ent12 rfl (Tokens_spec (([55, 43] ++ s) ++ tailB) _ rfl (by first | omega | (simp only [List.length_append, List.length_cons, List.length_nil, tailB]; omega)) ht) ?_)
   rintro _ w10 ⟨A2, cap2, rfl, ho2, c11⟩
   rw [names_two hnm] at ho2 ⊢
   have hs2 : Sl tkE w10 (fun k => w.heap.size ≤ k) A2 [((1, 7, []), 0), ((3, 0, [43]), 1), ((2, 0, s), 2), ((3, 0, [60, 60]), ((2 + s.length : Nat) : Int)), ((1, 31, []), ((2 + s.length + 2 : Nat) : Int)), ((0, 0, []), ((2 + s.length + 6 : Nat) : Int))] := (ho2.mono (D' := fun k => w.heap.size ≤ k) (fun k _ h => by have := HC.size; omega)).sl
   replace HC := HC.then c11
   replace ht := ht.tr0 c11
   replace hs1 := hs1.tr0 c11
   refine w_plain rfl (st_move (v := .tuple ⟨[_, _, _]⟩) rfl ?_)
   refine w_plain rfl (st_extract (vs := [_, _, _]) (v := .slice _ _ _) rfl rfl ?_)
   refine w_plain rfl (st_extract (vs := [_, _, _]) (v := .int _ _) rfl rfl ?_)
   refine w_plain rfl (st_extract (vs := [_, _, _]) (v := .int _ _) rfl rfl ?_)
   refine w_plain rfl (st_assign (v := .slice _ _ _) rfl ?_)
   refine w_plain rfl (st_assign (v := .int _ _) rfl ?_)
   refine w_plain rfl (st_assign (v := .int _ _) rfl ?_)
   refine wops_nil ?_
   refine then_n ?_
   refine x_seq ?_
   refine x_region rfl ?_
   refine w_plain rfl (st_move (v := .int _ _) rfl ?_)
   refine w_plain rfl (st_eql rfl rfl ?_)
   refine w_plain rfl (st_move (v := .bool _) rfl ?_)
   refine w_split (d := 34) rfl (fun g12 => ?_) (fun g12 => ?_)
   ·skip
    try simp only [nm, ne_eq] at g12
    refine w_yes 2 34 true (st_move (v := .slice _ _ _) rfl ?_)
    refine w_yes 2 34 true (st_len (ct := #[23]) (by rw [show ((#[23] : Array TypeId)[0]?).bind Tryd.prog.underlying = some (.slice 34) from T.u23]; rfl) rfl ?_)
    refine w_yes 2 34 true (st_eql rfl rfl ?_)
    refine w_plain rfl (st_pick (b := true) (v := .bool _) rfl rfl ?_)
    refine w_plain rfl (st_move (v := .bool _) rfl ?_)
    refine w_split (d := 39) rfl (fun g13 => ?_) (fun g13 => ?_)
    ·skip
     try simp only [nm, ne_eq] at g13
     refine w_yes 7 39 true (st_move (v := .slice _ _ _) rfl ?_)
     obtain ⟨x14, hx15⟩ : ∃ zz, ([((2, 0, s), 0), ((0, 0, []), (s.length : Int))] : List Tk)[0]? = some zz := ⟨_, List.getElem?_eq_getElem (by simp)⟩
     obtain ⟨lb20, _, vs19, hA16, hR18, hC17⟩ := hs1.at hx15
     obtain rfl : vs19 = tokC x14.1 x14.2 := hR18
     refine w_yes 7 39 true (st_indexAddr T.u23 T.size34 (congrArg (fun z => Value.slice z _ _) hA16) rfl (by omega) (by simp) ?_)
     refine w_yes 7 39 true (st_loadA (vs := [_, _, _, _]) T.agg34 rfl hC17 rfl ?_)
     refine w_yes 7 39 true (st_move (v := S _) rfl ?_)
     refine w_yes 7 39 true (st_bld (ps := [(0, .const (.int .i64 2)), (2, .tmp 43)]) (vs := [.int _ _, .int _ _, S _, .int _ _]) T.bld34 rfl ?_)
     refine w_yes 7 39 true (st_aeql T.eq34 rfl rfl rfl ?_)
     refine w_plain rfl (st_pick (b := true) (v := .bool _) rfl rfl ?_)
     refine w_plain rfl (st_move (v := .bool _) rfl ?_)
     refine w_split (d := 47) rfl (fun g21 => ?_) (fun g21 => ?_)
     ·skip
      try simp only [nm, ne_eq] at g21
      refine w_yes 15 47 true (st_move (v := .int _ _) rfl ?_)
      refine w_yes 15 47 true (st_eql rfl rfl ?_)
      refine w_plain rfl (st_pick (b := true) (v := .bool _) rfl rfl ?_)
      refine w_plain rfl (st_move (v := .bool _) rfl ?_)
      refine w_split (d := 51) rfl (fun g22 => ?_) (fun g22 => ?_)
      ·skip
       try simp only [nm, ne_eq] at g22
       refine w_yes 19 51 true (st_move (v := .slice _ _ _) rfl ?_)
       refine w_yes 19 51 true (st_len (ct := #[23]) (by rw [show ((#[23] : Array TypeId)[0]?).bind Tryd.prog.underlying = some (.slice 34) from T.u23]; rfl) rfl ?_)
       refine w_yes 19 51 true (st_eql rfl rfl ?_)
       refine w_plain rfl (st_pick (b := true) (v := .bool _) rfl rfl ?_)
       refine w_plain rfl (st_move (v := .bool _) rfl ?_)
       refine w_split (d := 56) rfl (fun g23 => ?_) (fun g23 => ?_)
       ·skip
        try simp only [nm, ne_eq] at g23
        refine w_yes 24 56 true (st_move (v := .slice _ _ _) rfl ?_)
        obtain ⟨x24, hx25⟩ : ∃ zz, ([((1, 7, []), 0), ((3, 0, [43]), 1), ((2, 0, s), 2), ((3, 0, [60, 60]), ((2 + s.length : Nat) : Int)), ((1, 31, []), ((2 + s.length + 2 : Nat) : Int)), ((0, 0, []), ((2 + s.length + 6 : Nat) : Int))] : List Tk)[2]? = some zz := ⟨_, List.getElem?_eq_getElem (by simp)⟩
        obtain ⟨lb30, _, vs29, hA26, hR28, hC27⟩ := hs2.at hx25
        obtain rfl : vs29 = tokC x24.1 x24.2 := hR28
        refine w_yes 24 56 true (st_indexAddr T.u23 T.size34 (congrArg (fun z => Value.slice z _ _) hA26) rfl (by omega) (by simp) ?_)
        refine w_yes 24 56 true (st_fieldAddr T.fld34_2 rfl ?_)
        refine w_yes 24 56 true (st_load1 (v := S _) T.one9 rfl (hC27.at (j := 2) rfl) ?_)
        refine w_yes 24 56 true (st_move (v := S _) rfl ?_)
        refine w_yes 24 56 true (st_seql rfl rfl ?_)
        refine w_plain rfl (st_pick (b := true) (v := .bool _) rfl rfl ?_)
        refine w_plain rfl (st_move (v := .bool _) rfl ?_)
        refine w_split (d := 64) rfl (fun g31 => ?_) (fun g31 => ?_)
        ·skip
         try simp only [nm, ne_eq] at g31
         refine w_yes 32 64 true (st_move (v := .slice _ _ _) rfl ?_)
         obtain ⟨x32, hx33⟩ : ∃ zz, ([((1, 7, []), 0), ((3, 0, [43]), 1), ((2, 0, s), 2), ((3, 0, [60, 60]), ((2 + s.length : Nat) : Int)), ((1, 31, []), ((2 + s.length + 2 : Nat) : Int)), ((0, 0, []), ((2 + s.length + 6 : Nat) : Int))] : List Tk)[2]? = some zz := ⟨_, List.getElem?_eq_getElem (by simp)⟩
         obtain ⟨lb38, _, vs37, hA34, hR36, hC35⟩ := hs2.at hx33
         obtain rfl : vs37 = tokC x32.1 x32.2 := hR36
         refine w_yes 32 64 true (st_indexAddr T.u23 T.size34 (congrArg (fun z => Value.slice z _ _) hA34) rfl (by omega) (by simp) ?_)
         refine w_yes 32 64 true (st_fieldAddr T.fld34_3 rfl ?_)
         refine w_yes 32 64 true (st_load1 (v := .int _ _) T.one3 rfl (hC35.at (j := 3) rfl) ?_)
         refine w_yes 32 64 true (st_eql rfl rfl ?_)
         refine w_plain rfl (st_pick (b := true) (v := .bool _) rfl rfl ?_)
         refine w_plain rfl (st_move (v := .bool _) rfl ?_)
         refine w_split (d := 71) rfl (fun g39 => ?_) (fun g39 => ?_)
         ·skip
          try simp only [nm, ne_eq] at g39
          refine w_yes 39 71 true (st_move (v := .slice _ _ _) rfl ?_)
          obtain ⟨x40, hx41⟩ : ∃ zz, ([((1, 7, []), 0), ((3, 0, [43]), 1), ((2, 0, s), 2), ((3, 0, [60, 60]), ((2 + s.length : Nat) : Int)), ((1, 31, []), ((2 + s.length + 2 : Nat) : Int)), ((0, 0, []), ((2 + s.length + 6 : Nat) : Int))] : List Tk)[4]? = some zz := ⟨_, List.getElem?_eq_getElem (by simp)⟩
          obtain ⟨lb46, _, vs45, hA42, hR44, hC43⟩ := hs2.at hx41
          obtain rfl : vs45 = tokC x40.1 x40.2 := hR44
          refine w_yes 39 71 true (st_indexAddr T.u23 T.size34 (congrArg (fun z => Value.slice z _ _) hA42) rfl (by omega) (by simp) ?_)
          refine w_yes 39 71 true (st_fieldAddr T.fld34_1 rfl ?_)
          refine w_yes 39 71 true (st_load1 (v := .int _ _) T.one2 rfl (hC43.at (j := 1) rfl) ?_)
          refine w_yes 39 71 true (st_eql rfl rfl ?_)
          refine w_plain rfl (st_pick (b := true) (v := .bool _) rfl rfl ?_)
          refine w_plain rfl (st_move (v := .bool _) rfl ?_)
          refine w_split (d := 78) rfl (fun g47 => ?_) (fun g47 => ?_)
          ·skip
           try simp only [nm, ne_eq] at g47
           refine w_yes 46 78 true (st_call (ags := []) rfl rfl T.ent11 rfl (awake_spec _ ht) ?_)
           rintro _ w48 ⟨rfl, c49⟩
           replace HC := HC.then c49
           replace ht := ht.tr0 c49
           replace hs1 := hs1.tr0 c49
           replace hs2 := hs2.tr0 c49
           refine w_plain rfl (st_pick (b := true) (v := .bool _) rfl rfl ?_)
           refine w_plain rfl (st_assign (v := .bool _) rfl ?_)
           refine wops_nil ?_
           refine then_n ?_
           refine x_ret ?_
           refine ret_tmp (v := .bool _) rfl rfl ?_
           exact ⟨rfl, HC⟩
          ·skip
           try simp only [nm, ne_eq] at g47
           have hxe := Option.some.inj ((hx41).symm.trans (show _ = some ((1, 31, []), ((2 + s.length + 2 : Nat) : Int)) from rfl))
           rw [hxe] at g47
           simp at g47
         ·skip
          try simp only [nm, ne_eq] at g39
          have hxe := Option.some.inj ((hx33).symm.trans (show _ = some ((2, 0, s), 2) from rfl))
          rw [hxe] at g39
          simp at g39
        ·skip
         try simp only [nm, ne_eq] at g31
         have hxe := Option.some.inj ((hx25).symm.trans (show _ = some ((2, 0, s), 2) from rfl))
         rw [hxe] at g31
         simp at g31
       ·skip
        try simp only [nm, ne_eq] at g23
        simp at g23
      ·skip
       try simp only [nm, ne_eq] at g22
       first | exact absurd rfl g22 | exact absurd trivial g22 | simp at g22
     ·skip
      try simp only [nm, ne_eq] at g21
      have hxe := Option.some.inj ((hx15).symm.trans (show _ = some ((2, 0, s), 0) from rfl))
      rw [hxe] at g21
      simp at g21
    ·skip
     try simp only [nm, ne_eq] at g13
     simp at g13
   ·skip
    try simp only [nm, ne_eq] at g12
    first | exact absurd rfl g12 | exact absurd trivial g12 | simp at g12

end Go.Proofs.YtcgcbpknbjafcaaDoor.K
