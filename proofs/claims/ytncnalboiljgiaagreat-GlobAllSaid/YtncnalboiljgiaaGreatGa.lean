import Derived.Test.YtncnalboiljgiaaGreatKitSq
import Derived.Test.YtncnalboiljgiaaGreatTy
import Derived.Test.YtncnalboiljgiaaGreatKitU
import Derived.Test.YtncnalboiljgiaaGreatPatt
set_option linter.unusedVariables false
set_option linter.unusedSimpArgs false
set_option autoImplicit false
set_option maxRecDepth 20000
namespace Go.Proofs.YtncnalboiljgiaaGreat.K
open Go Go.Proofs Go.RowKit
theorem wrap_c8 (x : Int) : IntKind.u8.wrap x = x % 256 := by simp [IntKind.wrap, IntKind.signed, IntKind.bits]
theorem g_upper (c : UInt8) (w : World) : CallR Tryz.prog 169 #[.int .u8 (c.toNat : Int)] w fun v w' => v = .bool (cuB c.toNat) ∧ Chg [] w w' := by
 refine callR_of_wp (args := [_]) Tryz.func169 rfl (Nat.le_of_ble_eq_true rfl) ?_
 have HC : Chg [] w w := .refl _
 refine sr rfl <| aB rfl <| en <| sr rfl <| mI rfl <| Wp rfl <| st_leq rfl rfl <| mB rfl <| w_split (d := 5) rfl (fun g1 => ?_) (fun g1 => ?_)
 ·try simp only [nm, ne_eq] at g1
  refine w_yes 2 5 true <| st_move (v := .int _ _) rfl <| w_yes 2 5 true <| st_leq rfl rfl <| pT rfl rfl <| aB rfl <| en <| x_ret <| ret_tmp (v := .bool _) rfl rfl ?_
  have hc := c.toNat_lt
  refine ⟨congrArg Value.bool ?_, HC⟩
  rw [Bool.eq_iff_iff]
  (try simp only [cuB, clB, cdB, csB, wrap_c8, Bool.or_eq_true, Bool.and_eq_true, Bool.not_eq_true', Bool.or_eq_false_iff, Bool.and_eq_false_imp, decide_eq_true_eq, decide_eq_false_iff_not] at *)
  (try simp only [true_iff, false_iff, iff_true, iff_false, Bool.false_eq_true, false_or, or_false, true_or, or_true])
  (try omega)
 ·try simp only [nm, ne_eq] at g1
  refine w_no 2 5 true <| w_no 2 5 true <| pF rfl rfl <| aB rfl <| en <| x_ret <| ret_tmp (v := .bool _) rfl rfl ?_
  have hc := c.toNat_lt
  refine ⟨congrArg Value.bool ?_, HC⟩
  rw [Bool.eq_iff_iff]
  (try simp only [cuB, clB, cdB, csB, wrap_c8, Bool.or_eq_true, Bool.and_eq_true, Bool.not_eq_true', Bool.or_eq_false_iff, Bool.and_eq_false_imp, decide_eq_true_eq, decide_eq_false_iff_not] at *)
  (try simp only [true_iff, false_iff, iff_true, iff_false, Bool.false_eq_true, false_or, or_false, true_or, or_true])
  (try omega)
theorem g_lower (c : UInt8) (w : World) : CallR Tryz.prog 170 #[.int .u8 (c.toNat : Int)] w fun v w' => v = .bool (clB c.toNat) ∧ Chg [] w w' := by
 refine callR_of_wp (args := [_]) Tryz.func170 rfl (Nat.le_of_ble_eq_true rfl) ?_
 have HC : Chg [] w w := .refl _
 refine sr rfl <| aB rfl <| en <| sr rfl <| mI rfl <| Wp rfl <| st_leq rfl rfl <| mB rfl <| w_split (d := 5) rfl (fun g1 => ?_) (fun g1 => ?_)
 ·try simp only [nm, ne_eq] at g1
  refine w_yes 2 5 true <| st_move (v := .int _ _) rfl <| w_yes 2 5 true <| st_leq rfl rfl <| pT rfl rfl <| aB rfl <| en <| x_ret <| ret_tmp (v := .bool _) rfl rfl ?_
  have hc := c.toNat_lt
  refine ⟨congrArg Value.bool ?_, HC⟩
  rw [Bool.eq_iff_iff]
  (try simp only [cuB, clB, cdB, csB, wrap_c8, Bool.or_eq_true, Bool.and_eq_true, Bool.not_eq_true', Bool.or_eq_false_iff, Bool.and_eq_false_imp, decide_eq_true_eq, decide_eq_false_iff_not] at *)
  (try simp only [true_iff, false_iff, iff_true, iff_false, Bool.false_eq_true, false_or, or_false, true_or, or_true])
  (try omega)
 ·try simp only [nm, ne_eq] at g1
  refine w_no 2 5 true <| w_no 2 5 true <| pF rfl rfl <| aB rfl <| en <| x_ret <| ret_tmp (v := .bool _) rfl rfl ?_
  have hc := c.toNat_lt
  refine ⟨congrArg Value.bool ?_, HC⟩
  rw [Bool.eq_iff_iff]
  (try simp only [cuB, clB, cdB, csB, wrap_c8, Bool.or_eq_true, Bool.and_eq_true, Bool.not_eq_true', Bool.or_eq_false_iff, Bool.and_eq_false_imp, decide_eq_true_eq, decide_eq_false_iff_not] at *)
  (try simp only [true_iff, false_iff, iff_true, iff_false, Bool.false_eq_true, false_or, or_false, true_or, or_true])
  (try omega)
theorem g_alpha (c : UInt8) (w : World) : CallR Tryz.prog 166 #[.int .u8 (c.toNat : Int)] w fun v w' => v = .bool (cuB c.toNat || clB c.toNat) ∧ Chg [] w w' := by
 refine callR_of_wp (args := [_]) Tryz.func166 rfl (Nat.le_of_ble_eq_true rfl) ?_
 have HC : Chg [] w w := .refl _
 refine sr rfl <| aB rfl <| en <| sr rfl <| mI rfl <| Wp rfl <| st_call (ags := [_]) rfl rfl T.ent169 rfl (g_upper c _) ?_
 rintro _ w1 ⟨rfl, c2⟩
 replace HC := HC.then c2
 refine mB rfl <| w_split (d := 5) rfl (fun g3 => ?_) (fun g3 => ?_)
 ·try simp only [nm, ne_eq] at g3
  refine w_no 2 5 false <| w_no 2 5 false <| pT rfl rfl <| aB rfl <| en <| x_ret <| ret_tmp (v := .bool _) rfl rfl ?_
  have hc := c.toNat_lt
  refine ⟨congrArg Value.bool ?_, HC⟩
  rw [Bool.eq_iff_iff]
  (try simp only [cuB, clB, cdB, csB, wrap_c8, Bool.or_eq_true, Bool.and_eq_true, Bool.not_eq_true', Bool.or_eq_false_iff, Bool.and_eq_false_imp, decide_eq_true_eq, decide_eq_false_iff_not] at *)
  (try simp only [true_iff, false_iff, iff_true, iff_false, Bool.false_eq_true, false_or, or_false, true_or, or_true])
  (try omega)
 ·try simp only [nm, ne_eq] at g3
  refine w_yes 2 5 false <| st_move (v := .int _ _) rfl <| w_yes 2 5 false <| st_call (ags := [_]) rfl rfl T.ent170 rfl (g_lower c _) ?_
  rintro _ w4 ⟨rfl, c5⟩
  replace HC := HC.then c5
  refine pF rfl rfl <| aB rfl <| en <| x_ret <| ret_tmp (v := .bool _) rfl rfl ?_
  have hc := c.toNat_lt
  refine ⟨congrArg Value.bool ?_, HC⟩
  rw [Bool.eq_iff_iff]
  (try simp only [cuB, clB, cdB, csB, wrap_c8, Bool.or_eq_true, Bool.and_eq_true, Bool.not_eq_true', Bool.or_eq_false_iff, Bool.and_eq_false_imp, decide_eq_true_eq, decide_eq_false_iff_not] at *)
  (try simp only [true_iff, false_iff, iff_true, iff_false, Bool.false_eq_true, false_or, or_false, true_or, or_true])
  (try omega)
theorem g_digit (c : UInt8) (w : World) : CallR Tryz.prog 167 #[.int .u8 (c.toNat : Int)] w fun v w' => v = .bool (cdB c.toNat) ∧ Chg [] w w' := by
 refine callR_of_wp (args := [_]) Tryz.func167 rfl (Nat.le_of_ble_eq_true rfl) ?_
 have HC : Chg [] w w := .refl _
 refine sr rfl <| aB rfl <| en <| sr rfl <| mI rfl <| Wp rfl <| st_sub rfl rfl <| Wp rfl <| st_lss rfl rfl <| aB rfl <| en <| x_ret <| ret_tmp (v := .bool _) rfl rfl ?_
 have hc := c.toNat_lt
 refine ⟨congrArg Value.bool ?_, HC⟩
 rw [Bool.eq_iff_iff]
 (try simp only [cuB, clB, cdB, csB, wrap_c8, Bool.or_eq_true, Bool.and_eq_true, Bool.not_eq_true', Bool.or_eq_false_iff, Bool.and_eq_false_imp, decide_eq_true_eq, decide_eq_false_iff_not] at *)
 (try simp only [true_iff, false_iff, iff_true, iff_false, Bool.false_eq_true, false_or, or_false, true_or, or_true])
 (try omega)
theorem g_alnum (c : UInt8) (w : World) : CallR Tryz.prog 168 #[.int .u8 (c.toNat : Int)] w fun v w' => v = .bool (cuB c.toNat || clB c.toNat || cdB c.toNat) ∧ Chg [] w w' := by
 refine callR_of_wp (args := [_]) Tryz.func168 rfl (Nat.le_of_ble_eq_true rfl) ?_
 have HC : Chg [] w w := .refl _
 refine sr rfl <| aB rfl <| en <| sr rfl <| mI rfl <| Wp rfl <| st_call (ags := [_]) rfl rfl T.ent166 rfl (g_alpha c _) ?_
 rintro _ w1 ⟨rfl, c2⟩
 replace HC := HC.then c2
 refine mB rfl <| w_split (d := 5) rfl (fun g3 => ?_) (fun g3 => ?_)
 ·try simp only [nm, ne_eq] at g3
  refine w_no 2 5 false <| w_no 2 5 false <| pT rfl rfl <| aB rfl <| en <| x_ret <| ret_tmp (v := .bool _) rfl rfl ?_
  have hc := c.toNat_lt
  refine ⟨congrArg Value.bool ?_, HC⟩
  rw [Bool.eq_iff_iff]
  (try simp only [cuB, clB, cdB, csB, wrap_c8, Bool.or_eq_true, Bool.and_eq_true, Bool.not_eq_true', Bool.or_eq_false_iff, Bool.and_eq_false_imp, decide_eq_true_eq, decide_eq_false_iff_not] at *)
  (try simp only [true_iff, false_iff, iff_true, iff_false, Bool.false_eq_true, false_or, or_false, true_or, or_true])
  (try omega)
 ·try simp only [nm, ne_eq] at g3
  refine w_yes 2 5 false <| st_move (v := .int _ _) rfl <| w_yes 2 5 false <| st_call (ags := [_]) rfl rfl T.ent167 rfl (g_digit c _) ?_
  rintro _ w4 ⟨rfl, c5⟩
  replace HC := HC.then c5
  refine pF rfl rfl <| aB rfl <| en <| x_ret <| ret_tmp (v := .bool _) rfl rfl ?_
  have hc := c.toNat_lt
  refine ⟨congrArg Value.bool ?_, HC⟩
  rw [Bool.eq_iff_iff]
  (try simp only [cuB, clB, cdB, csB, wrap_c8, Bool.or_eq_true, Bool.and_eq_true, Bool.not_eq_true', Bool.or_eq_false_iff, Bool.and_eq_false_imp, decide_eq_true_eq, decide_eq_false_iff_not] at *)
  (try simp only [true_iff, false_iff, iff_true, iff_false, Bool.false_eq_true, false_or, or_false, true_or, or_true])
  (try omega)
theorem g_blank (c : UInt8) (w : World) : CallR Tryz.prog 171 #[.int .u8 (c.toNat : Int)] w fun v w' => v = .bool (decide (c.toNat = 32) || decide (c.toNat = 9)) ∧ Chg [] w w' := by
 refine callR_of_wp (args := [_]) Tryz.func171 rfl (Nat.le_of_ble_eq_true rfl) ?_
 have HC : Chg [] w w := .refl _
 refine sr rfl <| aB rfl <| en <| sr rfl <| mI rfl <| Wp rfl <| st_eql rfl rfl <| mB rfl <| w_split (d := 5) rfl (fun g1 => ?_) (fun g1 => ?_)
 ·try simp only [nm, ne_eq] at g1
  refine w_no 2 5 false <| w_no 2 5 false <| pT rfl rfl <| aB rfl <| en <| x_ret <| ret_tmp (v := .bool _) rfl rfl ?_
  have hc := c.toNat_lt
  refine ⟨congrArg Value.bool ?_, HC⟩
  rw [Bool.eq_iff_iff]
  (try simp only [cuB, clB, cdB, csB, wrap_c8, Bool.or_eq_true, Bool.and_eq_true, Bool.not_eq_true', Bool.or_eq_false_iff, Bool.and_eq_false_imp, decide_eq_true_eq, decide_eq_false_iff_not] at *)
  (try simp only [true_iff, false_iff, iff_true, iff_false, Bool.false_eq_true, false_or, or_false, true_or, or_true])
  (try omega)
 ·try simp only [nm, ne_eq] at g1
  refine w_yes 2 5 false <| st_move (v := .int _ _) rfl <| w_yes 2 5 false <| st_eql rfl rfl <| pF rfl rfl <| aB rfl <| en <| x_ret <| ret_tmp (v := .bool _) rfl rfl ?_
  have hc := c.toNat_lt
  refine ⟨congrArg Value.bool ?_, HC⟩
  rw [Bool.eq_iff_iff]
  (try simp only [cuB, clB, cdB, csB, wrap_c8, Bool.or_eq_true, Bool.and_eq_true, Bool.not_eq_true', Bool.or_eq_false_iff, Bool.and_eq_false_imp, decide_eq_true_eq, decide_eq_false_iff_not] at *)
  (try simp only [true_iff, false_iff, iff_true, iff_false, Bool.false_eq_true, false_or, or_false, true_or, or_true])
  (try omega)
theorem g_cntrl (c : UInt8) (w : World) : CallR Tryz.prog 174 #[.int .u8 (c.toNat : Int)] w fun v w' => v = .bool (decide (c.toNat < 32) || decide (c.toNat = 127)) ∧ Chg [] w w' := by
 refine callR_of_wp (args := [_]) Tryz.func174 rfl (Nat.le_of_ble_eq_true rfl) ?_
 have HC : Chg [] w w := .refl _
 refine sr rfl <| aB rfl <| en <| sr rfl <| mI rfl <| Wp rfl <| st_lss rfl rfl <| mB rfl <| w_split (d := 5) rfl (fun g1 => ?_) (fun g1 => ?_)
 ·try simp only [nm, ne_eq] at g1
  refine w_no 2 5 false <| w_no 2 5 false <| pT rfl rfl <| aB rfl <| en <| x_ret <| ret_tmp (v := .bool _) rfl rfl ?_
  have hc := c.toNat_lt
  refine ⟨congrArg Value.bool ?_, HC⟩
  rw [Bool.eq_iff_iff]
  (try simp only [cuB, clB, cdB, csB, wrap_c8, Bool.or_eq_true, Bool.and_eq_true, Bool.not_eq_true', Bool.or_eq_false_iff, Bool.and_eq_false_imp, decide_eq_true_eq, decide_eq_false_iff_not] at *)
  (try simp only [true_iff, false_iff, iff_true, iff_false, Bool.false_eq_true, false_or, or_false, true_or, or_true])
  (try omega)
 ·try simp only [nm, ne_eq] at g1
  refine w_yes 2 5 false <| st_move (v := .int _ _) rfl <| w_yes 2 5 false <| st_eql rfl rfl <| pF rfl rfl <| aB rfl <| en <| x_ret <| ret_tmp (v := .bool _) rfl rfl ?_
  have hc := c.toNat_lt
  refine ⟨congrArg Value.bool ?_, HC⟩
  rw [Bool.eq_iff_iff]
  (try simp only [cuB, clB, cdB, csB, wrap_c8, Bool.or_eq_true, Bool.and_eq_true, Bool.not_eq_true', Bool.or_eq_false_iff, Bool.and_eq_false_imp, decide_eq_true_eq, decide_eq_false_iff_not] at *)
  (try simp only [true_iff, false_iff, iff_true, iff_false, Bool.false_eq_true, false_or, or_false, true_or, or_true])
  (try omega)
def SpanA (w : World) (a b : Nat) (lo hi : Nat) : Prop := Blk w a [.int .u8 (lo : Int)] 5 ∧ Blk w b [.int .u8 (hi : Int)] 5
theorem SpanA.tr {w w' : World} {a b lo hi k : Nat} (h : SpanA w a b lo hi) (c : Chg [k] w w') (h1 : a ≠ k) (h2 : b ≠ k) : SpanA w' a b lo hi := ⟨h.1.tr c (by simpa using h1), h.2.tr c (by simpa using h2)⟩
theorem SpanA.tr0 {w w' : World} {a b lo hi : Nat} (h : SpanA w a b lo hi) (c : Chg [] w w') : SpanA w' a b lo hi := ⟨h.1.tr0 c, h.2.tr0 c⟩
theorem g_span (lo hi : Nat) (w : World) : CallR Tryz.prog 165 #[.int .u8 (lo : Int), .int .u8 (hi : Int)] w fun v w' => (∃ a b, v = Value.func (.func 176) #[] #[.pointer (some ⟨a, 0, none⟩), .pointer (some ⟨b, 0, none⟩)] ∧ w.heap.size ≤ a ∧ w.heap.size ≤ b ∧ SpanA w' a b lo hi) ∧ Chg [] w w' := by
 refine callR_of_wp (args := [_, _]) Tryz.func165 rfl (Nat.le_of_ble_eq_true rfl) ?_
 have HC : Chg [] w w := .refl _
 refine sr rfl <| Wp rfl <| st_box (v := .int _ _) (vs := [_]) rfl rfl ?_
 intro b2 w1 e2 c3 hb4
 have ge_b2 := gB e2 HC.size
 replace HC := HC.then c3
 clear e2
 refine Wp rfl <| st_box (v := .int _ _) (vs := [_]) rfl rfl ?_
 intro b3 w5 e6 c7 hb8
 have ge_b3 := gB e6 HC.size
 have ne_b2_b3 := nF e6 hb4.ne_size
 replace HC := HC.then c7
 replace hb4 := hb4.tr0 c7
 clear e6
 refine av (v := .nilFunc) rfl <| en <| sr rfl <| Wp rfl <| st_makeFunc <| av (v := .func _ _ _) rfl <| en <| x_ret <| ret_tmp (v := .func _ _ _) rfl rfl ?_
 exact ⟨⟨b2, b3, rfl, ge_b2, ge_b3, hb4, hb8⟩, HC⟩
theorem g_in {a b lo hi : Nat} (c : UInt8) {w : World} (h : SpanA w a b lo hi) : CallR Tryz.prog 176 #[.int .u8 (c.toNat : Int), .pointer (some ⟨a, 0, none⟩), .pointer (some ⟨b, 0, none⟩)] w fun v w' => v = .bool (csB lo hi c.toNat) ∧ Chg [] w w' := by
 obtain ⟨ha, hb⟩ := h
 refine callR_of_wp (args := [_, _, _]) Tryz.func176 rfl (Nat.le_of_ble_eq_true rfl) ?_
 have HC : Chg [] w w := .refl _
 refine sr rfl <| aB rfl <| en <| sr rfl <| lI T.one5 rfl (ha.cell rfl) <| mI rfl <| Wp rfl <| st_leq rfl rfl <| mB rfl <| w_split (d := 8) rfl (fun g1 => ?_) (fun g1 => ?_)
 ·try simp only [nm, ne_eq] at g1
  refine w_yes 3 8 true <| st_move (v := .int _ _) rfl <| w_yes 3 8 true <| st_load1 (v := .int _ _) T.one5 rfl (hb.cell rfl) <| w_yes 3 8 true <| st_leq rfl rfl <| pT rfl rfl <| aB rfl <| en <| x_ret <| ret_tmp (v := .bool _) rfl rfl ?_
  have hc := c.toNat_lt
  refine ⟨congrArg Value.bool ?_, HC⟩
  rw [Bool.eq_iff_iff]
  (try simp only [cuB, clB, cdB, csB, wrap_c8, Bool.or_eq_true, Bool.and_eq_true, Bool.not_eq_true', Bool.or_eq_false_iff, Bool.and_eq_false_imp, decide_eq_true_eq, decide_eq_false_iff_not] at *)
  (try simp only [true_iff, false_iff, iff_true, iff_false, Bool.false_eq_true, false_or, or_false, true_or, or_true])
  (try omega)
 ·try simp only [nm, ne_eq] at g1
  iterate 3 refine w_no 3 8 true ?_
  refine pF rfl rfl <| aB rfl <| en <| x_ret <| ret_tmp (v := .bool _) rfl rfl ?_
  have hc := c.toNat_lt
  refine ⟨congrArg Value.bool ?_, HC⟩
  rw [Bool.eq_iff_iff]
  (try simp only [cuB, clB, cdB, csB, wrap_c8, Bool.or_eq_true, Bool.and_eq_true, Bool.not_eq_true', Bool.or_eq_false_iff, Bool.and_eq_false_imp, decide_eq_true_eq, decide_eq_false_iff_not] at *)
  (try simp only [true_iff, false_iff, iff_true, iff_false, Bool.false_eq_true, false_or, or_false, true_or, or_true])
  (try omega)
theorem g_space (c : UInt8) (w : World) : CallR Tryz.prog 172 #[.int .u8 (c.toNat : Int)] w fun v w' => v = .bool (csB 9 13 c.toNat || decide (c.toNat = 32)) ∧ Chg [] w w' := by
 refine callR_of_wp (args := [_]) Tryz.func172 rfl (Nat.le_of_ble_eq_true rfl) ?_
 have HC : Chg [] w w := .refl _
 refine sr rfl <| aB rfl <| en <| sr rfl <| mI rfl <| Wp rfl <| st_eql rfl rfl <| mB rfl <| w_split (d := 5) rfl (fun g1 => ?_) (fun g1 => ?_)
 ·try simp only [nm, ne_eq] at g1
  iterate 3 refine w_no 2 5 false ?_
  refine pT rfl rfl <| aB rfl <| en <| x_ret <| ret_tmp (v := .bool _) rfl rfl ?_
  have hc := c.toNat_lt
  refine ⟨congrArg Value.bool ?_, HC⟩
  rw [Bool.eq_iff_iff]
  (try simp only [cuB, clB, cdB, csB, wrap_c8, Bool.or_eq_true, Bool.and_eq_true, Bool.not_eq_true', Bool.or_eq_false_iff, Bool.and_eq_false_imp, decide_eq_true_eq, decide_eq_false_iff_not] at *)
  (try simp only [true_iff, false_iff, iff_true, iff_false, Bool.false_eq_true, false_or, or_false, true_or, or_true])
  (try omega)
 ·try simp only [nm, ne_eq] at g1
  refine w_yes 2 5 false <| st_call (ags := [_, _]) rfl rfl T.ent165 rfl (g_span 9 13 _) ?_
  rintro _ w2 ⟨⟨a1, b1, rfl, hge_a1, hge_b1, hs_a1⟩, c3⟩
  replace HC := HC.then c3
  refine w_yes 2 5 false <| st_move (v := .int _ _) rfl <| w_yes 2 5 false <| st_call (ags := [_, _, _]) rfl rfl T.ent176 rfl (g_in c hs_a1) ?_
  rintro _ w4 ⟨rfl, c5⟩
  replace HC := HC.then c5
  refine pF rfl rfl <| aB rfl <| en <| x_ret <| ret_tmp (v := .bool _) rfl rfl ?_
  have hc := c.toNat_lt
  refine ⟨congrArg Value.bool ?_, HC⟩
  rw [Bool.eq_iff_iff]
  (try simp only [cuB, clB, cdB, csB, wrap_c8, Bool.or_eq_true, Bool.and_eq_true, Bool.not_eq_true', Bool.or_eq_false_iff, Bool.and_eq_false_imp, decide_eq_true_eq, decide_eq_false_iff_not] at *)
  (try simp only [true_iff, false_iff, iff_true, iff_false, Bool.false_eq_true, false_or, or_false, true_or, or_true])
  (try omega)
theorem g_xdigit (c : UInt8) (w : World) : CallR Tryz.prog 175 #[.int .u8 (c.toNat : Int)] w fun v w' => v = .bool (cdB c.toNat || csB 97 102 c.toNat || csB 65 70 c.toNat) ∧ Chg [] w w' := by
 refine callR_of_wp (args := [_]) Tryz.func175 rfl (Nat.le_of_ble_eq_true rfl) ?_
 have HC : Chg [] w w := .refl _
 refine sr rfl <| aB rfl <| en <| sr rfl <| mI rfl <| Wp rfl <| st_call (ags := [_]) rfl rfl T.ent167 rfl (g_digit c _) ?_
 rintro _ w1 ⟨rfl, c2⟩
 replace HC := HC.then c2
 refine mB rfl <| w_split (d := 5) rfl (fun g3 => ?_) (fun g3 => ?_)
 ·try simp only [nm, ne_eq] at g3
  iterate 3 refine w_no 2 5 false ?_
  refine pT rfl rfl <| mB rfl ?_
  iterate 3 refine w_no 7 10 false ?_
  refine pT rfl rfl <| aB rfl <| en <| x_ret <| ret_tmp (v := .bool _) rfl rfl ?_
  have hc := c.toNat_lt
  refine ⟨congrArg Value.bool ?_, HC⟩
  rw [Bool.eq_iff_iff]
  (try simp only [cuB, clB, cdB, csB, wrap_c8, Bool.or_eq_true, Bool.and_eq_true, Bool.not_eq_true', Bool.or_eq_false_iff, Bool.and_eq_false_imp, decide_eq_true_eq, decide_eq_false_iff_not] at *)
  (try simp only [true_iff, false_iff, iff_true, iff_false, Bool.false_eq_true, false_or, or_false, true_or, or_true])
  (try omega)
 ·try simp only [nm, ne_eq] at g3
  refine w_yes 2 5 false <| st_call (ags := [_, _]) rfl rfl T.ent165 rfl (g_span 97 102 _) ?_
  rintro _ w4 ⟨⟨a1, b1, rfl, hge_a1, hge_b1, hs_a1⟩, c5⟩
  replace HC := HC.then c5
  refine w_yes 2 5 false <| st_move (v := .int _ _) rfl <| w_yes 2 5 false <| st_call (ags := [_, _, _]) rfl rfl T.ent176 rfl (g_in c hs_a1) ?_
  rintro _ w6 ⟨rfl, c7⟩
  replace HC := HC.then c7
  refine pF rfl rfl <| mB rfl <| w_split (d := 10) rfl (fun g8 => ?_) (fun g8 => ?_)
  ·try simp only [nm, ne_eq] at g8
   iterate 3 refine w_no 7 10 false ?_
   refine pT rfl rfl <| aB rfl <| en <| x_ret <| ret_tmp (v := .bool _) rfl rfl ?_
   have hc := c.toNat_lt
   refine ⟨congrArg Value.bool ?_, HC⟩
   rw [Bool.eq_iff_iff]
   (try simp only [cuB, clB, cdB, csB, wrap_c8, Bool.or_eq_true, Bool.and_eq_true, Bool.not_eq_true', Bool.or_eq_false_iff, Bool.and_eq_false_imp, decide_eq_true_eq, decide_eq_false_iff_not] at *)
   (try simp only [true_iff, false_iff, iff_true, iff_false, Bool.false_eq_true, false_or, or_false, true_or, or_true])
   (try omega)
  ·try simp only [nm, ne_eq] at g8
   refine w_yes 7 10 false <| st_call (ags := [_, _]) rfl rfl T.ent165 rfl (g_span 65 70 _) ?_
   rintro _ w9 ⟨⟨a2, b2, rfl, hge_a2, hge_b2, hs_a2⟩, c10⟩
   replace HC := HC.then c10
   refine w_yes 7 10 false <| st_move (v := .int _ _) rfl <| w_yes 7 10 false <| st_call (ags := [_, _, _]) rfl rfl T.ent176 rfl (g_in c hs_a2) ?_
   rintro _ w11 ⟨rfl, c12⟩
   replace HC := HC.then c12
   refine pF rfl rfl <| aB rfl <| en <| x_ret <| ret_tmp (v := .bool _) rfl rfl ?_
   have hc := c.toNat_lt
   refine ⟨congrArg Value.bool ?_, HC⟩
   rw [Bool.eq_iff_iff]
   (try simp only [cuB, clB, cdB, csB, wrap_c8, Bool.or_eq_true, Bool.and_eq_true, Bool.not_eq_true', Bool.or_eq_false_iff, Bool.and_eq_false_imp, decide_eq_true_eq, decide_eq_false_iff_not] at *)
   (try simp only [true_iff, false_iff, iff_true, iff_false, Bool.false_eq_true, false_or, or_false, true_or, or_true])
   (try omega)
theorem g_punct {bg a b : Nat} (c : UInt8) {w : World} (hg : Blk w bg [Value.func (.func 176) #[] #[.pointer (some ⟨a, 0, none⟩), .pointer (some ⟨b, 0, none⟩)]] 135) (h : SpanA w a b 33 126) : CallR Tryz.prog 173 #[.int .u8 (c.toNat : Int), .pointer (some ⟨bg, 0, none⟩)] w fun v w' => v = .bool (csB 33 126 c.toNat && !(cuB c.toNat || clB c.toNat || cdB c.toNat)) ∧ Chg [] w w' := by
 refine callR_of_wp (args := [_, _]) Tryz.func173 rfl (Nat.le_of_ble_eq_true rfl) ?_
 have HC : Chg [] w w := .refl _
 refine sr rfl <| aB rfl <| en <| sr rfl <| Wp rfl <| st_load1 T.one135 rfl (hg.cell rfl) <| mI rfl <| Wp rfl <| st_call (ags := [_, _, _]) rfl rfl T.ent176 rfl (g_in c h) ?_
 rintro _ w1 ⟨rfl, c2⟩
 replace HC := HC.then c2
 refine mB rfl <| w_split (d := 7) rfl (fun g3 => ?_) (fun g3 => ?_)
 ·try simp only [nm, ne_eq] at g3
  refine w_yes 3 7 true <| st_move (v := .int _ _) rfl <| w_yes 3 7 true <| st_call (ags := [_]) rfl rfl T.ent168 rfl (g_alnum c _) ?_
  rintro _ w4 ⟨rfl, c5⟩
  replace HC := HC.then c5
  refine w_yes 3 7 true <| st_not rfl <| pT rfl rfl <| aB rfl <| en <| x_ret <| ret_tmp (v := .bool _) rfl rfl ?_
  have hc := c.toNat_lt
  refine ⟨congrArg Value.bool ?_, HC⟩
  rw [Bool.eq_iff_iff]
  (try simp only [cuB, clB, cdB, csB, wrap_c8, Bool.or_eq_true, Bool.and_eq_true, Bool.not_eq_true', Bool.or_eq_false_iff, Bool.and_eq_false_imp, decide_eq_true_eq, decide_eq_false_iff_not] at *)
  (try simp only [true_iff, false_iff, iff_true, iff_false, Bool.false_eq_true, false_or, or_false, true_or, or_true])
  (try omega)
 ·try simp only [nm, ne_eq] at g3
  iterate 3 refine w_no 3 7 true ?_
  refine pF rfl rfl <| aB rfl <| en <| x_ret <| ret_tmp (v := .bool _) rfl rfl ?_
  have hc := c.toNat_lt
  refine ⟨congrArg Value.bool ?_, HC⟩
  rw [Bool.eq_iff_iff]
  (try simp only [cuB, clB, cdB, csB, wrap_c8, Bool.or_eq_true, Bool.and_eq_true, Bool.not_eq_true', Bool.or_eq_false_iff, Bool.and_eq_false_imp, decide_eq_true_eq, decide_eq_false_iff_not] at *)
  (try simp only [true_iff, false_iff, iff_true, iff_false, Bool.false_eq_true, false_or, or_false, true_or, or_true])
  (try omega)
def clTab (d : Nat → Bool) (b5 g1 g2 p1 p2 : Nat) (n : Bytes) : Option Value := if n = [97, 108, 112, 104, 97] ∧ d 1 = true then some (Value.func (.func 166) #[] #[]) else if n = [100, 105, 103, 105, 116] ∧ d 2 = true then some (Value.func (.func 167) #[] #[]) else if n = [97, 108, 110, 117, 109] ∧ d 3 = true then some (Value.func (.func 168) #[] #[]) else if n = [117, 112, 112, 101, 114] ∧ d 4 = true then some (Value.func (.func 169) #[] #[]) else if n = [108, 111, 119, 101, 114] ∧ d 5 = true then some (Value.func (.func 170) #[] #[]) else if n = [98, 108, 97, 110, 107] ∧ d 6 = true then some (Value.func (.func 171) #[] #[]) else if n = [115, 112, 97, 99, 101] ∧ d 7 = true then some (Value.func (.func 172) #[] #[]) else if n = [112, 117, 110, 99, 116] ∧ d 9 = true then some (Value.func (.func 173) #[] #[.pointer (some ⟨b5, 0, none⟩)]) else if n = [112, 114, 105, 110, 116] ∧ d 11 = true then some (Value.func (.func 176) #[] #[.pointer (some ⟨p1, 0, none⟩), .pointer (some ⟨p2, 0, none⟩)]) else if n = [103, 114, 97, 112, 104] ∧ d 13 = true then some (Value.func (.func 176) #[] #[.pointer (some ⟨g1, 0, none⟩), .pointer (some ⟨g2, 0, none⟩)]) else if n = [99, 110, 116, 114, 108] ∧ d 14 = true then some (Value.func (.func 174) #[] #[]) else if n = [120, 100, 105, 103, 105, 116] ∧ d 15 = true then some (Value.func (.func 175) #[] #[]) else none
def clFull (b5 g1 g2 p1 p2 : Nat) (n : Bytes) : Option Value := if n = [97, 108, 112, 104, 97] then some (Value.func (.func 166) #[] #[]) else if n = [100, 105, 103, 105, 116] then some (Value.func (.func 167) #[] #[]) else if n = [97, 108, 110, 117, 109] then some (Value.func (.func 168) #[] #[]) else if n = [117, 112, 112, 101, 114] then some (Value.func (.func 169) #[] #[]) else if n = [108, 111, 119, 101, 114] then some (Value.func (.func 170) #[] #[]) else if n = [98, 108, 97, 110, 107] then some (Value.func (.func 171) #[] #[]) else if n = [115, 112, 97, 99, 101] then some (Value.func (.func 172) #[] #[]) else if n = [112, 117, 110, 99, 116] then some (Value.func (.func 173) #[] #[.pointer (some ⟨b5, 0, none⟩)]) else if n = [112, 114, 105, 110, 116] then some (Value.func (.func 176) #[] #[.pointer (some ⟨p1, 0, none⟩), .pointer (some ⟨p2, 0, none⟩)]) else if n = [103, 114, 97, 112, 104] then some (Value.func (.func 176) #[] #[.pointer (some ⟨g1, 0, none⟩), .pointer (some ⟨g2, 0, none⟩)]) else if n = [99, 110, 116, 114, 108] then some (Value.func (.func 174) #[] #[]) else if n = [120, 100, 105, 103, 105, 116] then some (Value.func (.func 175) #[] #[]) else none
theorem clTab_full {d : Nat → Bool} (h : ∀ i, i < 16 → d i = true) (b5 g1 g2 p1 p2 : Nat) : clTab d b5 g1 g2 p1 p2 = clFull b5 g1 g2 p1 p2 := by
  funext n
  unfold clTab clFull
  simp only [h 1 (by omega), h 2 (by omega), h 3 (by omega), h 4 (by omega), h 5 (by omega), h 6 (by omega), h 7 (by omega), h 9 (by omega), h 11 (by omega), h 13 (by omega), h 14 (by omega), h 15 (by omega), and_true]
theorem clTab_none {d : Nat → Bool} (h : ∀ i, (i = 0 ∨ i = 8 ∨ i = 10 ∨ i = 12) ∨ 16 ≤ i ∨ ¬ d i = true) (b5 g1 g2 p1 p2 : Nat) (n : Bytes) : clTab d b5 g1 g2 p1 p2 n = none := by
  have e : ∀ i, (i ≠ 0 ∧ i ≠ 8 ∧ i ≠ 10 ∧ i ≠ 12 ∧ i < 16) → ¬ d i = true := fun i hi => by rcases h i with h | h | h <;> first | omega | exact h
  unfold clTab
  simp only [e 1 (by omega), e 2 (by omega), e 3 (by omega), e 4 (by omega), e 5 (by omega), e 6 (by omega), e 7 (by omega), e 9 (by omega), e 11 (by omega), e 13 (by omega), e 14 (by omega), e 15 (by omega), Bool.false_eq_true, and_false, if_false]
theorem clTab_p {d : Nat → Bool} (h : d 11 = false) (b5 g1 g2 p1 p2 q1 q2 : Nat) (n : Bytes) : clTab d b5 g1 g2 p1 p2 n = clTab d b5 g1 g2 q1 q2 n := by
  unfold clTab; simp only [h, Bool.false_eq_true, and_false, if_false]
theorem clTab_alpha {d : Nat → Bool} (b5 g1 g2 p1 p2 : Nat) (n : Bytes) (hd : d 1 = false) : clTab (dn d 1) b5 g1 g2 p1 p2 n = if [97, 108, 112, 104, 97] = n then some (Value.func (.func 166) #[] #[]) else clTab d b5 g1 g2 p1 p2 n := by
  by_cases e : [97, 108, 112, 104, 97] = n
  · subst e; rw [if_pos rfl]; rfl
  · rw [if_neg e]; unfold clTab
    have e2 : ¬ n = [97, 108, 112, 104, 97] := fun h => e h.symm
    simp only [e2, false_and, if_false, dn]; rfl
theorem clTab_digit {d : Nat → Bool} (b5 g1 g2 p1 p2 : Nat) (n : Bytes) (hd : d 2 = false) : clTab (dn d 2) b5 g1 g2 p1 p2 n = if [100, 105, 103, 105, 116] = n then some (Value.func (.func 167) #[] #[]) else clTab d b5 g1 g2 p1 p2 n := by
  by_cases e : [100, 105, 103, 105, 116] = n
  · subst e; rw [if_pos rfl]; rfl
  · rw [if_neg e]; unfold clTab
    have e2 : ¬ n = [100, 105, 103, 105, 116] := fun h => e h.symm
    simp only [e2, false_and, if_false, dn]; rfl
theorem clTab_alnum {d : Nat → Bool} (b5 g1 g2 p1 p2 : Nat) (n : Bytes) (hd : d 3 = false) : clTab (dn d 3) b5 g1 g2 p1 p2 n = if [97, 108, 110, 117, 109] = n then some (Value.func (.func 168) #[] #[]) else clTab d b5 g1 g2 p1 p2 n := by
  by_cases e : [97, 108, 110, 117, 109] = n
  · subst e; rw [if_pos rfl]; rfl
  · rw [if_neg e]; unfold clTab
    have e2 : ¬ n = [97, 108, 110, 117, 109] := fun h => e h.symm
    simp only [e2, false_and, if_false, dn]; rfl
theorem clTab_upper {d : Nat → Bool} (b5 g1 g2 p1 p2 : Nat) (n : Bytes) (hd : d 4 = false) : clTab (dn d 4) b5 g1 g2 p1 p2 n = if [117, 112, 112, 101, 114] = n then some (Value.func (.func 169) #[] #[]) else clTab d b5 g1 g2 p1 p2 n := by
  by_cases e : [117, 112, 112, 101, 114] = n
  · subst e; rw [if_pos rfl]; rfl
  · rw [if_neg e]; unfold clTab
    have e2 : ¬ n = [117, 112, 112, 101, 114] := fun h => e h.symm
    simp only [e2, false_and, if_false, dn]; rfl
theorem clTab_lower {d : Nat → Bool} (b5 g1 g2 p1 p2 : Nat) (n : Bytes) (hd : d 5 = false) : clTab (dn d 5) b5 g1 g2 p1 p2 n = if [108, 111, 119, 101, 114] = n then some (Value.func (.func 170) #[] #[]) else clTab d b5 g1 g2 p1 p2 n := by
  by_cases e : [108, 111, 119, 101, 114] = n
  · subst e; rw [if_pos rfl]; rfl
  · rw [if_neg e]; unfold clTab
    have e2 : ¬ n = [108, 111, 119, 101, 114] := fun h => e h.symm
    simp only [e2, false_and, if_false, dn]; rfl
theorem clTab_blank {d : Nat → Bool} (b5 g1 g2 p1 p2 : Nat) (n : Bytes) (hd : d 6 = false) : clTab (dn d 6) b5 g1 g2 p1 p2 n = if [98, 108, 97, 110, 107] = n then some (Value.func (.func 171) #[] #[]) else clTab d b5 g1 g2 p1 p2 n := by
  by_cases e : [98, 108, 97, 110, 107] = n
  · subst e; rw [if_pos rfl]; rfl
  · rw [if_neg e]; unfold clTab
    have e2 : ¬ n = [98, 108, 97, 110, 107] := fun h => e h.symm
    simp only [e2, false_and, if_false, dn]; rfl
theorem clTab_space {d : Nat → Bool} (b5 g1 g2 p1 p2 : Nat) (n : Bytes) (hd : d 7 = false) : clTab (dn d 7) b5 g1 g2 p1 p2 n = if [115, 112, 97, 99, 101] = n then some (Value.func (.func 172) #[] #[]) else clTab d b5 g1 g2 p1 p2 n := by
  by_cases e : [115, 112, 97, 99, 101] = n
  · subst e; rw [if_pos rfl]; rfl
  · rw [if_neg e]; unfold clTab
    have e2 : ¬ n = [115, 112, 97, 99, 101] := fun h => e h.symm
    simp only [e2, false_and, if_false, dn]; rfl
theorem clTab_punct {d : Nat → Bool} (b5 g1 g2 p1 p2 : Nat) (n : Bytes) (hd : d 9 = false) : clTab (dn d 9) b5 g1 g2 p1 p2 n = if [112, 117, 110, 99, 116] = n then some (Value.func (.func 173) #[] #[.pointer (some ⟨b5, 0, none⟩)]) else clTab d b5 g1 g2 p1 p2 n := by
  by_cases e : [112, 117, 110, 99, 116] = n
  · subst e; rw [if_pos rfl]; rfl
  · rw [if_neg e]; unfold clTab
    have e2 : ¬ n = [112, 117, 110, 99, 116] := fun h => e h.symm
    simp only [e2, false_and, if_false, dn]; rfl
theorem clTab_print {d : Nat → Bool} (b5 g1 g2 p1 p2 : Nat) (n : Bytes) (hd : d 11 = false) : clTab (dn d 11) b5 g1 g2 p1 p2 n = if [112, 114, 105, 110, 116] = n then some (Value.func (.func 176) #[] #[.pointer (some ⟨p1, 0, none⟩), .pointer (some ⟨p2, 0, none⟩)]) else clTab d b5 g1 g2 p1 p2 n := by
  by_cases e : [112, 114, 105, 110, 116] = n
  · subst e; rw [if_pos rfl]; rfl
  · rw [if_neg e]; unfold clTab
    have e2 : ¬ n = [112, 114, 105, 110, 116] := fun h => e h.symm
    simp only [e2, false_and, if_false, dn]; rfl
theorem clTab_graph {d : Nat → Bool} (b5 g1 g2 p1 p2 : Nat) (n : Bytes) (hd : d 13 = false) : clTab (dn d 13) b5 g1 g2 p1 p2 n = if [103, 114, 97, 112, 104] = n then some (Value.func (.func 176) #[] #[.pointer (some ⟨g1, 0, none⟩), .pointer (some ⟨g2, 0, none⟩)]) else clTab d b5 g1 g2 p1 p2 n := by
  by_cases e : [103, 114, 97, 112, 104] = n
  · subst e; rw [if_pos rfl]; rfl
  · rw [if_neg e]; unfold clTab
    have e2 : ¬ n = [103, 114, 97, 112, 104] := fun h => e h.symm
    simp only [e2, false_and, if_false, dn]; rfl
theorem clTab_cntrl {d : Nat → Bool} (b5 g1 g2 p1 p2 : Nat) (n : Bytes) (hd : d 14 = false) : clTab (dn d 14) b5 g1 g2 p1 p2 n = if [99, 110, 116, 114, 108] = n then some (Value.func (.func 174) #[] #[]) else clTab d b5 g1 g2 p1 p2 n := by
  by_cases e : [99, 110, 116, 114, 108] = n
  · subst e; rw [if_pos rfl]; rfl
  · rw [if_neg e]; unfold clTab
    have e2 : ¬ n = [99, 110, 116, 114, 108] := fun h => e h.symm
    simp only [e2, false_and, if_false, dn]; rfl
theorem clTab_xdigit {d : Nat → Bool} (b5 g1 g2 p1 p2 : Nat) (n : Bytes) (hd : d 15 = false) : clTab (dn d 15) b5 g1 g2 p1 p2 n = if [120, 100, 105, 103, 105, 116] = n then some (Value.func (.func 175) #[] #[]) else clTab d b5 g1 g2 p1 p2 n := by
  by_cases e : [120, 100, 105, 103, 105, 116] = n
  · subst e; rw [if_pos rfl]; rfl
  · rw [if_neg e]; unfold clTab
    have e2 : ¬ n = [120, 100, 105, 103, 105, 116] := fun h => e h.symm
    simp only [e2, false_and, if_false, dn]; rfl
theorem MpAt.congr {w : World} {b : Nat} {g g' : Bytes → Option Value} (h : MpAt w b g) (e : ∀ n, g' n = g n) : MpAt w b g' := by obtain ⟨es, h1, h2⟩ := h; exact ⟨es, h1, fun n => by rw [h2, e]⟩
theorem eff_v {P : Program} {X : Value → World → Prop} {o : Oper} {E : Env} {w w' : World} {K : Value → World → Prop} {v : Value} (h : (execOp (ev E) o).run P w = .ok (.value v) w') (k : K v w') : effP P X o E w K := .inl ⟨v, w', h, k⟩
theorem eff_ins {P : Program} {X : Value → World → Prop} {dst : Option Nat} {ty : TypeId} {pos : String} {af : Array Edge} {gd : Option (Nat × Bool)} {E : Env} {w : World} {K : Value → World → Prop} {t e : TypeId} {x y z : Operand} {b : Nat} {s : Bytes} {v : Value} {g : Bytes → Option Value} (g' : Bytes → Option Value) (hB : mapB P t e) (hx : ev E x = .map (some b)) (hy : ev E y = S s) (hz : ev E z = v) (hm : MpAt w b g) (hg : ∀ n, g' n = if s = n then some v else g n)
    (k : ∀ w', Chg [b] w w' → MpAt w' b g' → K undef w') : effP P X ⟨dst, .insert t x y z, ty, pos, af, gd⟩ E w K := by
  obtain ⟨es, h1, h2⟩ := hm
  obtain ⟨w', h3, h4, h5⟩ := run_mapUpdate (v := v) (s := s) hB h1
  exact .inr (.inl ⟨w', by simp only [execOp, hx, hy, hz, Sem.run_bind, h3, Result.andThen, Sem.run_pure], k w' h4 (MpAt.put h5 h2 hg)⟩)
def clVal (b5 g1 g2 p1 p2 : Nat) (n : Bytes) : Value := (clFull b5 g1 g2 p1 p2 n).getD .nilFunc
def clRes (b5 g1 g2 p1 p2 : Nat) (n : Bytes) : Value := .tuple ⟨[clVal b5 g1 g2 p1 p2 n, .bool (clFull b5 g1 g2 p1 p2 n).isSome]⟩
def clI (n : Bytes) (w0 : World) (b5 g1 g2 : Nat) (d : Nat → Bool) (G : Env) (w : World) : Prop := Chg [] w0 w ∧ ∃ p1 p2 bm : Nat, (d 0 = true → G 10 = .map (some bm) ∧ w0.heap.size ≤ bm ∧ MpAt w bm (clTab d b5 g1 g2 p1 p2)) ∧ (d 0 = true → d 10 = true → p1 ≠ bm ∧ p2 ≠ bm) ∧ (d 10 = true → G 12 = Value.func (.func 176) #[] #[.pointer (some ⟨p1, 0, none⟩), .pointer (some ⟨p2, 0, none⟩)] ∧ SpanA w p1 p2 32 126) ∧ (d 8 = true → G 11 = Value.func (.func 173) #[] #[.pointer (some ⟨b5, 0, none⟩)]) ∧ (d 12 = true → G 13 = Value.func (.func 176) #[] #[.pointer (some ⟨g1, 0, none⟩), .pointer (some ⟨g2, 0, none⟩)]) ∧ (d 16 = true → G 14 = .map (some bm)) ∧ (d 17 = true → G 15 = S n) ∧ (d 18 = true → G 16 = clRes b5 g1 g2 p1 p2 n) ∧ (d 19 = true → G 9 = clRes b5 g1 g2 p1 p2 n) ∧ (d 20 = true → G 17 = clVal b5 g1 g2 p1 p2 n) ∧ (d 21 = true → G 18 = .bool (clFull b5 g1 g2 p1 p2 n).isSome) ∧ (d 22 = true → G 6 = clVal b5 g1 g2 p1 p2 n) ∧ (d 23 = true → G 7 = .bool (clFull b5 g1 g2 p1 p2 n).isSome)
theorem g_class (n : Bytes) (c : UInt8) (w : World) : CallR Tryz.prog 164 #[S n, .int .u8 (c.toNat : Int)] w fun v w' => v = .bool (classB n c.toNat) ∧ Chg [] w w' := by
 refine callR_of_wp (args := [_, _]) Tryz.func164 rfl (Nat.le_of_ble_eq_true rfl) ?_
 have HC : Chg [] w w := .refl _
 refine sr rfl <| aB rfl <| en <| sr rfl <| Wp rfl <| st_call (ags := [_, _]) rfl rfl T.ent165 rfl (g_span 33 126 _) ?_
 rintro _ w1 ⟨⟨g1, g2, rfl, hge_g1, hge_g2, hs_g1⟩, c2⟩
 replace HC := HC.then c2
 refine Wp rfl <| st_alloc T.zero135 ?_
 intro b5 w3 e4 c5 hb6
 have ge_b5 := gB e4 HC.size
 have nsp_b5 : g1 ≠ b5 ∧ g2 ≠ b5 := ⟨by have := hs_g1.1.lt; rw [e4]; omega, by have := hs_g1.2.lt; rw [e4]; omega⟩
 replace HC := HC.then c5
 replace hs_g1 := hs_g1.tr0 c5
 clear e4
 refine Wp rfl <| st_st (v := .func _ _ _) T.size135 rfl rfl rfl hb6 ?_
 intro w7 c8 hb9; simp only [setVs, setV] at hb9
 clear hb6
 replace HC := HC.then1 c8 ge_b5
 replace hs_g1 := hs_g1.tr c8 nsp_b5.1 nsp_b5.2
 refine en <| x_seq ?_
 have hb5k := hb9
 have hspk := hs_g1
 have hCk := HC
 refine x_bag [10, 11, 12, 13, 14, 15, 16, 9, 17, 18, 6, 7] [0, 1, 2, 3, 4, 5, 6, 7, 8, 9, 10, 11, 12, 13, 14, 15, 16, 17, 18, 19, 20, 21, 22, 23] (clI n w7 b5 g1 g2) T.mixed (by kernel_rfl) (by kernel_rfl) (by kernel_rfl) (by kernel_rfl) ?_ ?_ ?_ ?_
 ·intro d hd
  have hd0 : ∀ i, i < 24 → ¬ d i = true := fun i hi h => by rw [hd i hi] at h; cases h
  exact ⟨Chg.drew _, 0, 0, 0, fun h => absurd h (hd0 0 (by omega)), fun h => absurd h (hd0 0 (by omega)), fun h => absurd h (hd0 10 (by omega)), fun h => absurd h (hd0 8 (by omega)), fun h => absurd h (hd0 12 (by omega)), fun h => absurd h (hd0 16 (by omega)), fun h => absurd h (hd0 17 (by omega)), fun h => absurd h (hd0 18 (by omega)), fun h => absurd h (hd0 19 (by omega)), fun h => absurd h (hd0 20 (by omega)), fun h => absurd h (hd0 21 (by omega)), fun h => absurd h (hd0 22 (by omega)), fun h => absurd h (hd0 23 (by omega))⟩
 ·rintro d d' G0 W hdd ⟨hC, p1, p2, bm, h0, hx, h10, h8, h12, h16, h17, h18, h19, h20, h21, h22, h23⟩
  have he : ∀ i, i < 24 → d' i = true → d i = true := fun i hi h => by rw [hdd i hi]; exact h
  have ht : ∀ n, clTab d' b5 g1 g2 p1 p2 n = clTab d b5 g1 g2 p1 p2 n := fun n => by unfold clTab; simp only [hdd 1 (by decide), hdd 2 (by decide), hdd 3 (by decide), hdd 4 (by decide), hdd 5 (by decide), hdd 6 (by decide), hdd 7 (by decide), hdd 9 (by decide), hdd 11 (by decide), hdd 13 (by decide), hdd 14 (by decide), hdd 15 (by decide)]
  exact ⟨hC, p1, p2, bm, fun h => ⟨(h0 (he 0 (by omega) h)).1, (h0 (he 0 (by omega) h)).2.1, (h0 (he 0 (by omega) h)).2.2.congr ht⟩, fun h h9 => hx (he 0 (by omega) h) (he 10 (by omega) h9), fun h => h10 (he 10 (by omega) h), fun h => h8 (he 8 (by omega) h), fun h => h12 (he 12 (by omega) h), fun h => h16 (he 16 (by omega) h), fun h => h17 (he 17 (by omega) h), fun h => h18 (he 18 (by omega) h), fun h => h19 (he 19 (by omega) h), fun h => h20 (he 20 (by omega) h), fun h => h21 (he 21 (by omega) h), fun h => h22 (he 22 (by omega) h), fun h => h23 (he 23 (by omega) h)⟩
 ·rintro i o d G0 W ho hdi hdp hdw hA ⟨hC, p1, p2, bm, h0, hx, h10, h8, h12, h16, h17, h18, h19, h20, h21, h22, h23⟩
  have hb5w := (hb5k.tr0 hC)
  have hil := (List.getElem?_eq_some_iff.1 ho).1
  have hil : i < 24 := hil
  have e0 : G0 0 = S n := (hA 0 rfl).trans rfl
  have e5 : G0 5 = .pointer (some ⟨b5, 0, none⟩) := (hA 5 rfl).trans rfl
  match i, hil with
  | 0, _ =>
   obtain rfl := Option.some.inj ho
   have n1 : ¬ d 1 = true := fun h => absurd (hdw 1 _ rfl h 0 (by decide)) (by rw [hdi]; exact Bool.false_ne_true)
   have n2 : ¬ d 2 = true := fun h => absurd (hdw 2 _ rfl h 0 (by decide)) (by rw [hdi]; exact Bool.false_ne_true)
   have n3 : ¬ d 3 = true := fun h => absurd (hdw 3 _ rfl h 0 (by decide)) (by rw [hdi]; exact Bool.false_ne_true)
   have n4 : ¬ d 4 = true := fun h => absurd (hdw 4 _ rfl h 0 (by decide)) (by rw [hdi]; exact Bool.false_ne_true)
   have n5 : ¬ d 5 = true := fun h => absurd (hdw 5 _ rfl h 0 (by decide)) (by rw [hdi]; exact Bool.false_ne_true)
   have n6 : ¬ d 6 = true := fun h => absurd (hdw 6 _ rfl h 0 (by decide)) (by rw [hdi]; exact Bool.false_ne_true)
   have n7 : ¬ d 7 = true := fun h => absurd (hdw 7 _ rfl h 0 (by decide)) (by rw [hdi]; exact Bool.false_ne_true)
   have n9 : ¬ d 9 = true := fun h => absurd (hdw 9 _ rfl h 0 (by decide)) (by rw [hdi]; exact Bool.false_ne_true)
   have n11 : ¬ d 11 = true := fun h => absurd (hdw 11 _ rfl h 0 (by decide)) (by rw [hdi]; exact Bool.false_ne_true)
   have n13 : ¬ d 13 = true := fun h => absurd (hdw 13 _ rfl h 0 (by decide)) (by rw [hdi]; exact Bool.false_ne_true)
   have n14 : ¬ d 14 = true := fun h => absurd (hdw 14 _ rfl h 0 (by decide)) (by rw [hdi]; exact Bool.false_ne_true)
   have n15 : ¬ d 15 = true := fun h => absurd (hdw 15 _ rfl h 0 (by decide)) (by rw [hdi]; exact Bool.false_ne_true)
   have hcn := Chg.alloc W (.map #[] 0)
   refine .inl ⟨rfl, eff_v r_makeMap ?_⟩
   have hnn : ∀ i, (i = 0 ∨ i = 8 ∨ i = 10 ∨ i = 12) ∨ 16 ≤ i ∨ ¬ dn d 0 i = true := fun i => by
     by_cases q : (i = 0 ∨ i = 8 ∨ i = 10 ∨ i = 12) ∨ 16 ≤ i
     · rcases q with q | q; (exact .inl q); exact .inr (.inl q)
     · have q2 : i = 1 ∨ i = 2 ∨ i = 3 ∨ i = 4 ∨ i = 5 ∨ i = 6 ∨ i = 7 ∨ i = 9 ∨ i = 11 ∨ i = 13 ∨ i = 14 ∨ i = 15 := by omega
       rcases q2 with rfl | rfl | rfl | rfl | rfl | rfl | rfl | rfl | rfl | rfl | rfl | rfl <;> exact .inr (.inr (by assumption))
   exact ⟨hC.then hcn, p1, p2, W.heap.size, fun _ => ⟨rfl, hC.size, MpAt.of ⟨#[], 0, World.alloc_heap_new W _, rfl⟩ (clTab_none hnn _ _ _ _ _)⟩, fun _ h => ⟨Nat.ne_of_lt (h10 h).2.1.lt, Nat.ne_of_lt (h10 h).2.2.lt⟩, fun h => ⟨(h10 h).1, (h10 h).2.tr0 hcn⟩, h8, h12, fun h => absurd (hdw 16 _ rfl h 0 (by decide)) (by rw [hdi]; exact Bool.false_ne_true), h17, h18, h19, h20, h21, h22, h23⟩
  | 1, _ =>
   obtain rfl := Option.some.inj ho
   obtain ⟨g10, hlo, hm⟩ := h0 (hdp 0 (by decide))
   refine .inl ⟨rfl, eff_ins (clTab (dn d 1) b5 g1 g2 p1 p2) T.map203 g10 rfl rfl hm (fun n => clTab_alpha b5 g1 g2 p1 p2 n hdi) (fun w' hc hm' => ?_)⟩
   exact ⟨hC.trans hc (fun k hk => .inr (by rw [List.mem_singleton.1 hk]; exact hlo)), p1, p2, bm, fun _ => ⟨g10, hlo, hm'⟩, hx, fun h => ⟨(h10 h).1, (h10 h).2.tr hc (hx (hdp 0 (by decide)) h).1 (hx (hdp 0 (by decide)) h).2⟩, h8, h12, h16, h17, h18, h19, h20, h21, h22, h23⟩
  | 2, _ =>
   obtain rfl := Option.some.inj ho
   obtain ⟨g10, hlo, hm⟩ := h0 (hdp 0 (by decide))
   refine .inl ⟨rfl, eff_ins (clTab (dn d 2) b5 g1 g2 p1 p2) T.map203 g10 rfl rfl hm (fun n => clTab_digit b5 g1 g2 p1 p2 n hdi) (fun w' hc hm' => ?_)⟩
   exact ⟨hC.trans hc (fun k hk => .inr (by rw [List.mem_singleton.1 hk]; exact hlo)), p1, p2, bm, fun _ => ⟨g10, hlo, hm'⟩, hx, fun h => ⟨(h10 h).1, (h10 h).2.tr hc (hx (hdp 0 (by decide)) h).1 (hx (hdp 0 (by decide)) h).2⟩, h8, h12, h16, h17, h18, h19, h20, h21, h22, h23⟩
  | 3, _ =>
   obtain rfl := Option.some.inj ho
   obtain ⟨g10, hlo, hm⟩ := h0 (hdp 0 (by decide))
   refine .inl ⟨rfl, eff_ins (clTab (dn d 3) b5 g1 g2 p1 p2) T.map203 g10 rfl rfl hm (fun n => clTab_alnum b5 g1 g2 p1 p2 n hdi) (fun w' hc hm' => ?_)⟩
   exact ⟨hC.trans hc (fun k hk => .inr (by rw [List.mem_singleton.1 hk]; exact hlo)), p1, p2, bm, fun _ => ⟨g10, hlo, hm'⟩, hx, fun h => ⟨(h10 h).1, (h10 h).2.tr hc (hx (hdp 0 (by decide)) h).1 (hx (hdp 0 (by decide)) h).2⟩, h8, h12, h16, h17, h18, h19, h20, h21, h22, h23⟩
  | 4, _ =>
   obtain rfl := Option.some.inj ho
   obtain ⟨g10, hlo, hm⟩ := h0 (hdp 0 (by decide))
   refine .inl ⟨rfl, eff_ins (clTab (dn d 4) b5 g1 g2 p1 p2) T.map203 g10 rfl rfl hm (fun n => clTab_upper b5 g1 g2 p1 p2 n hdi) (fun w' hc hm' => ?_)⟩
   exact ⟨hC.trans hc (fun k hk => .inr (by rw [List.mem_singleton.1 hk]; exact hlo)), p1, p2, bm, fun _ => ⟨g10, hlo, hm'⟩, hx, fun h => ⟨(h10 h).1, (h10 h).2.tr hc (hx (hdp 0 (by decide)) h).1 (hx (hdp 0 (by decide)) h).2⟩, h8, h12, h16, h17, h18, h19, h20, h21, h22, h23⟩
  | 5, _ =>
   obtain rfl := Option.some.inj ho
   obtain ⟨g10, hlo, hm⟩ := h0 (hdp 0 (by decide))
   refine .inl ⟨rfl, eff_ins (clTab (dn d 5) b5 g1 g2 p1 p2) T.map203 g10 rfl rfl hm (fun n => clTab_lower b5 g1 g2 p1 p2 n hdi) (fun w' hc hm' => ?_)⟩
   exact ⟨hC.trans hc (fun k hk => .inr (by rw [List.mem_singleton.1 hk]; exact hlo)), p1, p2, bm, fun _ => ⟨g10, hlo, hm'⟩, hx, fun h => ⟨(h10 h).1, (h10 h).2.tr hc (hx (hdp 0 (by decide)) h).1 (hx (hdp 0 (by decide)) h).2⟩, h8, h12, h16, h17, h18, h19, h20, h21, h22, h23⟩
  | 6, _ =>
   obtain rfl := Option.some.inj ho
   obtain ⟨g10, hlo, hm⟩ := h0 (hdp 0 (by decide))
   refine .inl ⟨rfl, eff_ins (clTab (dn d 6) b5 g1 g2 p1 p2) T.map203 g10 rfl rfl hm (fun n => clTab_blank b5 g1 g2 p1 p2 n hdi) (fun w' hc hm' => ?_)⟩
   exact ⟨hC.trans hc (fun k hk => .inr (by rw [List.mem_singleton.1 hk]; exact hlo)), p1, p2, bm, fun _ => ⟨g10, hlo, hm'⟩, hx, fun h => ⟨(h10 h).1, (h10 h).2.tr hc (hx (hdp 0 (by decide)) h).1 (hx (hdp 0 (by decide)) h).2⟩, h8, h12, h16, h17, h18, h19, h20, h21, h22, h23⟩
  | 7, _ =>
   obtain rfl := Option.some.inj ho
   obtain ⟨g10, hlo, hm⟩ := h0 (hdp 0 (by decide))
   refine .inl ⟨rfl, eff_ins (clTab (dn d 7) b5 g1 g2 p1 p2) T.map203 g10 rfl rfl hm (fun n => clTab_space b5 g1 g2 p1 p2 n hdi) (fun w' hc hm' => ?_)⟩
   exact ⟨hC.trans hc (fun k hk => .inr (by rw [List.mem_singleton.1 hk]; exact hlo)), p1, p2, bm, fun _ => ⟨g10, hlo, hm'⟩, hx, fun h => ⟨(h10 h).1, (h10 h).2.tr hc (hx (hdp 0 (by decide)) h).1 (hx (hdp 0 (by decide)) h).2⟩, h8, h12, h16, h17, h18, h19, h20, h21, h22, h23⟩
  | 8, _ =>
   obtain rfl := Option.some.inj ho
   refine .inl ⟨rfl, eff_v r_makeFunc ?_⟩
   exact ⟨hC, p1, p2, bm, h0, hx, h10, fun _ => by show Value.func _ #[] #[G0 5] = _; rw [e5], h12, h16, h17, h18, h19, h20, h21, h22, h23⟩
  | 9, _ =>
   obtain rfl := Option.some.inj ho
   obtain ⟨g10, hlo, hm⟩ := h0 (hdp 0 (by decide))
   refine .inl ⟨rfl, eff_ins (clTab (dn d 9) b5 g1 g2 p1 p2) T.map203 g10 rfl (h8 (hdp 8 (by decide))) hm (fun n => clTab_punct b5 g1 g2 p1 p2 n hdi) (fun w' hc hm' => ?_)⟩
   exact ⟨hC.trans hc (fun k hk => .inr (by rw [List.mem_singleton.1 hk]; exact hlo)), p1, p2, bm, fun _ => ⟨g10, hlo, hm'⟩, hx, fun h => ⟨(h10 h).1, (h10 h).2.tr hc (hx (hdp 0 (by decide)) h).1 (hx (hdp 0 (by decide)) h).2⟩, h8, h12, h16, h17, h18, h19, h20, h21, h22, h23⟩
  | 10, _ =>
   obtain rfl := Option.some.inj ho
   refine .inl ⟨rfl, .inr (.inr (.inl ⟨_, _, _, _, r_call (ags := [.int .u8 32, .int .u8 126]) rfl rfl T.ent165 rfl, g_span 32 126 _, ?_⟩))⟩
   rintro _ w' ⟨⟨a, b, rfl, ha, hb, hs⟩, hc⟩
   have n11 : d 11 = false := by
     cases h : d 11 with
     | false => rfl
     | true => have h9 := (hdw 11 _ rfl h 10 (by decide)); rw [hdi] at h9; cases h9
   exact ⟨hC.then hc, a, b, bm, fun h => ⟨(h0 h).1, (h0 h).2.1, ((h0 h).2.2.tr0 hc).congr (fun n => clTab_p n11 _ _ _ _ _ _ _ n)⟩, fun h _ => ⟨Nat.ne_of_gt (Nat.lt_of_lt_of_le (h0 h).2.2.lt ha), Nat.ne_of_gt (Nat.lt_of_lt_of_le (h0 h).2.2.lt hb)⟩, fun _ => ⟨rfl, hs⟩, h8, h12, h16, h17, fun h => absurd (hdw 16 _ rfl (hdw 18 _ rfl h 16 (by decide)) 10 (by decide)) (by rw [hdi]; exact Bool.false_ne_true), fun h => absurd (hdw 16 _ rfl (hdw 18 _ rfl (hdw 19 _ rfl h 18 (by decide)) 16 (by decide)) 10 (by decide)) (by rw [hdi]; exact Bool.false_ne_true), fun h => absurd (hdw 16 _ rfl (hdw 18 _ rfl (hdw 19 _ rfl (hdw 20 _ rfl h 19 (by decide)) 18 (by decide)) 16 (by decide)) 10 (by decide)) (by rw [hdi]; exact Bool.false_ne_true), fun h => absurd (hdw 16 _ rfl (hdw 18 _ rfl (hdw 19 _ rfl (hdw 21 _ rfl h 19 (by decide)) 18 (by decide)) 16 (by decide)) 10 (by decide)) (by rw [hdi]; exact Bool.false_ne_true), fun h => absurd (hdw 22 _ rfl h 10 (by decide)) (by rw [hdi]; exact Bool.false_ne_true), fun h => absurd (hdw 23 _ rfl h 10 (by decide)) (by rw [hdi]; exact Bool.false_ne_true)⟩
  | 11, _ =>
   obtain rfl := Option.some.inj ho
   obtain ⟨g10, hlo, hm⟩ := h0 (hdp 0 (by decide))
   refine .inl ⟨rfl, eff_ins (clTab (dn d 11) b5 g1 g2 p1 p2) T.map203 g10 rfl (h10 (hdp 10 (by decide))).1 hm (fun n => clTab_print b5 g1 g2 p1 p2 n hdi) (fun w' hc hm' => ?_)⟩
   exact ⟨hC.trans hc (fun k hk => .inr (by rw [List.mem_singleton.1 hk]; exact hlo)), p1, p2, bm, fun _ => ⟨g10, hlo, hm'⟩, hx, fun h => ⟨(h10 h).1, (h10 h).2.tr hc (hx (hdp 0 (by decide)) h).1 (hx (hdp 0 (by decide)) h).2⟩, h8, h12, h16, h17, h18, h19, h20, h21, h22, h23⟩
  | 12, _ =>
   obtain rfl := Option.some.inj ho
   refine .inl ⟨rfl, eff_v (v := Value.func (.func 176) #[] #[.pointer (some ⟨g1, 0, none⟩), .pointer (some ⟨g2, 0, none⟩)]) (r_load1 T.one135 e5 (hb5w.cell rfl)) ?_⟩
   exact ⟨hC, p1, p2, bm, h0, hx, h10, h8, fun _ => rfl, h16, h17, h18, h19, h20, h21, h22, h23⟩
  | 13, _ =>
   obtain rfl := Option.some.inj ho
   obtain ⟨g10, hlo, hm⟩ := h0 (hdp 0 (by decide))
   refine .inl ⟨rfl, eff_ins (clTab (dn d 13) b5 g1 g2 p1 p2) T.map203 g10 rfl (h12 (hdp 12 (by decide))) hm (fun n => clTab_graph b5 g1 g2 p1 p2 n hdi) (fun w' hc hm' => ?_)⟩
   exact ⟨hC.trans hc (fun k hk => .inr (by rw [List.mem_singleton.1 hk]; exact hlo)), p1, p2, bm, fun _ => ⟨g10, hlo, hm'⟩, hx, fun h => ⟨(h10 h).1, (h10 h).2.tr hc (hx (hdp 0 (by decide)) h).1 (hx (hdp 0 (by decide)) h).2⟩, h8, h12, h16, h17, h18, h19, h20, h21, h22, h23⟩
  | 14, _ =>
   obtain rfl := Option.some.inj ho
   obtain ⟨g10, hlo, hm⟩ := h0 (hdp 0 (by decide))
   refine .inl ⟨rfl, eff_ins (clTab (dn d 14) b5 g1 g2 p1 p2) T.map203 g10 rfl rfl hm (fun n => clTab_cntrl b5 g1 g2 p1 p2 n hdi) (fun w' hc hm' => ?_)⟩
   exact ⟨hC.trans hc (fun k hk => .inr (by rw [List.mem_singleton.1 hk]; exact hlo)), p1, p2, bm, fun _ => ⟨g10, hlo, hm'⟩, hx, fun h => ⟨(h10 h).1, (h10 h).2.tr hc (hx (hdp 0 (by decide)) h).1 (hx (hdp 0 (by decide)) h).2⟩, h8, h12, h16, h17, h18, h19, h20, h21, h22, h23⟩
  | 15, _ =>
   obtain rfl := Option.some.inj ho
   obtain ⟨g10, hlo, hm⟩ := h0 (hdp 0 (by decide))
   refine .inl ⟨rfl, eff_ins (clTab (dn d 15) b5 g1 g2 p1 p2) T.map203 g10 rfl rfl hm (fun n => clTab_xdigit b5 g1 g2 p1 p2 n hdi) (fun w' hc hm' => ?_)⟩
   exact ⟨hC.trans hc (fun k hk => .inr (by rw [List.mem_singleton.1 hk]; exact hlo)), p1, p2, bm, fun _ => ⟨g10, hlo, hm'⟩, hx, fun h => ⟨(h10 h).1, (h10 h).2.tr hc (hx (hdp 0 (by decide)) h).1 (hx (hdp 0 (by decide)) h).2⟩, h8, h12, h16, h17, h18, h19, h20, h21, h22, h23⟩
  | 16, _ =>
   obtain rfl := Option.some.inj ho
   refine .inl ⟨rfl, eff_v (v := G0 10) (rfl) ?_⟩
   exact ⟨hC, p1, p2, bm, h0, hx, h10, h8, h12, fun _ => (h0 (hdp 0 (by decide))).1, h17, h18, h19, h20, h21, h22, h23⟩
  | 17, _ =>
   obtain rfl := Option.some.inj ho
   refine .inl ⟨rfl, eff_v (v := G0 0) (rfl) ?_⟩
   exact ⟨hC, p1, p2, bm, h0, hx, h10, h8, h12, h16, fun _ => e0, h18, h19, h20, h21, h22, h23⟩
  | 18, _ =>
   obtain rfl := Option.some.inj ho
   obtain ⟨g10, hlo, hm⟩ := h0 (hdw 16 _ rfl (hdp 16 (by decide)) 0 (by decide))
   rw [clTab_full (fun i hi => ?_)] at hm
   ·obtain ⟨es, hm1, hm2⟩ := hm
    refine .inl ⟨rfl, eff_v (r_lookOk T.map203 T.zvnil (h16 (hdp 16 (by decide))) (h17 (hdp 17 (by decide))) hm1) ?_⟩
    rw [hm2]
    exact ⟨hC, p1, p2, bm, h0, hx, h10, h8, h12, h16, h17, fun _ => rfl, h19, h20, h21, h22, h23⟩
   ·have h16d := (hdp 16 (by decide))
    clear hil
    have hi : i < 16 := hi
    have hq : i = 0 ∨ i = 1 ∨ i = 2 ∨ i = 3 ∨ i = 4 ∨ i = 5 ∨ i = 6 ∨ i = 7 ∨ i = 8 ∨ i = 9 ∨ i = 10 ∨ i = 11 ∨ i = 12 ∨ i = 13 ∨ i = 14 ∨ i = 15 := by omega
    rcases hq with rfl | rfl | rfl | rfl | rfl | rfl | rfl | rfl | rfl | rfl | rfl | rfl | rfl | rfl | rfl | rfl <;> exact hdw 16 _ rfl h16d _ (by decide)
  | 19, _ =>
   obtain rfl := Option.some.inj ho
   refine .inl ⟨rfl, eff_v (v := G0 16) (rfl) ?_⟩
   exact ⟨hC, p1, p2, bm, h0, hx, h10, h8, h12, h16, h17, h18, fun _ => h18 (hdp 18 (by decide)), h20, h21, h22, h23⟩
  | 20, _ =>
   obtain rfl := Option.some.inj ho
   refine .inl ⟨rfl, eff_v (r_extract (vs := [clVal b5 g1 g2 p1 p2 n, .bool (clFull b5 g1 g2 p1 p2 n).isSome]) (h19 (hdp 19 (by decide))) rfl) ?_⟩
   exact ⟨hC, p1, p2, bm, h0, hx, h10, h8, h12, h16, h17, h18, h19, fun _ => rfl, h21, h22, h23⟩
  | 21, _ =>
   obtain rfl := Option.some.inj ho
   refine .inl ⟨rfl, eff_v (r_extract (vs := [clVal b5 g1 g2 p1 p2 n, .bool (clFull b5 g1 g2 p1 p2 n).isSome]) (h19 (hdp 19 (by decide))) rfl) ?_⟩
   exact ⟨hC, p1, p2, bm, h0, hx, h10, h8, h12, h16, h17, h18, h19, h20, fun _ => rfl, h22, h23⟩
  | 22, _ =>
   obtain rfl := Option.some.inj ho
   refine .inl ⟨rfl, eff_v (v := G0 17) (rfl) ?_⟩
   exact ⟨hC, p1, p2, bm, h0, hx, h10, h8, h12, h16, h17, h18, h19, h20, h21, fun _ => h20 (hdp 20 (by decide)), h23⟩
  | 23, _ =>
   obtain rfl := Option.some.inj ho
   refine .inl ⟨rfl, eff_v (v := G0 18) (rfl) ?_⟩
   exact ⟨hC, p1, p2, bm, h0, hx, h10, h8, h12, h16, h17, h18, h19, h20, h21, h22, fun _ => h21 (hdp 21 (by decide))⟩
 ·rintro d G0 W hd hA ⟨hC, p1, p2, bm, h0, hx, h10, h8, h12, h16, h17, h18, h19, h20, h21, h22, h23⟩
  have g6 := h22 (hd 22 (by decide))
  have g7 := h23 (hd 23 (by decide))
  have hsp := (h10 (hd 10 (by decide))).2
  have hspg := hspk.tr0 hC
  have hbg := hb5k.tr0 hC
  have HC2 := hCk.then hC
  unfold clVal at g6
  by_cases hn_alpha : n = [97, 108, 112, 104, 97]
  ·subst hn_alpha
   replace g6 : G0 6 = Value.func (.func 166) #[] #[] := g6
   replace g7 : G0 7 = .bool true := g7
   rw [← env_of_agree (L := [(6, Value.func (.func 166) #[] #[]), (7, .bool true)]) hA ⟨g6, g7, trivial⟩]
   refine then_n <| sr rfl <| mB rfl <| mB rfl <| w_yes 1 20 true <| st_move (v := .func _ _ _) rfl <| w_yes 1 20 true <| st_move (v := .int _ _) rfl <| w_yes 1 20 true <| st_call (ags := [_]) rfl rfl T.ent166 rfl (g_alpha c _) ?_
   rintro _ w10 ⟨rfl, c11⟩
   replace HC2 := HC2.then c11
   refine pT rfl rfl <| aB rfl <| en <| x_ret <| ret_tmp (v := .bool _) rfl rfl <| ⟨congrArg Value.bool ?_, HC2⟩
   first | rfl | (simp [classB]; done)
  by_cases hn_digit : n = [100, 105, 103, 105, 116]
  ·subst hn_digit
   replace g6 : G0 6 = Value.func (.func 167) #[] #[] := g6
   replace g7 : G0 7 = .bool true := g7
   rw [← env_of_agree (L := [(6, Value.func (.func 167) #[] #[]), (7, .bool true)]) hA ⟨g6, g7, trivial⟩]
   refine then_n <| sr rfl <| mB rfl <| mB rfl <| w_yes 1 20 true <| st_move (v := .func _ _ _) rfl <| w_yes 1 20 true <| st_move (v := .int _ _) rfl <| w_yes 1 20 true <| st_call (ags := [_]) rfl rfl T.ent167 rfl (g_digit c _) ?_
   rintro _ w12 ⟨rfl, c13⟩
   replace HC2 := HC2.then c13
   refine pT rfl rfl <| aB rfl <| en <| x_ret <| ret_tmp (v := .bool _) rfl rfl <| ⟨congrArg Value.bool ?_, HC2⟩
   first | rfl | (simp [classB]; done)
  by_cases hn_alnum : n = [97, 108, 110, 117, 109]
  ·subst hn_alnum
   replace g6 : G0 6 = Value.func (.func 168) #[] #[] := g6
   replace g7 : G0 7 = .bool true := g7
   rw [← env_of_agree (L := [(6, Value.func (.func 168) #[] #[]), (7, .bool true)]) hA ⟨g6, g7, trivial⟩]
   refine then_n <| sr rfl <| mB rfl <| mB rfl <| w_yes 1 20 true <| st_move (v := .func _ _ _) rfl <| w_yes 1 20 true <| st_move (v := .int _ _) rfl <| w_yes 1 20 true <| st_call (ags := [_]) rfl rfl T.ent168 rfl (g_alnum c _) ?_
   rintro _ w14 ⟨rfl, c15⟩
   replace HC2 := HC2.then c15
   refine pT rfl rfl <| aB rfl <| en <| x_ret <| ret_tmp (v := .bool _) rfl rfl <| ⟨congrArg Value.bool ?_, HC2⟩
   first | rfl | (simp [classB]; done)
  by_cases hn_upper : n = [117, 112, 112, 101, 114]
  ·subst hn_upper
   replace g6 : G0 6 = Value.func (.func 169) #[] #[] := g6
   replace g7 : G0 7 = .bool true := g7
   rw [← env_of_agree (L := [(6, Value.func (.func 169) #[] #[]), (7, .bool true)]) hA ⟨g6, g7, trivial⟩]
   refine then_n <| sr rfl <| mB rfl <| mB rfl <| w_yes 1 20 true <| st_move (v := .func _ _ _) rfl <| w_yes 1 20 true <| st_move (v := .int _ _) rfl <| w_yes 1 20 true <| st_call (ags := [_]) rfl rfl T.ent169 rfl (g_upper c _) ?_
   rintro _ w16 ⟨rfl, c17⟩
   replace HC2 := HC2.then c17
   refine pT rfl rfl <| aB rfl <| en <| x_ret <| ret_tmp (v := .bool _) rfl rfl <| ⟨congrArg Value.bool ?_, HC2⟩
   first | rfl | (simp [classB]; done)
  by_cases hn_lower : n = [108, 111, 119, 101, 114]
  ·subst hn_lower
   replace g6 : G0 6 = Value.func (.func 170) #[] #[] := g6
   replace g7 : G0 7 = .bool true := g7
   rw [← env_of_agree (L := [(6, Value.func (.func 170) #[] #[]), (7, .bool true)]) hA ⟨g6, g7, trivial⟩]
   refine then_n <| sr rfl <| mB rfl <| mB rfl <| w_yes 1 20 true <| st_move (v := .func _ _ _) rfl <| w_yes 1 20 true <| st_move (v := .int _ _) rfl <| w_yes 1 20 true <| st_call (ags := [_]) rfl rfl T.ent170 rfl (g_lower c _) ?_
   rintro _ w18 ⟨rfl, c19⟩
   replace HC2 := HC2.then c19
   refine pT rfl rfl <| aB rfl <| en <| x_ret <| ret_tmp (v := .bool _) rfl rfl <| ⟨congrArg Value.bool ?_, HC2⟩
   first | rfl | (simp [classB]; done)
  by_cases hn_blank : n = [98, 108, 97, 110, 107]
  ·subst hn_blank
   replace g6 : G0 6 = Value.func (.func 171) #[] #[] := g6
   replace g7 : G0 7 = .bool true := g7
   rw [← env_of_agree (L := [(6, Value.func (.func 171) #[] #[]), (7, .bool true)]) hA ⟨g6, g7, trivial⟩]
   refine then_n <| sr rfl <| mB rfl <| mB rfl <| w_yes 1 20 true <| st_move (v := .func _ _ _) rfl <| w_yes 1 20 true <| st_move (v := .int _ _) rfl <| w_yes 1 20 true <| st_call (ags := [_]) rfl rfl T.ent171 rfl (g_blank c _) ?_
   rintro _ w20 ⟨rfl, c21⟩
   replace HC2 := HC2.then c21
   refine pT rfl rfl <| aB rfl <| en <| x_ret <| ret_tmp (v := .bool _) rfl rfl <| ⟨congrArg Value.bool ?_, HC2⟩
   first | rfl | (simp [classB]; done)
  by_cases hn_space : n = [115, 112, 97, 99, 101]
  ·subst hn_space
   replace g6 : G0 6 = Value.func (.func 172) #[] #[] := g6
   replace g7 : G0 7 = .bool true := g7
   rw [← env_of_agree (L := [(6, Value.func (.func 172) #[] #[]), (7, .bool true)]) hA ⟨g6, g7, trivial⟩]
   refine then_n <| sr rfl <| mB rfl <| mB rfl <| w_yes 1 20 true <| st_move (v := .func _ _ _) rfl <| w_yes 1 20 true <| st_move (v := .int _ _) rfl <| w_yes 1 20 true <| st_call (ags := [_]) rfl rfl T.ent172 rfl (g_space c _) ?_
   rintro _ w22 ⟨rfl, c23⟩
   replace HC2 := HC2.then c23
   refine pT rfl rfl <| aB rfl <| en <| x_ret <| ret_tmp (v := .bool _) rfl rfl <| ⟨congrArg Value.bool ?_, HC2⟩
   first | rfl | (simp [classB]; done)
  by_cases hn_punct : n = [112, 117, 110, 99, 116]
  ·subst hn_punct
   replace g6 : G0 6 = Value.func (.func 173) #[] #[.pointer (some ⟨b5, 0, none⟩)] := g6
   replace g7 : G0 7 = .bool true := g7
   rw [← env_of_agree (L := [(6, Value.func (.func 173) #[] #[.pointer (some ⟨b5, 0, none⟩)]), (7, .bool true)]) hA ⟨g6, g7, trivial⟩]
   refine then_n <| sr rfl <| mB rfl <| mB rfl <| w_yes 1 20 true <| st_move (v := .func _ _ _) rfl <| w_yes 1 20 true <| st_move (v := .int _ _) rfl <| w_yes 1 20 true <| st_call (ags := [_, _]) rfl rfl T.ent173 rfl (g_punct c hbg hspg) ?_
   rintro _ w24 ⟨rfl, c25⟩
   replace HC2 := HC2.then c25
   refine pT rfl rfl <| aB rfl <| en <| x_ret <| ret_tmp (v := .bool _) rfl rfl <| ⟨congrArg Value.bool ?_, HC2⟩
   show _ = (csB 33 126 c.toNat && !cuB c.toNat && !clB c.toNat && !cdB c.toNat)
   rw [Bool.not_or, Bool.not_or, ← Bool.and_assoc, ← Bool.and_assoc]
  by_cases hn_print : n = [112, 114, 105, 110, 116]
  ·subst hn_print
   replace g6 : G0 6 = Value.func (.func 176) #[] #[.pointer (some ⟨p1, 0, none⟩), .pointer (some ⟨p2, 0, none⟩)] := g6
   replace g7 : G0 7 = .bool true := g7
   rw [← env_of_agree (L := [(6, Value.func (.func 176) #[] #[.pointer (some ⟨p1, 0, none⟩), .pointer (some ⟨p2, 0, none⟩)]), (7, .bool true)]) hA ⟨g6, g7, trivial⟩]
   refine then_n <| sr rfl <| mB rfl <| mB rfl <| w_yes 1 20 true <| st_move (v := .func _ _ _) rfl <| w_yes 1 20 true <| st_move (v := .int _ _) rfl <| w_yes 1 20 true <| st_call (ags := [_, _, _]) rfl rfl T.ent176 rfl (g_in c hsp) ?_
   rintro _ w26 ⟨rfl, c27⟩
   replace HC2 := HC2.then c27
   refine pT rfl rfl <| aB rfl <| en <| x_ret <| ret_tmp (v := .bool _) rfl rfl <| ⟨congrArg Value.bool ?_, HC2⟩
   first | rfl | (simp [classB]; done)
  by_cases hn_graph : n = [103, 114, 97, 112, 104]
  ·subst hn_graph
   replace g6 : G0 6 = Value.func (.func 176) #[] #[.pointer (some ⟨g1, 0, none⟩), .pointer (some ⟨g2, 0, none⟩)] := g6
   replace g7 : G0 7 = .bool true := g7
   rw [← env_of_agree (L := [(6, Value.func (.func 176) #[] #[.pointer (some ⟨g1, 0, none⟩), .pointer (some ⟨g2, 0, none⟩)]), (7, .bool true)]) hA ⟨g6, g7, trivial⟩]
   refine then_n <| sr rfl <| mB rfl <| mB rfl <| w_yes 1 20 true <| st_move (v := .func _ _ _) rfl <| w_yes 1 20 true <| st_move (v := .int _ _) rfl <| w_yes 1 20 true <| st_call (ags := [_, _, _]) rfl rfl T.ent176 rfl (g_in c hspg) ?_
   rintro _ w28 ⟨rfl, c29⟩
   replace HC2 := HC2.then c29
   refine pT rfl rfl <| aB rfl <| en <| x_ret <| ret_tmp (v := .bool _) rfl rfl <| ⟨congrArg Value.bool ?_, HC2⟩
   first | rfl | (simp [classB]; done)
  by_cases hn_cntrl : n = [99, 110, 116, 114, 108]
  ·subst hn_cntrl
   replace g6 : G0 6 = Value.func (.func 174) #[] #[] := g6
   replace g7 : G0 7 = .bool true := g7
   rw [← env_of_agree (L := [(6, Value.func (.func 174) #[] #[]), (7, .bool true)]) hA ⟨g6, g7, trivial⟩]
   refine then_n <| sr rfl <| mB rfl <| mB rfl <| w_yes 1 20 true <| st_move (v := .func _ _ _) rfl <| w_yes 1 20 true <| st_move (v := .int _ _) rfl <| w_yes 1 20 true <| st_call (ags := [_]) rfl rfl T.ent174 rfl (g_cntrl c _) ?_
   rintro _ w30 ⟨rfl, c31⟩
   replace HC2 := HC2.then c31
   refine pT rfl rfl <| aB rfl <| en <| x_ret <| ret_tmp (v := .bool _) rfl rfl <| ⟨congrArg Value.bool ?_, HC2⟩
   first | rfl | (simp [classB]; done)
  by_cases hn_xdigit : n = [120, 100, 105, 103, 105, 116]
  ·subst hn_xdigit
   replace g6 : G0 6 = Value.func (.func 175) #[] #[] := g6
   replace g7 : G0 7 = .bool true := g7
   rw [← env_of_agree (L := [(6, Value.func (.func 175) #[] #[]), (7, .bool true)]) hA ⟨g6, g7, trivial⟩]
   refine then_n <| sr rfl <| mB rfl <| mB rfl <| w_yes 1 20 true <| st_move (v := .func _ _ _) rfl <| w_yes 1 20 true <| st_move (v := .int _ _) rfl <| w_yes 1 20 true <| st_call (ags := [_]) rfl rfl T.ent175 rfl (g_xdigit c _) ?_
   rintro _ w32 ⟨rfl, c33⟩
   replace HC2 := HC2.then c33
   refine pT rfl rfl <| aB rfl <| en <| x_ret <| ret_tmp (v := .bool _) rfl rfl <| ⟨congrArg Value.bool ?_, HC2⟩
   first | rfl | (simp [classB]; done)
  unfold clFull at g6 g7
  rw [if_neg hn_alpha, if_neg hn_digit, if_neg hn_alnum, if_neg hn_upper, if_neg hn_lower, if_neg hn_blank, if_neg hn_space, if_neg hn_punct, if_neg hn_print, if_neg hn_graph, if_neg hn_cntrl, if_neg hn_xdigit] at g6 g7
  replace g6 : G0 6 = .nilFunc := g6
  replace g7 : G0 7 = .bool false := g7
  rw [← env_of_agree (L := [(6, .nilFunc), (7, .bool false)]) hA ⟨g6, g7, trivial⟩]
  refine then_n <| sr rfl <| mB rfl <| mB rfl ?_
  iterate 3 refine w_no 1 20 true ?_
  refine pF rfl rfl <| aB rfl <| en <| x_ret <| ret_tmp (v := .bool _) rfl rfl <| ⟨congrArg Value.bool ?_, HC2⟩
  unfold classB; rw [if_neg hn_alpha, if_neg hn_digit, if_neg hn_alnum, if_neg hn_upper, if_neg hn_lower, if_neg hn_space, if_neg hn_blank, if_neg hn_punct, if_neg hn_print, if_neg hn_graph, if_neg hn_cntrl, if_neg hn_xdigit]
end Go.Proofs.YtncnalboiljgiaaGreat.K
