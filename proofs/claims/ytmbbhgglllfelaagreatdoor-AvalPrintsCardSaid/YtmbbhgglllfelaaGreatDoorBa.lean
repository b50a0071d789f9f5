/- Walks of functions of bytes. -/
import Derived.Test.YtmbbhgglllfelaaGreatDoorKitQ
import Derived.Test.YtmbbhgglllfelaaGreatDoorTy
set_option linter.unusedVariables false
set_option linter.unusedSimpArgs false
set_option autoImplicit false
set_option maxRecDepth 20000
namespace Go.Proofs.YtmbbhgglllfelaaGreatDoor.K
open Go Go.Proofs Go.RowKit

theorem c_upper (c : UInt8) (w : World) : CallR Tryz.prog 125 #[.int .u8 (c.toNat : Int)] w fun v w' => v = .bool (upB c) ∧ Chg [] w w' := by
 refine callR_of_wp (args := [_]) Tryz.func125 rfl (Nat.le_of_ble_eq_true rfl) ?_
 have HC : Chg [] w w := .refl _
 refine sr rfl <| aB rfl <| en <| sr rfl <| mI rfl <| Wp rfl <| st_leq rfl rfl <| mB rfl <| w_split (d := 5) rfl (fun g1 => ?_) (fun g1 => ?_)
 ·try simp only [nm, ne_eq] at g1
  refine w_yes 2 5 true <| st_move (v := .int _ _) rfl <| w_yes 2 5 true <| st_leq rfl rfl <| pT rfl rfl <| aB rfl <| en <| x_ret <| ret_tmp (v := .bool _) rfl rfl ?_
  have hc := c.toNat_lt
  refine ⟨congrArg Value.bool ?_, HC⟩
  rw [Bool.eq_iff_iff]
  (try simp only [upB, loB, digB, alphaB, begB, wordB, blankB, wrap_u8, Bool.or_eq_true, Bool.and_eq_true, Bool.or_eq_false_iff, Bool.and_eq_false_imp, decide_eq_true_eq, decide_eq_false_iff_not] at *)
  (try simp only [true_iff, false_iff, iff_true, iff_false, Bool.false_eq_true])
  omega
 ·try simp only [nm, ne_eq] at g1
  refine w_no 2 5 true <| w_no 2 5 true <| pF rfl rfl <| aB rfl <| en <| x_ret <| ret_tmp (v := .bool _) rfl rfl ?_
  have hc := c.toNat_lt
  refine ⟨congrArg Value.bool ?_, HC⟩
  rw [Bool.eq_iff_iff]
  (try simp only [upB, loB, digB, alphaB, begB, wordB, blankB, wrap_u8, Bool.or_eq_true, Bool.and_eq_true, Bool.or_eq_false_iff, Bool.and_eq_false_imp, decide_eq_true_eq, decide_eq_false_iff_not] at *)
  (try simp only [true_iff, false_iff, iff_true, iff_false, Bool.false_eq_true])
  omega

theorem c_lower (c : UInt8) (w : World) : CallR Tryz.prog 126 #[.int .u8 (c.toNat : Int)] w fun v w' => v = .bool (loB c) ∧ Chg [] w w' := by
 refine callR_of_wp (args := [_]) Tryz.func126 rfl (Nat.le_of_ble_eq_true rfl) ?_
 have HC : Chg [] w w := .refl _
 refine sr rfl <| aB rfl <| en <| sr rfl <| mI rfl <| Wp rfl <| st_leq rfl rfl <| mB rfl <| w_split (d := 5) rfl (fun g1 => ?_) (fun g1 => ?_)
 ·try simp only [nm, ne_eq] at g1
  refine w_yes 2 5 true <| st_move (v := .int _ _) rfl <| w_yes 2 5 true <| st_leq rfl rfl <| pT rfl rfl <| aB rfl <| en <| x_ret <| ret_tmp (v := .bool _) rfl rfl ?_
  have hc := c.toNat_lt
  refine ⟨congrArg Value.bool ?_, HC⟩
  rw [Bool.eq_iff_iff]
  (try simp only [upB, loB, digB, alphaB, begB, wordB, blankB, wrap_u8, Bool.or_eq_true, Bool.and_eq_true, Bool.or_eq_false_iff, Bool.and_eq_false_imp, decide_eq_true_eq, decide_eq_false_iff_not] at *)
  (try simp only [true_iff, false_iff, iff_true, iff_false, Bool.false_eq_true])
  omega
 ·try simp only [nm, ne_eq] at g1
  refine w_no 2 5 true <| w_no 2 5 true <| pF rfl rfl <| aB rfl <| en <| x_ret <| ret_tmp (v := .bool _) rfl rfl ?_
  have hc := c.toNat_lt
  refine ⟨congrArg Value.bool ?_, HC⟩
  rw [Bool.eq_iff_iff]
  (try simp only [upB, loB, digB, alphaB, begB, wordB, blankB, wrap_u8, Bool.or_eq_true, Bool.and_eq_true, Bool.or_eq_false_iff, Bool.and_eq_false_imp, decide_eq_true_eq, decide_eq_false_iff_not] at *)
  (try simp only [true_iff, false_iff, iff_true, iff_false, Bool.false_eq_true])
  omega

theorem c_alpha (c : UInt8) (w : World) : CallR Tryz.prog 120 #[.int .u8 (c.toNat : Int)] w fun v w' => v = .bool (alphaB c) ∧ Chg [] w w' := by
 refine callR_of_wp (args := [_]) Tryz.func120 rfl (Nat.le_of_ble_eq_true rfl) ?_
 have HC : Chg [] w w := .refl _
 refine sr rfl <| aB rfl <| en <| sr rfl <| mI rfl <| Wp rfl <| st_call (ags := [_]) rfl rfl T.ent125 rfl (c_upper c _) ?_
 rintro _ w1 ⟨rfl, c2⟩
 replace HC := HC.then c2
 refine mB rfl <| w_split (d := 5) rfl (fun g3 => ?_) (fun g3 => ?_)
 ·try simp only [nm, ne_eq] at g3
  refine w_no 2 5 false <| w_no 2 5 false <| pT rfl rfl <| aB rfl <| en <| x_ret <| ret_tmp (v := .bool _) rfl rfl ?_
  have hc := c.toNat_lt
  refine ⟨congrArg Value.bool ?_, HC⟩
  rw [Bool.eq_iff_iff]
  (try simp only [upB, loB, digB, alphaB, begB, wordB, blankB, wrap_u8, Bool.or_eq_true, Bool.and_eq_true, Bool.or_eq_false_iff, Bool.and_eq_false_imp, decide_eq_true_eq, decide_eq_false_iff_not] at *)
  (try simp only [true_iff, false_iff, iff_true, iff_false, Bool.false_eq_true])
  omega
 ·try simp only [nm, ne_eq] at g3
  refine w_yes 2 5 false <| st_move (v := .int _ _) rfl <| w_yes 2 5 false <| st_call (ags := [_]) rfl rfl T.ent126 rfl (c_lower c _) ?_
  rintro _ w4 ⟨rfl, c5⟩
  replace HC := HC.then c5
  refine pF rfl rfl <| aB rfl <| en <| x_ret <| ret_tmp (v := .bool _) rfl rfl ?_
  have hc := c.toNat_lt
  refine ⟨congrArg Value.bool ?_, HC⟩
  rw [Bool.eq_iff_iff]
  (try simp only [upB, loB, digB, alphaB, begB, wordB, blankB, wrap_u8, Bool.or_eq_true, Bool.and_eq_true, Bool.or_eq_false_iff, Bool.and_eq_false_imp, decide_eq_true_eq, decide_eq_false_iff_not] at *)
  (try simp only [true_iff, false_iff, iff_true, iff_false, Bool.false_eq_true])
  omega

theorem c_begins (c : UInt8) (w : World) : CallR Tryz.prog 114 #[.int .u8 (c.toNat : Int)] w fun v w' => v = .bool (begB c) ∧ Chg [] w w' := by
 refine callR_of_wp (args := [_]) Tryz.func114 rfl (Nat.le_of_ble_eq_true rfl) ?_
 have HC : Chg [] w w := .refl _
 refine sr rfl <| aB rfl <| en <| sr rfl <| mI rfl <| Wp rfl <| st_call (ags := [_]) rfl rfl T.ent120 rfl (c_alpha c _) ?_
 rintro _ w1 ⟨rfl, c2⟩
 replace HC := HC.then c2
 refine mB rfl <| w_split (d := 5) rfl (fun g3 => ?_) (fun g3 => ?_)
 ·try simp only [nm, ne_eq] at g3
  refine w_no 2 5 false <| w_no 2 5 false <| pT rfl rfl <| aB rfl <| en <| x_ret <| ret_tmp (v := .bool _) rfl rfl ?_
  have hc := c.toNat_lt
  refine ⟨congrArg Value.bool ?_, HC⟩
  rw [Bool.eq_iff_iff]
  (try simp only [upB, loB, digB, alphaB, begB, wordB, blankB, wrap_u8, Bool.or_eq_true, Bool.and_eq_true, Bool.or_eq_false_iff, Bool.and_eq_false_imp, decide_eq_true_eq, decide_eq_false_iff_not] at *)
  (try simp only [true_iff, false_iff, iff_true, iff_false, Bool.false_eq_true])
  omega
 ·try simp only [nm, ne_eq] at g3
  refine w_yes 2 5 false <| st_move (v := .int _ _) rfl <| w_yes 2 5 false <| st_eql rfl rfl <| pF rfl rfl <| aB rfl <| en <| x_ret <| ret_tmp (v := .bool _) rfl rfl ?_
  have hc := c.toNat_lt
  refine ⟨congrArg Value.bool ?_, HC⟩
  rw [Bool.eq_iff_iff]
  (try simp only [upB, loB, digB, alphaB, begB, wordB, blankB, wrap_u8, Bool.or_eq_true, Bool.and_eq_true, Bool.or_eq_false_iff, Bool.and_eq_false_imp, decide_eq_true_eq, decide_eq_false_iff_not] at *)
  (try simp only [true_iff, false_iff, iff_true, iff_false, Bool.false_eq_true])
  omega

theorem c_digit (c : UInt8) (w : World) : CallR Tryz.prog 80 #[.int .u8 (c.toNat : Int)] w fun v w' => v = .bool (digB c) ∧ Chg [] w w' := by
 refine callR_of_wp (args := [_]) Tryz.func80 rfl (Nat.le_of_ble_eq_true rfl) ?_
 have HC : Chg [] w w := .refl _
 refine sr rfl <| aB rfl <| en <| sr rfl <| mI rfl <| Wp rfl <| st_sub rfl rfl <| Wp rfl <| st_lss rfl rfl <| aB rfl <| en <| x_ret <| ret_tmp (v := .bool _) rfl rfl ?_
 have hc := c.toNat_lt
 refine ⟨congrArg Value.bool ?_, HC⟩
 rw [Bool.eq_iff_iff]
 (try simp only [upB, loB, digB, alphaB, begB, wordB, blankB, wrap_u8, Bool.or_eq_true, Bool.and_eq_true, Bool.or_eq_false_iff, Bool.and_eq_false_imp, decide_eq_true_eq, decide_eq_false_iff_not] at *)
 (try simp only [true_iff, false_iff, iff_true, iff_false, Bool.false_eq_true])
 omega

theorem a_word (c : UInt8) (w : World) : CallR Tryz.prog 79 #[.int .u8 (c.toNat : Int)] w fun v w' => v = .bool (wordB c) ∧ Chg [] w w' := by
 refine callR_of_wp (args := [_]) Tryz.func79 rfl (Nat.le_of_ble_eq_true rfl) ?_
 have HC : Chg [] w w := .refl _
 refine sr rfl <| aB rfl <| en <| sr rfl <| mI rfl <| Wp rfl <| st_call (ags := [_]) rfl rfl T.ent114 rfl (c_begins c _) ?_
 rintro _ w1 ⟨rfl, c2⟩
 replace HC := HC.then c2
 refine mB rfl <| w_split (d := 5) rfl (fun g3 => ?_) (fun g3 => ?_)
 ·try simp only [nm, ne_eq] at g3
  refine w_no 2 5 false <| w_no 2 5 false <| pT rfl rfl <| aB rfl <| en <| x_ret <| ret_tmp (v := .bool _) rfl rfl ?_
  have hc := c.toNat_lt
  refine ⟨congrArg Value.bool ?_, HC⟩
  rw [Bool.eq_iff_iff]
  (try simp only [upB, loB, digB, alphaB, begB, wordB, blankB, wrap_u8, Bool.or_eq_true, Bool.and_eq_true, Bool.or_eq_false_iff, Bool.and_eq_false_imp, decide_eq_true_eq, decide_eq_false_iff_not] at *)
  (try simp only [true_iff, false_iff, iff_true, iff_false, Bool.false_eq_true])
  omega
 ·try simp only [nm, ne_eq] at g3
  refine w_yes 2 5 false <| st_move (v := .int _ _) rfl <| w_yes 2 5 false <| st_call (ags := [_]) rfl rfl T.ent80 rfl (c_digit c _) ?_
  rintro _ w4 ⟨rfl, c5⟩
  replace HC := HC.then c5
  refine pF rfl rfl <| aB rfl <| en <| x_ret <| ret_tmp (v := .bool _) rfl rfl ?_
  have hc := c.toNat_lt
  refine ⟨congrArg Value.bool ?_, HC⟩
  rw [Bool.eq_iff_iff]
  (try simp only [upB, loB, digB, alphaB, begB, wordB, blankB, wrap_u8, Bool.or_eq_true, Bool.and_eq_true, Bool.or_eq_false_iff, Bool.and_eq_false_imp, decide_eq_true_eq, decide_eq_false_iff_not] at *)
  (try simp only [true_iff, false_iff, iff_true, iff_false, Bool.false_eq_true])
  omega

theorem a_blank (c : UInt8) (w : World) : CallR Tryz.prog 60 #[.int .u8 (c.toNat : Int)] w fun v w' => v = .bool (blankB c) ∧ Chg [] w w' := by
 refine callR_of_wp (args := [_]) Tryz.func60 rfl (Nat.le_of_ble_eq_true rfl) ?_
 have HC : Chg [] w w := .refl _
 refine sr rfl <| aB rfl <| en <| sr rfl <| mI rfl <| Wp rfl <| st_eql rfl rfl <| mB rfl <| w_split (d := 5) rfl (fun g1 => ?_) (fun g1 => ?_)
 ·try simp only [nm, ne_eq] at g1
  refine w_no 2 5 false <| w_no 2 5 false <| pT rfl rfl <| mB rfl <| w_no 6 9 false <| w_no 6 9 false <| pT rfl rfl <| aB rfl <| en <| x_ret <| ret_tmp (v := .bool _) rfl rfl ?_
  have hc := c.toNat_lt
  refine ⟨congrArg Value.bool ?_, HC⟩
  rw [Bool.eq_iff_iff]
  (try simp only [upB, loB, digB, alphaB, begB, wordB, blankB, wrap_u8, Bool.or_eq_true, Bool.and_eq_true, Bool.or_eq_false_iff, Bool.and_eq_false_imp, decide_eq_true_eq, decide_eq_false_iff_not] at *)
  (try simp only [true_iff, false_iff, iff_true, iff_false, Bool.false_eq_true])
  omega
 ·try simp only [nm, ne_eq] at g1
  refine w_yes 2 5 false <| st_move (v := .int _ _) rfl <| w_yes 2 5 false <| st_eql rfl rfl <| pF rfl rfl <| mB rfl <| w_split (d := 9) rfl (fun g2 => ?_) (fun g2 => ?_)
  ·try simp only [nm, ne_eq] at g2
   refine w_no 6 9 false <| w_no 6 9 false <| pT rfl rfl <| aB rfl <| en <| x_ret <| ret_tmp (v := .bool _) rfl rfl ?_
   have hc := c.toNat_lt
   refine ⟨congrArg Value.bool ?_, HC⟩
   rw [Bool.eq_iff_iff]
   (try simp only [upB, loB, digB, alphaB, begB, wordB, blankB, wrap_u8, Bool.or_eq_true, Bool.and_eq_true, Bool.or_eq_false_iff, Bool.and_eq_false_imp, decide_eq_true_eq, decide_eq_false_iff_not] at *)
   (try simp only [true_iff, false_iff, iff_true, iff_false, Bool.false_eq_true])
   omega
  ·try simp only [nm, ne_eq] at g2
   refine w_yes 6 9 false <| st_move (v := .int _ _) rfl <| w_yes 6 9 false <| st_eql rfl rfl <| pF rfl rfl <| aB rfl <| en <| x_ret <| ret_tmp (v := .bool _) rfl rfl ?_
   have hc := c.toNat_lt
   refine ⟨congrArg Value.bool ?_, HC⟩
   rw [Bool.eq_iff_iff]
   (try simp only [upB, loB, digB, alphaB, begB, wordB, blankB, wrap_u8, Bool.or_eq_true, Bool.and_eq_true, Bool.or_eq_false_iff, Bool.and_eq_false_imp, decide_eq_true_eq, decide_eq_false_iff_not] at *)
   (try simp only [true_iff, false_iff, iff_true, iff_false, Bool.false_eq_true])
   omega

theorem a_low (c : UInt8) (w : World) : CallR Tryz.prog 93 #[.int .u8 (c.toNat : Int)] w fun v w' => v = .int .u8 ((lowB c).toNat : Int) ∧ Chg [] w w' := by
 refine callR_of_wp (args := [_]) Tryz.func93 rfl (Nat.le_of_ble_eq_true rfl) ?_
 have HC : Chg [] w w := .refl _
 refine sr rfl <| aI rfl <| en <| x_seq <| sr rfl <| mI rfl <| Wp rfl <| st_geq rfl rfl <| mB rfl <| w_split (d := 5) rfl (fun g1 => ?_) (fun g1 => ?_)
 ·try simp only [nm, ne_eq] at g1
  refine w_yes 2 5 true <| st_move (v := .int _ _) rfl <| w_yes 2 5 true <| st_leq rfl rfl <| pT rfl rfl <| en <| x_cond rfl (fun h0 => ?_) (fun h0 => ?_)
  ·try simp only [nm, ne_eq] at h0
   refine sr rfl <| mI rfl <| Wp rfl <| st_sub rfl rfl <| Wp rfl <| st_add rfl rfl <| aI rfl <| en <| x_ret <| then_r <| ret_tmp (v := .int _ _) rfl rfl ?_
   have hc := c.toNat_lt
   refine ⟨congrArg (Value.int .u8) ?_, HC⟩
   rw [lowB, if_pos (by omega), UInt8.toNat_add, wrap_u8, wrap_u8]; show _ = (((c.toNat + 32) % 256 : Nat) : Int); omega
  ·try simp only [nm, ne_eq] at h0
   refine x_skip <| then_n <| sr rfl <| mI rfl <| aI rfl <| en <| x_ret <| ret_tmp (v := .int _ _) rfl rfl ?_
   have hc := c.toNat_lt
   refine ⟨congrArg (Value.int .u8) ?_, HC⟩
   rw [lowB, if_neg (by omega)]
 ·try simp only [nm, ne_eq] at g1
  refine w_no 2 5 true <| w_no 2 5 true <| pF rfl rfl <| en <| x_cond (t := false) rfl (fun h0 => ?_) (fun h0 => ?_)
  · exact absurd h0 (by decide)
  refine x_skip <| then_n <| sr rfl <| mI rfl <| aI rfl <| en <| x_ret <| ret_tmp (v := .int _ _) rfl rfl ?_
  have hc := c.toNat_lt
  refine ⟨congrArg (Value.int .u8) ?_, HC⟩
  rw [lowB, if_neg (by omega)]

theorem run_spec {k : FuncId} {caps : Array Value} {p : UInt8 → Bool} {w : World} (s : Bytes) (hs : s.length ≤ 9223372036854775807) (hent : ∀ args (w : World), (callFunc k args).run Tryz.prog w = .ok (.enter k args) w) (hp : ∀ c W, Chg [] w W → CallR Tryz.prog k ⟨.int .u8 (c.toNat : Int) :: caps.toList⟩ W fun v W' => v = .bool (p c) ∧ Chg [] W W') :
    CallR Tryz.prog 59 #[S s, .func (.func k) #[] caps] w fun v w' => v = .int .i64 (runN p s : Int) ∧ Chg [] w w' := by
 refine callR_of_wp (args := [_, _]) Tryz.func59 rfl (Nat.le_of_ble_eq_true rfl) ?_
 have HC : Chg [] w w := .refl _
 refine sr rfl <| aI rfl <| en <| sr rfl <| aI rfl <| en <| x_seq <| x_block <| x_loop (ι := Nat) [5, 6, 7, 8, 9, 10, 11, 12, 13, 14, 15, 16, 17, 18] (fun n => [(5, .int .i64 (n : Int))]) (fun n W => (n ≤ s.length ∧ runN p s = n + runN p (s.drop n)) ∧ (Chg [] w W)) (fun n => s.length - n) 0 ?_ ?_ ?_
 · exact ⟨rfl, trivial⟩
 ·refine ⟨?_, HC⟩
  exact ⟨Nat.zero_le _, by simp⟩
 intro n G2 w1 ⟨⟨hn, hr⟩, HC⟩
 change wp _ _ _ _ _ (upds (over _ _ G2) [(5, .int .i64 (n : Int))]) _ _
 refine x_seq <| sr rfl <| mI rfl <| mS rfl <| Wp rfl <| st_slen (ct := #[9]) T.u9 rfl <| Wp rfl <| st_lss rfl rfl <| mB rfl <| w_split (d := 10) rfl (fun g3 => ?_) (fun g3 => ?_)
 ·try simp only [nm, ne_eq] at g3
  refine w_yes 4 10 true <| st_move (v := .func _ _ _) rfl <| w_yes 4 10 true <| st_move (v := S _) rfl <| w_yes 4 10 true <| st_move (v := .int _ _) rfl <| w_yes 4 10 true <| st_sidx T.u9 rfl rfl (by omega) (by omega) <| w_yes 4 10 true <| st_call (f := k) (cap := caps) (ags := .int .u8 _ :: caps.toList) rfl rfl hent rfl (hp (byte s n) _ HC) ?_
  rintro _ w4 ⟨rfl, c5⟩
  replace HC := HC.then c5
  refine pT rfl rfl <| en <| x_cond rfl (fun h0 => ?_) (fun h0 => ?_)
  ·try simp only [nm, ne_eq] at h0
   refine x_skip <| then_n <| x_block <| x_region rfl <| mI rfl <| Wp rfl <| st_addn rfl rfl (by constructor <;> omega) <| aI rfl <| wops_nil <| block_n <| then_n <| ⟨n + 1, ?_, ?_, rfl, ⟨rfl, trivial⟩, ?_⟩
   ·refine ⟨?_, HC⟩
    exact ⟨by omega, by rw [hr, runN_on (by omega) h0]; omega⟩
   ·show s.length - (n + 1) < s.length - n; omega
   repeat (first | exact agree_upds agree_over rfl | refine agree_upd ?_ rfl | refine agree_upds ?_ rfl | refine agree_over_sub ?_ rfl)
  ·try simp only [nm, ne_eq] at h0
   refine x_exit <| then_x <| then_x <| block_x <| then_n <| sr rfl <| mI rfl <| aI rfl <| en <| x_ret <| ret_tmp (v := .int _ _) rfl rfl <| ⟨?_, HC⟩
   rw [hr, runN_off (by omega) h0]; rfl
 ·try simp only [nm, ne_eq] at g3
  iterate 5 refine w_no 4 10 true ?_
  refine pF rfl rfl <| en <| x_cond (t := false) rfl (fun h0 => ?_) (fun h0 => ?_)
  · exact absurd h0 (by decide)
  refine x_exit <| then_x <| then_x <| block_x <| then_n <| sr rfl <| mI rfl <| aI rfl <| en <| x_ret <| ret_tmp (v := .int _ _) rfl rfl <| ⟨?_, HC⟩
  rw [hr, runN_end (by omega)]; rfl

theorem Constant_spec (s : Bytes) (w : World) (hs : s.length ≤ 9223372036854775807) : CallR Tryz.prog 71 #[S s] w fun v w' => v = .tuple ⟨[.int .i64 (constV s).1, .bool (constV s).2]⟩ ∧ Chg [] w w' := by
 refine callR_of_wp (args := [_]) Tryz.func71 rfl (Nat.le_of_ble_eq_true rfl) ?_
 have HC : Chg [] w w := .refl _
 refine sr rfl <| aI rfl <| aB rfl <| en <| sr rfl <| mS rfl <| aI rfl <| aS rfl <| en <| x_seq <| x_block <| sr rfl <| mS rfl <| Wp rfl <| st_call (ags := [_, _]) rfl rfl T.ent84 rfl (HasPrefix_spec _ _ _) ?_
 rintro _ w1 ⟨rfl, c2⟩
 replace HC := HC.then c2
 refine mB rfl <| w_split (d := 14) rfl (fun g3 => ?_) (fun g3 => ?_)
 ·try simp only [nm, ne_eq] at g3
  refine w_no 2 14 false <| w_no 2 14 false <| pT rfl rfl <| aB rfl <| en <| x_cond (t := true) rfl (fun h0 => ?_) (fun h0 => ?_)
  rotate_left
  · exact absurd h0 (by decide)
  have hcb : constB s = (16, ((s.take s.length).drop 2)) := by rw [List.take_length]; unfold constB; rw [if_pos (by first | (rw [show Lib.hasPrefix s [48, 120] = true by assumption]; rfl) | (rw [show Lib.hasPrefix s [48, 88] = true by assumption, Bool.or_true]))]
  have hdl : (((s.take s.length).drop 2)).length ≤ 9223372036854775807 := by first | exact hs | (simp; omega)
  refine x_draw [(0, 0), (1, 0), (2, 0), (3, 0)] T.mixed rfl rfl rfl (fun _ => True) trivial ?_
  have c5 := Chg.drew w1
  generalize World.drew w1 = w4 at c5 ⊢
  replace HC := HC.then c5
  refine sq_q rfl (fun W hT => r_move (v := S _) rfl) <| sq_q rfl (fun W hT => r_sslice (i := 2) (j := s.length) T.u9 rfl ⟨_, rfl⟩ (by rfl) (by first | (have := pre_len (s := s) (p := [48, 120]) (by assumption); simp at this; omega) | (have := pre_len (s := s) (p := [48, 88]) (by assumption); simp at this; omega)) (by omega)) <| sq_q rfl (fun W hT => r_assign (v := .int _ _) rfl) <| sq_q rfl (fun W hT => r_assign (v := S _) rfl) <| sq_nil <| block_n <| then_n <| sr rfl <| aI rfl <| en <| x_seq <| sr rfl <| mS rfl <| Wp rfl <| st_strBytes (s := ((s.take s.length).drop 2)) T.u9 T.u88 T.u5 rfl ?_
  intro b6 cp7 w8 ge0_b6 lt_b6 c9 hs10
  replace HC := HC.then c9
  refine Wp rfl <| st_len (ct := #[88]) (by rw [show ((#[88] : Array TypeId)[0]?).bind Tryz.prog.underlying = some (.slice 5) from T.u88]; rfl) rfl <| mI rfl <| en <| x_block <| x_loop (ι := Nat × Int) [2, 3, 6, 8, 9, 33, 34, 35, 36, 37, 38, 39, 40, 41, 42, 43, 44, 45, 46, 47, 48, 49, 50, 51, 52, 53, 54, 55, 56, 57, 58, 59, 60] (fun ⟨i, n⟩ => [(33, .int .i64 (i : Int)), (6, .int .i64 n)]) (fun ⟨i, n⟩ W => (i ≤ (((s.take s.length).drop 2)).length ∧ 0 ≤ n ∧ n ≤ 9223372036854775807 ∧ readN 16 n ((((s.take s.length).drop 2)).drop i) = readN 16 0 (((s.take s.length).drop 2))) ∧ (Chg [] w W) ∧ (Sl uE W (fun k => k = b6) (some ⟨b6, 0, none⟩) ((s.take s.length).drop 2))) (fun ⟨i, n⟩ => (((s.take s.length).drop 2)).length - i) (0, 0) ?_ ?_ ?_
  · exact ⟨rfl, rfl, trivial⟩
  ·refine ⟨?_, HC, hs10⟩
   exact ⟨Nat.zero_le _, by omega, by omega, rfl⟩
  intro ⟨i, n⟩ G12 w11 ⟨⟨hi, hn0, hn1, hr⟩, HC, hs10⟩
  change wp _ _ _ _ _ (upds (over _ _ G12) [(33, .int .i64 (i : Int)), (6, .int .i64 n)]) _ _
  refine sr rfl <| Wp rfl <| st_lss rfl rfl <| en <| x_seq <| x_cond rfl (fun h2 => ?_) (fun h2 => ?_)
  ·try simp only [nm, ne_eq] at h2
   refine x_skip <| then_n <| x_seq <| x_block <| sr rfl ?_
   obtain ⟨x13, hx14⟩ : ∃ zz, ((s.take s.length).drop 2)[i]? = some zz := ⟨_, List.getElem?_eq_getElem (by omega)⟩
   obtain ⟨lb19, _, vs18, hA15, hR17, hC16⟩ := hs10.at hx14
   obtain rfl : vs18 = [.int .u8 (x13.toNat : Int)] := hR17
   refine Wp rfl <| st_indexAddr T.u88 T.size5 (congrArg (fun z => Value.slice z _ _) hA15) rfl (by omega) (by omega) <| lI T.one5 rfl (hC16.at (j := 0) rfl) <| aI rfl <| en <| x_seq ?_
   obtain rfl : x13 = byte (((s.take s.length).drop 2)) i := byte_at hx14
   have hdv := digV_lt (byte (((s.take s.length).drop 2)) i)
   have hde : digV (byte (((s.take s.length).drop 2)) i) = idx [48, 49, 50, 51, 52, 53, 54, 55, 56, 57, 97, 98, 99, 100, 101, 102] (lowB (byte (((s.take s.length).drop 2)) i)) := rfl
   refine x_region rfl <| mI rfl <| Wp rfl <| st_call (ags := [_]) rfl rfl T.ent93 rfl (a_low _ _) ?_
   rintro _ w20 ⟨rfl, c21⟩
   replace HC := HC.then c21
   replace hs10 := hs10.tr0 c21
   refine Wp rfl <| st_call (ags := [_, _]) rfl rfl T.ent92 rfl (IndexByte_spec _ _ _) ?_
   rintro _ w22 ⟨rfl, c23⟩
   replace HC := HC.then c23
   replace hs10 := hs10.tr0 c23
   refine aI rfl <| en <| x_seq <| sr rfl <| mI rfl <| Wp rfl <| st_lss rfl rfl <| mB rfl <| w_split (d := 42) rfl (fun g24 => ?_) (fun g24 => ?_)
   ·try simp only [nm, ne_eq] at g24
    iterate 3 refine w_no 2 42 false ?_
    refine pT rfl rfl <| mB rfl ?_
    iterate 6 refine w_no 7 47 false ?_
    refine pT rfl rfl <| en <| x_cond (t := true) rfl (fun h3 => ?_) (fun h3 => ?_)
    rotate_left
    · exact absurd h3 (by decide)
    refine sr rfl <| aI rfl <| aB rfl <| en <| x_ret <| then_r <| block_r <| then_r <| then_r <| block_r <| then_r <| ret_tmp2 (v := .int _ _) (v2 := .bool _) rfl rfl rfl <| ⟨?_, HC⟩
    rw [constV_none hcb (by rw [← hr]; exact readN_no (by omega) (by first | exact .inl (by assumption) | exact .inr (.inl (by omega)) | exact .inr (.inr (by omega))))]
   ·try simp only [nm, ne_eq] at g24
    refine w_yes 2 42 false <| st_move (v := .int _ _) rfl <| w_yes 2 42 false <| st_move (v := .int _ _) rfl <| w_yes 2 42 false <| st_geq rfl rfl <| pF rfl rfl <| mB rfl <| w_split (d := 47) rfl (fun g25 => ?_) (fun g25 => ?_)
    ·try simp only [nm, ne_eq] at g25
     iterate 6 refine w_no 7 47 false ?_
     refine pT rfl rfl <| en <| x_cond (t := true) rfl (fun h3 => ?_) (fun h3 => ?_)
     rotate_left
     · exact absurd h3 (by decide)
     refine sr rfl <| aI rfl <| aB rfl <| en <| x_ret <| then_r <| block_r <| then_r <| then_r <| block_r <| then_r <| ret_tmp2 (v := .int _ _) (v2 := .bool _) rfl rfl rfl <| ⟨?_, HC⟩
     rw [constV_none hcb (by rw [← hr]; exact readN_no (by omega) (by first | exact .inl (by assumption) | exact .inr (.inl (by omega)) | exact .inr (.inr (by omega))))]
    ·try simp only [nm, ne_eq] at g25
     have htd : (9223372036854775807 - digV (byte (((s.take s.length).drop 2)) i)).tdiv 16 = (9223372036854775807 - digV (byte (((s.take s.length).drop 2)) i)) / 16 := Int.tdiv_eq_ediv_of_nonneg (by omega)
     have hwr : IntKind.i64.wrap ((9223372036854775807 - idx [48, 49, 50, 51, 52, 53, 54, 55, 56, 57, 97, 98, 99, 100, 101, 102] (lowB (byte (((s.take s.length).drop 2)) i))).tdiv 16) = (9223372036854775807 - digV (byte (((s.take s.length).drop 2)) i)) / 16 := by rw [← hde, htd]; exact wrap64_id (by omega) (by omega)
     refine w_yes 7 47 false <| st_move (v := .int _ _) rfl <| w_yes 7 47 false <| st_move (v := .int _ _) rfl <| w_yes 7 47 false <| st_subn rfl rfl (by constructor <;> omega) <| w_yes 7 47 false <| st_move (v := .int _ _) rfl <| w_yes 7 47 false <| st_quo rfl rfl (by decide) <| w_yes 7 47 false <| st_gtr rfl rfl <| pF rfl rfl <| en <| x_cond rfl (fun h3 => ?_) (fun h3 => ?_)
     ·try simp only [nm, ne_eq] at h3
      refine sr rfl <| aI rfl <| aB rfl <| en <| x_ret <| then_r <| block_r <| then_r <| then_r <| block_r <| then_r <| ret_tmp2 (v := .int _ _) (v2 := .bool _) rfl rfl rfl <| ⟨?_, HC⟩
      rw [constV_none hcb (by rw [← hr]; exact readN_no (by omega) (by first | exact .inl (by assumption) | exact .inr (.inl (by omega)) | exact .inr (.inr (by omega))))]
     ·try simp only [nm, ne_eq] at h3
      refine x_skip <| then_n <| x_region rfl <| mI rfl <| mI rfl <| Wp rfl <| st_muln rfl rfl (by constructor <;> omega) <| mI rfl <| Wp rfl <| st_addn rfl rfl (by constructor <;> omega) <| aI rfl <| wops_nil <| block_n <| then_n <| x_region rfl <| Wp rfl <| st_addn rfl rfl (by constructor <;> omega) <| mI rfl <| en <| ⟨(i + 1, n * 16 + digV (byte (((s.take s.length).drop 2)) i)), ?_, ?_, rfl, ⟨rfl, rfl, trivial⟩, ?_⟩
      ·refine ⟨?_, HC, hs10⟩
       exact ⟨by omega, by omega, by omega, by rw [← hr]; exact (readN_at (by omega) (by rintro (h | h | h) <;> omega)).symm⟩
      ·show (((s.take s.length).drop 2)).length - (i + 1) < (((s.take s.length).drop 2)).length - i; omega
      repeat (first | exact agree_upds agree_over rfl | refine agree_upd ?_ rfl | refine agree_upds ?_ rfl | refine agree_over_sub ?_ rfl)
  ·try simp only [nm, ne_eq] at h2
   refine x_exit <| then_x <| then_x <| block_x <| then_n <| sr rfl <| mI rfl <| mS rfl <| Wp rfl <| st_sneq rfl rfl <| aI rfl <| aB rfl <| en <| x_ret <| ret_tmp2 (v := .int _ _) (v2 := .bool _) rfl rfl rfl <| ⟨?_, HC⟩
   rw [constV_some hcb (hr.symm.trans (readN_end (by omega)))]
 ·try simp only [nm, ne_eq] at g3
  refine w_yes 2 14 false <| st_move (v := S _) rfl <| w_yes 2 14 false <| st_call (ags := [_, _]) rfl rfl T.ent84 rfl (HasPrefix_spec _ _ _) ?_
  rintro _ w26 ⟨rfl, c27⟩
  replace HC := HC.then c27
  refine pF rfl rfl <| aB rfl <| en <| x_cond rfl (fun h0 => ?_) (fun h0 => ?_)
  ·try simp only [nm, ne_eq] at h0
   have hcb : constB s = (16, ((s.take s.length).drop 2)) := by rw [List.take_length]; unfold constB; rw [if_pos (by first | (rw [show Lib.hasPrefix s [48, 120] = true by assumption]; rfl) | (rw [show Lib.hasPrefix s [48, 88] = true by assumption, Bool.or_true]))]
   have hdl : (((s.take s.length).drop 2)).length ≤ 9223372036854775807 := by first | exact hs | (simp; omega)
   refine x_draw [(0, 0), (1, 0), (2, 0), (3, 0)] T.mixed rfl rfl rfl (fun _ => True) trivial ?_
   have c29 := Chg.drew w26
   generalize World.drew w26 = w28 at c29 ⊢
   replace HC := HC.then c29
   refine sq_q rfl (fun W hT => r_move (v := S _) rfl) <| sq_q rfl (fun W hT => r_sslice (i := 2) (j := s.length) T.u9 rfl ⟨_, rfl⟩ (by rfl) (by first | (have := pre_len (s := s) (p := [48, 120]) (by assumption); simp at this; omega) | (have := pre_len (s := s) (p := [48, 88]) (by assumption); simp at this; omega)) (by omega)) <| sq_q rfl (fun W hT => r_assign (v := .int _ _) rfl) <| sq_q rfl (fun W hT => r_assign (v := S _) rfl) <| sq_nil <| block_n <| then_n <| sr rfl <| aI rfl <| en <| x_seq <| sr rfl <| mS rfl <| Wp rfl <| st_strBytes (s := ((s.take s.length).drop 2)) T.u9 T.u88 T.u5 rfl ?_
   intro b30 cp31 w32 ge0_b30 lt_b30 c33 hs34
   replace HC := HC.then c33
   refine Wp rfl <| st_len (ct := #[88]) (by rw [show ((#[88] : Array TypeId)[0]?).bind Tryz.prog.underlying = some (.slice 5) from T.u88]; rfl) rfl <| mI rfl <| en <| x_block <| x_loop (ι := Nat × Int) [2, 3, 6, 8, 9, 33, 34, 35, 36, 37, 38, 39, 40, 41, 42, 43, 44, 45, 46, 47, 48, 49, 50, 51, 52, 53, 54, 55, 56, 57, 58, 59, 60] (fun ⟨i, n⟩ => [(33, .int .i64 (i : Int)), (6, .int .i64 n)]) (fun ⟨i, n⟩ W => (i ≤ (((s.take s.length).drop 2)).length ∧ 0 ≤ n ∧ n ≤ 9223372036854775807 ∧ readN 16 n ((((s.take s.length).drop 2)).drop i) = readN 16 0 (((s.take s.length).drop 2))) ∧ (Chg [] w W) ∧ (Sl uE W (fun k => k = b30) (some ⟨b30, 0, none⟩) ((s.take s.length).drop 2))) (fun ⟨i, n⟩ => (((s.take s.length).drop 2)).length - i) (0, 0) ?_ ?_ ?_
   · exact ⟨rfl, rfl, trivial⟩
   ·refine ⟨?_, HC, hs34⟩
    exact ⟨Nat.zero_le _, by omega, by omega, rfl⟩
   intro ⟨i, n⟩ G36 w35 ⟨⟨hi, hn0, hn1, hr⟩, HC, hs34⟩
   change wp _ _ _ _ _ (upds (over _ _ G36) [(33, .int .i64 (i : Int)), (6, .int .i64 n)]) _ _
   refine sr rfl <| Wp rfl <| st_lss rfl rfl <| en <| x_seq <| x_cond rfl (fun h2 => ?_) (fun h2 => ?_)
   ·try simp only [nm, ne_eq] at h2
    refine x_skip <| then_n <| x_seq <| x_block <| sr rfl ?_
    obtain ⟨x37, hx38⟩ : ∃ zz, ((s.take s.length).drop 2)[i]? = some zz := ⟨_, List.getElem?_eq_getElem (by omega)⟩
    obtain ⟨lb43, _, vs42, hA39, hR41, hC40⟩ := hs34.at hx38
    obtain rfl : vs42 = [.int .u8 (x37.toNat : Int)] := hR41
    refine Wp rfl <| st_indexAddr T.u88 T.size5 (congrArg (fun z => Value.slice z _ _) hA39) rfl (by omega) (by omega) <| lI T.one5 rfl (hC40.at (j := 0) rfl) <| aI rfl <| en <| x_seq ?_
    obtain rfl : x37 = byte (((s.take s.length).drop 2)) i := byte_at hx38
    have hdv := digV_lt (byte (((s.take s.length).drop 2)) i)
    have hde : digV (byte (((s.take s.length).drop 2)) i) = idx [48, 49, 50, 51, 52, 53, 54, 55, 56, 57, 97, 98, 99, 100, 101, 102] (lowB (byte (((s.take s.length).drop 2)) i)) := rfl
    refine x_region rfl <| mI rfl <| Wp rfl <| st_call (ags := [_]) rfl rfl T.ent93 rfl (a_low _ _) ?_
    rintro _ w44 ⟨rfl, c45⟩
    replace HC := HC.then c45
    replace hs34 := hs34.tr0 c45
    refine Wp rfl <| st_call (ags := [_, _]) rfl rfl T.ent92 rfl (IndexByte_spec _ _ _) ?_
    rintro _ w46 ⟨rfl, c47⟩
    replace HC := HC.then c47
    replace hs34 := hs34.tr0 c47
    refine aI rfl <| en <| x_seq <| sr rfl <| mI rfl <| Wp rfl <| st_lss rfl rfl <| mB rfl <| w_split (d := 42) rfl (fun g48 => ?_) (fun g48 => ?_)
    ·try simp only [nm, ne_eq] at g48
     iterate 3 refine w_no 2 42 false ?_
     refine pT rfl rfl <| mB rfl ?_
     iterate 6 refine w_no 7 47 false ?_
     refine pT rfl rfl <| en <| x_cond (t := true) rfl (fun h3 => ?_) (fun h3 => ?_)
     rotate_left
     · exact absurd h3 (by decide)
     refine sr rfl <| aI rfl <| aB rfl <| en <| x_ret <| then_r <| block_r <| then_r <| then_r <| block_r <| then_r <| ret_tmp2 (v := .int _ _) (v2 := .bool _) rfl rfl rfl <| ⟨?_, HC⟩
     rw [constV_none hcb (by rw [← hr]; exact readN_no (by omega) (by first | exact .inl (by assumption) | exact .inr (.inl (by omega)) | exact .inr (.inr (by omega))))]
    ·try simp only [nm, ne_eq] at g48
     refine w_yes 2 42 false <| st_move (v := .int _ _) rfl <| w_yes 2 42 false <| st_move (v := .int _ _) rfl <| w_yes 2 42 false <| st_geq rfl rfl <| pF rfl rfl <| mB rfl <| w_split (d := 47) rfl (fun g49 => ?_) (fun g49 => ?_)
     ·try simp only [nm, ne_eq] at g49
      iterate 6 refine w_no 7 47 false ?_
      refine pT rfl rfl <| en <| x_cond (t := true) rfl (fun h3 => ?_) (fun h3 => ?_)
      rotate_left
      · exact absurd h3 (by decide)
      refine sr rfl <| aI rfl <| aB rfl <| en <| x_ret <| then_r <| block_r <| then_r <| then_r <| block_r <| then_r <| ret_tmp2 (v := .int _ _) (v2 := .bool _) rfl rfl rfl <| ⟨?_, HC⟩
      rw [constV_none hcb (by rw [← hr]; exact readN_no (by omega) (by first | exact .inl (by assumption) | exact .inr (.inl (by omega)) | exact .inr (.inr (by omega))))]
     ·try simp only [nm, ne_eq] at g49
      have htd : (9223372036854775807 - digV (byte (((s.take s.length).drop 2)) i)).tdiv 16 = (9223372036854775807 - digV (byte (((s.take s.length).drop 2)) i)) / 16 := Int.tdiv_eq_ediv_of_nonneg (by omega)
      have hwr : IntKind.i64.wrap ((9223372036854775807 - idx [48, 49, 50, 51, 52, 53, 54, 55, 56, 57, 97, 98, 99, 100, 101, 102] (lowB (byte (((s.take s.length).drop 2)) i))).tdiv 16) = (9223372036854775807 - digV (byte (((s.take s.length).drop 2)) i)) / 16 := by rw [← hde, htd]; exact wrap64_id (by omega) (by omega)
      refine w_yes 7 47 false <| st_move (v := .int _ _) rfl <| w_yes 7 47 false <| st_move (v := .int _ _) rfl <| w_yes 7 47 false <| st_subn rfl rfl (by constructor <;> omega) <| w_yes 7 47 false <| st_move (v := .int _ _) rfl <| w_yes 7 47 false <| st_quo rfl rfl (by decide) <| w_yes 7 47 false <| st_gtr rfl rfl <| pF rfl rfl <| en <| x_cond rfl (fun h3 => ?_) (fun h3 => ?_)
      ·try simp only [nm, ne_eq] at h3
       refine sr rfl <| aI rfl <| aB rfl <| en <| x_ret <| then_r <| block_r <| then_r <| then_r <| block_r <| then_r <| ret_tmp2 (v := .int _ _) (v2 := .bool _) rfl rfl rfl <| ⟨?_, HC⟩
       rw [constV_none hcb (by rw [← hr]; exact readN_no (by omega) (by first | exact .inl (by assumption) | exact .inr (.inl (by omega)) | exact .inr (.inr (by omega))))]
      ·try simp only [nm, ne_eq] at h3
       refine x_skip <| then_n <| x_region rfl <| mI rfl <| mI rfl <| Wp rfl <| st_muln rfl rfl (by constructor <;> omega) <| mI rfl <| Wp rfl <| st_addn rfl rfl (by constructor <;> omega) <| aI rfl <| wops_nil <| block_n <| then_n <| x_region rfl <| Wp rfl <| st_addn rfl rfl (by constructor <;> omega) <| mI rfl <| en <| ⟨(i + 1, n * 16 + digV (byte (((s.take s.length).drop 2)) i)), ?_, ?_, rfl, ⟨rfl, rfl, trivial⟩, ?_⟩
       ·refine ⟨?_, HC, hs34⟩
        exact ⟨by omega, by omega, by omega, by rw [← hr]; exact (readN_at (by omega) (by rintro (h | h | h) <;> omega)).symm⟩
       ·show (((s.take s.length).drop 2)).length - (i + 1) < (((s.take s.length).drop 2)).length - i; omega
       repeat (first | exact agree_upds agree_over rfl | refine agree_upd ?_ rfl | refine agree_upds ?_ rfl | refine agree_over_sub ?_ rfl)
   ·try simp only [nm, ne_eq] at h2
    refine x_exit <| then_x <| then_x <| block_x <| then_n <| sr rfl <| mI rfl <| mS rfl <| Wp rfl <| st_sneq rfl rfl <| aI rfl <| aB rfl <| en <| x_ret <| ret_tmp2 (v := .int _ _) (v2 := .bool _) rfl rfl rfl <| ⟨?_, HC⟩
    rw [constV_some hcb (hr.symm.trans (readN_end (by omega)))]
  ·try simp only [nm, ne_eq] at h0
   refine sr rfl <| mS rfl <| Wp rfl <| st_call (ags := [_, _]) rfl rfl T.ent84 rfl (HasPrefix_spec _ _ _) ?_
   rintro _ w50 ⟨rfl, c51⟩
   replace HC := HC.then c51
   refine mB rfl <| w_split (d := 23) rfl (fun g52 => ?_) (fun g52 => ?_)
   ·try simp only [nm, ne_eq] at g52
    refine w_yes 2 23 true <| st_move (v := S _) rfl <| w_yes 2 23 true <| st_slen (ct := #[9]) T.u9 rfl <| w_yes 2 23 true <| st_gtr rfl rfl <| pT rfl rfl <| aB rfl <| en <| x_cond rfl (fun h1 => ?_) (fun h1 => ?_)
    ·try simp only [nm, ne_eq] at h1
     have hcb : constB s = (8, ((s.take s.length).drop 1)) := by rw [List.take_length]; unfold constB; rw [if_neg (by rw [show Lib.hasPrefix s [48, 120] = false by assumption, show Lib.hasPrefix s [48, 88] = false by assumption]; simp), if_pos (by rw [show Lib.hasPrefix s [48] = true by assumption]; simp; omega)]
     have hdl : (((s.take s.length).drop 1)).length ≤ 9223372036854775807 := by first | exact hs | (simp; omega)
     refine x_draw [(0, 0), (1, 0), (2, 0), (3, 0)] T.mixed rfl rfl rfl (fun _ => True) trivial ?_
     have c54 := Chg.drew w50
     generalize World.drew w50 = w53 at c54 ⊢
     replace HC := HC.then c54
     refine sq_q rfl (fun W hT => r_move (v := S _) rfl) <| sq_q rfl (fun W hT => r_sslice (i := 1) (j := s.length) T.u9 rfl ⟨_, rfl⟩ (by rfl) (by omega) (by omega)) <| sq_q rfl (fun W hT => r_assign (v := .int _ _) rfl) <| sq_q rfl (fun W hT => r_assign (v := S _) rfl) <| sq_nil <| block_n <| then_n <| sr rfl <| aI rfl <| en <| x_seq <| sr rfl <| mS rfl <| Wp rfl <| st_strBytes (s := ((s.take s.length).drop 1)) T.u9 T.u88 T.u5 rfl ?_
     intro b55 cp56 w57 ge0_b55 lt_b55 c58 hs59
     replace HC := HC.then c58
     refine Wp rfl <| st_len (ct := #[88]) (by rw [show ((#[88] : Array TypeId)[0]?).bind Tryz.prog.underlying = some (.slice 5) from T.u88]; rfl) rfl <| mI rfl <| en <| x_block <| x_loop (ι := Nat × Int) [2, 3, 6, 8, 9, 33, 34, 35, 36, 37, 38, 39, 40, 41, 42, 43, 44, 45, 46, 47, 48, 49, 50, 51, 52, 53, 54, 55, 56, 57, 58, 59, 60] (fun ⟨i, n⟩ => [(33, .int .i64 (i : Int)), (6, .int .i64 n)]) (fun ⟨i, n⟩ W => (i ≤ (((s.take s.length).drop 1)).length ∧ 0 ≤ n ∧ n ≤ 9223372036854775807 ∧ readN 8 n ((((s.take s.length).drop 1)).drop i) = readN 8 0 (((s.take s.length).drop 1))) ∧ (Chg [] w W) ∧ (Sl uE W (fun k => k = b55) (some ⟨b55, 0, none⟩) ((s.take s.length).drop 1))) (fun ⟨i, n⟩ => (((s.take s.length).drop 1)).length - i) (0, 0) ?_ ?_ ?_
     · exact ⟨rfl, rfl, trivial⟩
     ·refine ⟨?_, HC, hs59⟩
      exact ⟨Nat.zero_le _, by omega, by omega, rfl⟩
     intro ⟨i, n⟩ G61 w60 ⟨⟨hi, hn0, hn1, hr⟩, HC, hs59⟩
     change wp _ _ _ _ _ (upds (over _ _ G61) [(33, .int .i64 (i : Int)), (6, .int .i64 n)]) _ _
     refine sr rfl <| Wp rfl <| st_lss rfl rfl <| en <| x_seq <| x_cond rfl (fun h2 => ?_) (fun h2 => ?_)
     ·try simp only [nm, ne_eq] at h2
      refine x_skip <| then_n <| x_seq <| x_block <| sr rfl ?_
      obtain ⟨x62, hx63⟩ : ∃ zz, ((s.take s.length).drop 1)[i]? = some zz := ⟨_, List.getElem?_eq_getElem (by omega)⟩
      obtain ⟨lb68, _, vs67, hA64, hR66, hC65⟩ := hs59.at hx63
      obtain rfl : vs67 = [.int .u8 (x62.toNat : Int)] := hR66
      refine Wp rfl <| st_indexAddr T.u88 T.size5 (congrArg (fun z => Value.slice z _ _) hA64) rfl (by omega) (by omega) <| lI T.one5 rfl (hC65.at (j := 0) rfl) <| aI rfl <| en <| x_seq ?_
      obtain rfl : x62 = byte (((s.take s.length).drop 1)) i := byte_at hx63
      have hdv := digV_lt (byte (((s.take s.length).drop 1)) i)
      have hde : digV (byte (((s.take s.length).drop 1)) i) = idx [48, 49, 50, 51, 52, 53, 54, 55, 56, 57, 97, 98, 99, 100, 101, 102] (lowB (byte (((s.take s.length).drop 1)) i)) := rfl
      refine x_region rfl <| mI rfl <| Wp rfl <| st_call (ags := [_]) rfl rfl T.ent93 rfl (a_low _ _) ?_
      rintro _ w69 ⟨rfl, c70⟩
      replace HC := HC.then c70
      replace hs59 := hs59.tr0 c70
      refine Wp rfl <| st_call (ags := [_, _]) rfl rfl T.ent92 rfl (IndexByte_spec _ _ _) ?_
      rintro _ w71 ⟨rfl, c72⟩
      replace HC := HC.then c72
      replace hs59 := hs59.tr0 c72
      refine aI rfl <| en <| x_seq <| sr rfl <| mI rfl <| Wp rfl <| st_lss rfl rfl <| mB rfl <| w_split (d := 42) rfl (fun g73 => ?_) (fun g73 => ?_)
      ·try simp only [nm, ne_eq] at g73
       iterate 3 refine w_no 2 42 false ?_
       refine pT rfl rfl <| mB rfl ?_
       iterate 6 refine w_no 7 47 false ?_
       refine pT rfl rfl <| en <| x_cond (t := true) rfl (fun h3 => ?_) (fun h3 => ?_)
       rotate_left
       · exact absurd h3 (by decide)
       refine sr rfl <| aI rfl <| aB rfl <| en <| x_ret <| then_r <| block_r <| then_r <| then_r <| block_r <| then_r <| ret_tmp2 (v := .int _ _) (v2 := .bool _) rfl rfl rfl <| ⟨?_, HC⟩
       rw [constV_none hcb (by rw [← hr]; exact readN_no (by omega) (by first | exact .inl (by assumption) | exact .inr (.inl (by omega)) | exact .inr (.inr (by omega))))]
      ·try simp only [nm, ne_eq] at g73
       refine w_yes 2 42 false <| st_move (v := .int _ _) rfl <| w_yes 2 42 false <| st_move (v := .int _ _) rfl <| w_yes 2 42 false <| st_geq rfl rfl <| pF rfl rfl <| mB rfl <| w_split (d := 47) rfl (fun g74 => ?_) (fun g74 => ?_)
       ·try simp only [nm, ne_eq] at g74
        iterate 6 refine w_no 7 47 false ?_
        refine pT rfl rfl <| en <| x_cond (t := true) rfl (fun h3 => ?_) (fun h3 => ?_)
        rotate_left
        · exact absurd h3 (by decide)
        refine sr rfl <| aI rfl <| aB rfl <| en <| x_ret <| then_r <| block_r <| then_r <| then_r <| block_r <| then_r <| ret_tmp2 (v := .int _ _) (v2 := .bool _) rfl rfl rfl <| ⟨?_, HC⟩
        rw [constV_none hcb (by rw [← hr]; exact readN_no (by omega) (by first | exact .inl (by assumption) | exact .inr (.inl (by omega)) | exact .inr (.inr (by omega))))]
       ·try simp only [nm, ne_eq] at g74
        have htd : (9223372036854775807 - digV (byte (((s.take s.length).drop 1)) i)).tdiv 8 = (9223372036854775807 - digV (byte (((s.take s.length).drop 1)) i)) / 8 := Int.tdiv_eq_ediv_of_nonneg (by omega)
        have hwr : IntKind.i64.wrap ((9223372036854775807 - idx [48, 49, 50, 51, 52, 53, 54, 55, 56, 57, 97, 98, 99, 100, 101, 102] (lowB (byte (((s.take s.length).drop 1)) i))).tdiv 8) = (9223372036854775807 - digV (byte (((s.take s.length).drop 1)) i)) / 8 := by rw [← hde, htd]; exact wrap64_id (by omega) (by omega)
        refine w_yes 7 47 false <| st_move (v := .int _ _) rfl <| w_yes 7 47 false <| st_move (v := .int _ _) rfl <| w_yes 7 47 false <| st_subn rfl rfl (by constructor <;> omega) <| w_yes 7 47 false <| st_move (v := .int _ _) rfl <| w_yes 7 47 false <| st_quo rfl rfl (by decide) <| w_yes 7 47 false <| st_gtr rfl rfl <| pF rfl rfl <| en <| x_cond rfl (fun h3 => ?_) (fun h3 => ?_)
        ·try simp only [nm, ne_eq] at h3
         refine sr rfl <| aI rfl <| aB rfl <| en <| x_ret <| then_r <| block_r <| then_r <| then_r <| block_r <| then_r <| ret_tmp2 (v := .int _ _) (v2 := .bool _) rfl rfl rfl <| ⟨?_, HC⟩
         rw [constV_none hcb (by rw [← hr]; exact readN_no (by omega) (by first | exact .inl (by assumption) | exact .inr (.inl (by omega)) | exact .inr (.inr (by omega))))]
        ·try simp only [nm, ne_eq] at h3
         refine x_skip <| then_n <| x_region rfl <| mI rfl <| mI rfl <| Wp rfl <| st_muln rfl rfl (by constructor <;> omega) <| mI rfl <| Wp rfl <| st_addn rfl rfl (by constructor <;> omega) <| aI rfl <| wops_nil <| block_n <| then_n <| x_region rfl <| Wp rfl <| st_addn rfl rfl (by constructor <;> omega) <| mI rfl <| en <| ⟨(i + 1, n * 8 + digV (byte (((s.take s.length).drop 1)) i)), ?_, ?_, rfl, ⟨rfl, rfl, trivial⟩, ?_⟩
         ·refine ⟨?_, HC, hs59⟩
          exact ⟨by omega, by omega, by omega, by rw [← hr]; exact (readN_at (by omega) (by rintro (h | h | h) <;> omega)).symm⟩
         ·show (((s.take s.length).drop 1)).length - (i + 1) < (((s.take s.length).drop 1)).length - i; omega
         repeat (first | exact agree_upds agree_over rfl | refine agree_upd ?_ rfl | refine agree_upds ?_ rfl | refine agree_over_sub ?_ rfl)
     ·try simp only [nm, ne_eq] at h2
      refine x_exit <| then_x <| then_x <| block_x <| then_n <| sr rfl <| mI rfl <| mS rfl <| Wp rfl <| st_sneq rfl rfl <| aI rfl <| aB rfl <| en <| x_ret <| ret_tmp2 (v := .int _ _) (v2 := .bool _) rfl rfl rfl <| ⟨?_, HC⟩
      rw [constV_some hcb (hr.symm.trans (readN_end (by omega)))]
    ·try simp only [nm, ne_eq] at h1
     have hcb : constB s = (10, s) := by unfold constB; rw [if_neg (by rw [show Lib.hasPrefix s [48, 120] = false by assumption, show Lib.hasPrefix s [48, 88] = false by assumption]; simp), if_neg (by rw [Bool.and_eq_true, decide_eq_true_eq]; rintro ⟨ha, hb⟩; first | (rw [show Lib.hasPrefix s [48] = false by assumption] at ha; cases ha) | omega)]
     have hdl : (s).length ≤ 9223372036854775807 := by first | exact hs | (simp; omega)
     refine x_skip <| block_n <| then_n <| sr rfl <| aI rfl <| en <| x_seq <| sr rfl <| mS rfl <| Wp rfl <| st_strBytes (s := s) T.u9 T.u88 T.u5 rfl ?_
     intro b75 cp76 w77 ge0_b75 lt_b75 c78 hs79
     replace HC := HC.then c78
     refine Wp rfl <| st_len (ct := #[88]) (by rw [show ((#[88] : Array TypeId)[0]?).bind Tryz.prog.underlying = some (.slice 5) from T.u88]; rfl) rfl <| mI rfl <| en <| x_block <| x_loop (ι := Nat × Int) [2, 3, 6, 8, 9, 33, 34, 35, 36, 37, 38, 39, 40, 41, 42, 43, 44, 45, 46, 47, 48, 49, 50, 51, 52, 53, 54, 55, 56, 57, 58, 59, 60] (fun ⟨i, n⟩ => [(33, .int .i64 (i : Int)), (6, .int .i64 n)]) (fun ⟨i, n⟩ W => (i ≤ (s).length ∧ 0 ≤ n ∧ n ≤ 9223372036854775807 ∧ readN 10 n ((s).drop i) = readN 10 0 (s)) ∧ (Chg [] w W) ∧ (Sl uE W (fun k => k = b75) (some ⟨b75, 0, none⟩) s)) (fun ⟨i, n⟩ => (s).length - i) (0, 0) ?_ ?_ ?_
     · exact ⟨rfl, rfl, trivial⟩
     ·refine ⟨?_, HC, hs79⟩
      exact ⟨Nat.zero_le _, by omega, by omega, rfl⟩
     intro ⟨i, n⟩ G81 w80 ⟨⟨hi, hn0, hn1, hr⟩, HC, hs79⟩
     change wp _ _ _ _ _ (upds (over _ _ G81) [(33, .int .i64 (i : Int)), (6, .int .i64 n)]) _ _
     refine sr rfl <| Wp rfl <| st_lss rfl rfl <| en <| x_seq <| x_cond rfl (fun h2 => ?_) (fun h2 => ?_)
     ·try simp only [nm, ne_eq] at h2
      refine x_skip <| then_n <| x_seq <| x_block <| sr rfl ?_
      obtain ⟨x82, hx83⟩ : ∃ zz, s[i]? = some zz := ⟨_, List.getElem?_eq_getElem (by omega)⟩
      obtain ⟨lb88, _, vs87, hA84, hR86, hC85⟩ := hs79.at hx83
      obtain rfl : vs87 = [.int .u8 (x82.toNat : Int)] := hR86
      refine Wp rfl <| st_indexAddr T.u88 T.size5 (congrArg (fun z => Value.slice z _ _) hA84) rfl (by omega) (by omega) <| lI T.one5 rfl (hC85.at (j := 0) rfl) <| aI rfl <| en <| x_seq ?_
      obtain rfl : x82 = byte (s) i := byte_at hx83
      have hdv := digV_lt (byte (s) i)
      have hde : digV (byte (s) i) = idx [48, 49, 50, 51, 52, 53, 54, 55, 56, 57, 97, 98, 99, 100, 101, 102] (lowB (byte (s) i)) := rfl
      refine x_region rfl <| mI rfl <| Wp rfl <| st_call (ags := [_]) rfl rfl T.ent93 rfl (a_low _ _) ?_
      rintro _ w89 ⟨rfl, c90⟩
      replace HC := HC.then c90
      replace hs79 := hs79.tr0 c90
      refine Wp rfl <| st_call (ags := [_, _]) rfl rfl T.ent92 rfl (IndexByte_spec _ _ _) ?_
      rintro _ w91 ⟨rfl, c92⟩
      replace HC := HC.then c92
      replace hs79 := hs79.tr0 c92
      refine aI rfl <| en <| x_seq <| sr rfl <| mI rfl <| Wp rfl <| st_lss rfl rfl <| mB rfl <| w_split (d := 42) rfl (fun g93 => ?_) (fun g93 => ?_)
      ·try simp only [nm, ne_eq] at g93
       iterate 3 refine w_no 2 42 false ?_
       refine pT rfl rfl <| mB rfl ?_
       iterate 6 refine w_no 7 47 false ?_
       refine pT rfl rfl <| en <| x_cond (t := true) rfl (fun h3 => ?_) (fun h3 => ?_)
       rotate_left
       · exact absurd h3 (by decide)
       refine sr rfl <| aI rfl <| aB rfl <| en <| x_ret <| then_r <| block_r <| then_r <| then_r <| block_r <| then_r <| ret_tmp2 (v := .int _ _) (v2 := .bool _) rfl rfl rfl <| ⟨?_, HC⟩
       rw [constV_none hcb (by rw [← hr]; exact readN_no (by omega) (by first | exact .inl (by assumption) | exact .inr (.inl (by omega)) | exact .inr (.inr (by omega))))]
      ·try simp only [nm, ne_eq] at g93
       refine w_yes 2 42 false <| st_move (v := .int _ _) rfl <| w_yes 2 42 false <| st_move (v := .int _ _) rfl <| w_yes 2 42 false <| st_geq rfl rfl <| pF rfl rfl <| mB rfl <| w_split (d := 47) rfl (fun g94 => ?_) (fun g94 => ?_)
       ·try simp only [nm, ne_eq] at g94
        iterate 6 refine w_no 7 47 false ?_
        refine pT rfl rfl <| en <| x_cond (t := true) rfl (fun h3 => ?_) (fun h3 => ?_)
        rotate_left
        · exact absurd h3 (by decide)
        refine sr rfl <| aI rfl <| aB rfl <| en <| x_ret <| then_r <| block_r <| then_r <| then_r <| block_r <| then_r <| ret_tmp2 (v := .int _ _) (v2 := .bool _) rfl rfl rfl <| ⟨?_, HC⟩
        rw [constV_none hcb (by rw [← hr]; exact readN_no (by omega) (by first | exact .inl (by assumption) | exact .inr (.inl (by omega)) | exact .inr (.inr (by omega))))]
       ·try simp only [nm, ne_eq] at g94
        have htd : (9223372036854775807 - digV (byte (s) i)).tdiv 10 = (9223372036854775807 - digV (byte (s) i)) / 10 := Int.tdiv_eq_ediv_of_nonneg (by omega)
        have hwr : IntKind.i64.wrap ((9223372036854775807 - idx [48, 49, 50, 51, 52, 53, 54, 55, 56, 57, 97, 98, 99, 100, 101, 102] (lowB (byte (s) i))).tdiv 10) = (9223372036854775807 - digV (byte (s) i)) / 10 := by rw [← hde, htd]; exact wrap64_id (by omega) (by omega)
        refine w_yes 7 47 false <| st_move (v := .int _ _) rfl <| w_yes 7 47 false <| st_move (v := .int _ _) rfl <| w_yes 7 47 false <| st_subn rfl rfl (by constructor <;> omega) <| w_yes 7 47 false <| st_move (v := .int _ _) rfl <| w_yes 7 47 false <| st_quo rfl rfl (by decide) <| w_yes 7 47 false <| st_gtr rfl rfl <| pF rfl rfl <| en <| x_cond rfl (fun h3 => ?_) (fun h3 => ?_)
        ·try simp only [nm, ne_eq] at h3
         refine sr rfl <| aI rfl <| aB rfl <| en <| x_ret <| then_r <| block_r <| then_r <| then_r <| block_r <| then_r <| ret_tmp2 (v := .int _ _) (v2 := .bool _) rfl rfl rfl <| ⟨?_, HC⟩
         rw [constV_none hcb (by rw [← hr]; exact readN_no (by omega) (by first | exact .inl (by assumption) | exact .inr (.inl (by omega)) | exact .inr (.inr (by omega))))]
        ·try simp only [nm, ne_eq] at h3
         refine x_skip <| then_n <| x_region rfl <| mI rfl <| mI rfl <| Wp rfl <| st_muln rfl rfl (by constructor <;> omega) <| mI rfl <| Wp rfl <| st_addn rfl rfl (by constructor <;> omega) <| aI rfl <| wops_nil <| block_n <| then_n <| x_region rfl <| Wp rfl <| st_addn rfl rfl (by constructor <;> omega) <| mI rfl <| en <| ⟨(i + 1, n * 10 + digV (byte (s) i)), ?_, ?_, rfl, ⟨rfl, rfl, trivial⟩, ?_⟩
         ·refine ⟨?_, HC, hs79⟩
          exact ⟨by omega, by omega, by omega, by rw [← hr]; exact (readN_at (by omega) (by rintro (h | h | h) <;> omega)).symm⟩
         ·show (s).length - (i + 1) < (s).length - i; omega
         repeat (first | exact agree_upds agree_over rfl | refine agree_upd ?_ rfl | refine agree_upds ?_ rfl | refine agree_over_sub ?_ rfl)
     ·try simp only [nm, ne_eq] at h2
      refine x_exit <| then_x <| then_x <| block_x <| then_n <| sr rfl <| mI rfl <| mS rfl <| Wp rfl <| st_sneq rfl rfl <| aI rfl <| aB rfl <| en <| x_ret <| ret_tmp2 (v := .int _ _) (v2 := .bool _) rfl rfl rfl <| ⟨?_, HC⟩
      rw [constV_some hcb (hr.symm.trans (readN_end (by omega)))]
   ·try simp only [nm, ne_eq] at g52
    iterate 3 refine w_no 2 23 true ?_
    refine pF rfl rfl <| aB rfl <| en <| x_cond (t := false) rfl (fun h1 => ?_) (fun h1 => ?_)
    · exact absurd h1 (by decide)
    have hcb : constB s = (10, s) := by unfold constB; rw [if_neg (by rw [show Lib.hasPrefix s [48, 120] = false by assumption, show Lib.hasPrefix s [48, 88] = false by assumption]; simp), if_neg (by rw [Bool.and_eq_true, decide_eq_true_eq]; rintro ⟨ha, hb⟩; first | (rw [show Lib.hasPrefix s [48] = false by assumption] at ha; cases ha) | omega)]
    have hdl : (s).length ≤ 9223372036854775807 := by first | exact hs | (simp; omega)
    refine x_skip <| block_n <| then_n <| sr rfl <| aI rfl <| en <| x_seq <| sr rfl <| mS rfl <| Wp rfl <| st_strBytes (s := s) T.u9 T.u88 T.u5 rfl ?_
    intro b95 cp96 w97 ge0_b95 lt_b95 c98 hs99
    replace HC := HC.then c98
    refine Wp rfl <| st_len (ct := #[88]) (by rw [show ((#[88] : Array TypeId)[0]?).bind Tryz.prog.underlying = some (.slice 5) from T.u88]; rfl) rfl <| mI rfl <| en <| x_block <| x_loop (ι := Nat × Int) [2, 3, 6, 8, 9, 33, 34, 35, 36, 37, 38, 39, 40, 41, 42, 43, 44, 45, 46, 47, 48, 49, 50, 51, 52, 53, 54, 55, 56, 57, 58, 59, 60] (fun ⟨i, n⟩ => [(33, .int .i64 (i : Int)), (6, .int .i64 n)]) (fun ⟨i, n⟩ W => (i ≤ (s).length ∧ 0 ≤ n ∧ n ≤ 9223372036854775807 ∧ readN 10 n ((s).drop i) = readN 10 0 (s)) ∧ (Chg [] w W) ∧ (Sl uE W (fun k => k = b95) (some ⟨b95, 0, none⟩) s)) (fun ⟨i, n⟩ => (s).length - i) (0, 0) ?_ ?_ ?_
    · exact ⟨rfl, rfl, trivial⟩
    ·refine ⟨?_, HC, hs99⟩
     exact ⟨Nat.zero_le _, by omega, by omega, rfl⟩
    intro ⟨i, n⟩ G101 w100 ⟨⟨hi, hn0, hn1, hr⟩, HC, hs99⟩
    change wp _ _ _ _ _ (upds (over _ _ G101) [(33, .int .i64 (i : Int)), (6, .int .i64 n)]) _ _
    refine sr rfl <| Wp rfl <| st_lss rfl rfl <| en <| x_seq <| x_cond rfl (fun h2 => ?_) (fun h2 => ?_)
    ·try simp only [nm, ne_eq] at h2
     refine x_skip <| then_n <| x_seq <| x_block <| sr rfl ?_
     obtain ⟨x102, hx103⟩ : ∃ zz, s[i]? = some zz := ⟨_, List.getElem?_eq_getElem (by omega)⟩
     obtain ⟨lb108, _, vs107, hA104, hR106, hC105⟩ := hs99.at hx103
     obtain rfl : vs107 = [.int .u8 (x102.toNat : Int)] := hR106
     refine Wp rfl <| st_indexAddr T.u88 T.size5 (congrArg (fun z => Value.slice z _ _) hA104) rfl (by omega) (by omega) <| lI T.one5 rfl (hC105.at (j := 0) rfl) <| aI rfl <| en <| x_seq ?_
     obtain rfl : x102 = byte (s) i := byte_at hx103
     have hdv := digV_lt (byte (s) i)
     have hde : digV (byte (s) i) = idx [48, 49, 50, 51, 52, 53, 54, 55, 56, 57, 97, 98, 99, 100, 101, 102] (lowB (byte (s) i)) := rfl
     refine x_region rfl <| mI rfl <| Wp rfl <| st_call (ags := [_]) rfl rfl T.ent93 rfl (a_low _ _) ?_
     rintro _ w109 ⟨rfl, c110⟩
     replace HC := HC.then c110
     replace hs99 := hs99.tr0 c110
     refine Wp rfl <| st_call (ags := [_, _]) rfl rfl T.ent92 rfl (IndexByte_spec _ _ _) ?_
     rintro _ w111 ⟨rfl, c112⟩
     replace HC := HC.then c112
     replace hs99 := hs99.tr0 c112
     refine aI rfl <| en <| x_seq <| sr rfl <| mI rfl <| Wp rfl <| st_lss rfl rfl <| mB rfl <| w_split (d := 42) rfl (fun g113 => ?_) (fun g113 => ?_)
     ·try simp only [nm, ne_eq] at g113
      iterate 3 refine w_no 2 42 false ?_
      refine pT rfl rfl <| mB rfl ?_
      iterate 6 refine w_no 7 47 false ?_
      refine pT rfl rfl <| en <| x_cond (t := true) rfl (fun h3 => ?_) (fun h3 => ?_)
      rotate_left
      · exact absurd h3 (by decide)
      refine sr rfl <| aI rfl <| aB rfl <| en <| x_ret <| then_r <| block_r <| then_r <| then_r <| block_r <| then_r <| ret_tmp2 (v := .int _ _) (v2 := .bool _) rfl rfl rfl <| ⟨?_, HC⟩
      rw [constV_none hcb (by rw [← hr]; exact readN_no (by omega) (by first | exact .inl (by assumption) | exact .inr (.inl (by omega)) | exact .inr (.inr (by omega))))]
     ·try simp only [nm, ne_eq] at g113
      refine w_yes 2 42 false <| st_move (v := .int _ _) rfl <| w_yes 2 42 false <| st_move (v := .int _ _) rfl <| w_yes 2 42 false <| st_geq rfl rfl <| pF rfl rfl <| mB rfl <| w_split (d := 47) rfl (fun g114 => ?_) (fun g114 => ?_)
      ·try simp only [nm, ne_eq] at g114
       iterate 6 refine w_no 7 47 false ?_
       refine pT rfl rfl <| en <| x_cond (t := true) rfl (fun h3 => ?_) (fun h3 => ?_)
       rotate_left
       · exact absurd h3 (by decide)
       refine sr rfl <| aI rfl <| aB rfl <| en <| x_ret <| then_r <| block_r <| then_r <| then_r <| block_r <| then_r <| ret_tmp2 (v := .int _ _) (v2 := .bool _) rfl rfl rfl <| ⟨?_, HC⟩
       rw [constV_none hcb (by rw [← hr]; exact readN_no (by omega) (by first | exact .inl (by assumption) | exact .inr (.inl (by omega)) | exact .inr (.inr (by omega))))]
      ·try simp only [nm, ne_eq] at g114
       have htd : (9223372036854775807 - digV (byte (s) i)).tdiv 10 = (9223372036854775807 - digV (byte (s) i)) / 10 := Int.tdiv_eq_ediv_of_nonneg (by omega)
       have hwr : IntKind.i64.wrap ((9223372036854775807 - idx [48, 49, 50, 51, 52, 53, 54, 55, 56, 57, 97, 98, 99, 100, 101, 102] (lowB (byte (s) i))).tdiv 10) = (9223372036854775807 - digV (byte (s) i)) / 10 := by rw [← hde, htd]; exact wrap64_id (by omega) (by omega)
       refine w_yes 7 47 false <| st_move (v := .int _ _) rfl <| w_yes 7 47 false <| st_move (v := .int _ _) rfl <| w_yes 7 47 false <| st_subn rfl rfl (by constructor <;> omega) <| w_yes 7 47 false <| st_move (v := .int _ _) rfl <| w_yes 7 47 false <| st_quo rfl rfl (by decide) <| w_yes 7 47 false <| st_gtr rfl rfl <| pF rfl rfl <| en <| x_cond rfl (fun h3 => ?_) (fun h3 => ?_)
       ·try simp only [nm, ne_eq] at h3
        refine sr rfl <| aI rfl <| aB rfl <| en <| x_ret <| then_r <| block_r <| then_r <| then_r <| block_r <| then_r <| ret_tmp2 (v := .int _ _) (v2 := .bool _) rfl rfl rfl <| ⟨?_, HC⟩
        rw [constV_none hcb (by rw [← hr]; exact readN_no (by omega) (by first | exact .inl (by assumption) | exact .inr (.inl (by omega)) | exact .inr (.inr (by omega))))]
       ·try simp only [nm, ne_eq] at h3
        refine x_skip <| then_n <| x_region rfl <| mI rfl <| mI rfl <| Wp rfl <| st_muln rfl rfl (by constructor <;> omega) <| mI rfl <| Wp rfl <| st_addn rfl rfl (by constructor <;> omega) <| aI rfl <| wops_nil <| block_n <| then_n <| x_region rfl <| Wp rfl <| st_addn rfl rfl (by constructor <;> omega) <| mI rfl <| en <| ⟨(i + 1, n * 10 + digV (byte (s) i)), ?_, ?_, rfl, ⟨rfl, rfl, trivial⟩, ?_⟩
        ·refine ⟨?_, HC, hs99⟩
         exact ⟨by omega, by omega, by omega, by rw [← hr]; exact (readN_at (by omega) (by rintro (h | h | h) <;> omega)).symm⟩
        ·show (s).length - (i + 1) < (s).length - i; omega
        repeat (first | exact agree_upds agree_over rfl | refine agree_upd ?_ rfl | refine agree_upds ?_ rfl | refine agree_over_sub ?_ rfl)
    ·try simp only [nm, ne_eq] at h2
     refine x_exit <| then_x <| then_x <| block_x <| then_n <| sr rfl <| mI rfl <| mS rfl <| Wp rfl <| st_sneq rfl rfl <| aI rfl <| aB rfl <| en <| x_ret <| ret_tmp2 (v := .int _ _) (v2 := .bool _) rfl rfl rfl <| ⟨?_, HC⟩
     rw [constV_some hcb (hr.symm.trans (readN_end (by omega)))]

end Go.Proofs.YtmbbhgglllfelaaGreatDoor.K
