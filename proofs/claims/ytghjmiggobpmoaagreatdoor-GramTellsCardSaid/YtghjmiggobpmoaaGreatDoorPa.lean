import Derived.Test.YtghjmiggobpmoaaGreatDoorTok
import Derived.Test.YtghjmiggobpmoaaGreatDoorKitFl
import Derived.Test.YtghjmiggobpmoaaGreatDoorTy
import Derived.Test.YtghjmiggobpmoaaGreatDoorKitL
import Derived.Lib.FrozenHead2
import Derived.Lib.MinMax
set_option linter.unusedVariables false
set_option linter.unusedSimpArgs false
set_option autoImplicit false
set_option maxRecDepth 20000
namespace Go.Proofs.YtghjmiggobpmoaaGreatDoor.K
open Go Go.Proofs Go.RowKit

theorem c_upper (c : UInt8) (w : World) : CallR Tryz.prog 118 #[.int .u8 (c.toNat : Int)] w fun v w' => v = .bool (upB c) ∧ Chg [] w w' := by
 refine callR_of_wp (args := [_]) Tryz.func118 rfl (Nat.le_of_ble_eq_true rfl) ?_
 have HC : Chg [] w w := .refl _
 refine sr rfl <| aB rfl <| en <| sr rfl <| mI rfl <| Wp rfl <| st_leq rfl rfl <| mB rfl <| w_split (d := 5) rfl (fun g1 => ?_) (fun g1 => ?_)
 ·try simp only [nm, ne_eq] at g1
  refine w_yes 2 5 true <| st_move (v := .int _ _) rfl <| w_yes 2 5 true <| st_leq rfl rfl <| pT rfl rfl <| aB rfl <| en <| x_ret <| ret_tmp (v := .bool _) rfl rfl ?_
  have hc := c.toNat_lt
  refine ⟨congrArg Value.bool ?_, HC⟩
  rw [Bool.eq_iff_iff]
  (try simp only [upB, loB, digB, alphaB, begB, wordB, wrap_u8, Bool.or_eq_true, Bool.and_eq_true, Bool.or_eq_false_iff, Bool.and_eq_false_imp, decide_eq_true_eq, decide_eq_false_iff_not] at *)
  (try simp only [true_iff, false_iff, iff_true, iff_false, Bool.false_eq_true])
  omega
 ·try simp only [nm, ne_eq] at g1
  refine w_no 2 5 true <| w_no 2 5 true <| pF rfl rfl <| aB rfl <| en <| x_ret <| ret_tmp (v := .bool _) rfl rfl ?_
  have hc := c.toNat_lt
  refine ⟨congrArg Value.bool ?_, HC⟩
  rw [Bool.eq_iff_iff]
  (try simp only [upB, loB, digB, alphaB, begB, wordB, wrap_u8, Bool.or_eq_true, Bool.and_eq_true, Bool.or_eq_false_iff, Bool.and_eq_false_imp, decide_eq_true_eq, decide_eq_false_iff_not] at *)
  (try simp only [true_iff, false_iff, iff_true, iff_false, Bool.false_eq_true])
  omega

theorem c_lower (c : UInt8) (w : World) : CallR Tryz.prog 119 #[.int .u8 (c.toNat : Int)] w fun v w' => v = .bool (loB c) ∧ Chg [] w w' := by
 refine callR_of_wp (args := [_]) Tryz.func119 rfl (Nat.le_of_ble_eq_true rfl) ?_
 have HC : Chg [] w w := .refl _
 refine sr rfl <| aB rfl <| en <| sr rfl <| mI rfl <| Wp rfl <| st_leq rfl rfl <| mB rfl <| w_split (d := 5) rfl (fun g1 => ?_) (fun g1 => ?_)
 ·try simp only [nm, ne_eq] at g1
  refine w_yes 2 5 true <| st_move (v := .int _ _) rfl <| w_yes 2 5 true <| st_leq rfl rfl <| pT rfl rfl <| aB rfl <| en <| x_ret <| ret_tmp (v := .bool _) rfl rfl ?_
  have hc := c.toNat_lt
  refine ⟨congrArg Value.bool ?_, HC⟩
  rw [Bool.eq_iff_iff]
  (try simp only [upB, loB, digB, alphaB, begB, wordB, wrap_u8, Bool.or_eq_true, Bool.and_eq_true, Bool.or_eq_false_iff, Bool.and_eq_false_imp, decide_eq_true_eq, decide_eq_false_iff_not] at *)
  (try simp only [true_iff, false_iff, iff_true, iff_false, Bool.false_eq_true])
  omega
 ·try simp only [nm, ne_eq] at g1
  refine w_no 2 5 true <| w_no 2 5 true <| pF rfl rfl <| aB rfl <| en <| x_ret <| ret_tmp (v := .bool _) rfl rfl ?_
  have hc := c.toNat_lt
  refine ⟨congrArg Value.bool ?_, HC⟩
  rw [Bool.eq_iff_iff]
  (try simp only [upB, loB, digB, alphaB, begB, wordB, wrap_u8, Bool.or_eq_true, Bool.and_eq_true, Bool.or_eq_false_iff, Bool.and_eq_false_imp, decide_eq_true_eq, decide_eq_false_iff_not] at *)
  (try simp only [true_iff, false_iff, iff_true, iff_false, Bool.false_eq_true])
  omega

theorem c_alpha (c : UInt8) (w : World) : CallR Tryz.prog 116 #[.int .u8 (c.toNat : Int)] w fun v w' => v = .bool (alphaB c) ∧ Chg [] w w' := by
 refine callR_of_wp (args := [_]) Tryz.func116 rfl (Nat.le_of_ble_eq_true rfl) ?_
 have HC : Chg [] w w := .refl _
 refine sr rfl <| aB rfl <| en <| sr rfl <| mI rfl <| Wp rfl <| st_call (ags := [_]) rfl rfl T.ent118 rfl (c_upper c _) ?_
 rintro _ w1 ⟨rfl, c2⟩
 replace HC := HC.then c2
 refine mB rfl <| w_split (d := 5) rfl (fun g3 => ?_) (fun g3 => ?_)
 ·try simp only [nm, ne_eq] at g3
  refine w_no 2 5 false <| w_no 2 5 false <| pT rfl rfl <| aB rfl <| en <| x_ret <| ret_tmp (v := .bool _) rfl rfl ?_
  have hc := c.toNat_lt
  refine ⟨congrArg Value.bool ?_, HC⟩
  rw [Bool.eq_iff_iff]
  (try simp only [upB, loB, digB, alphaB, begB, wordB, wrap_u8, Bool.or_eq_true, Bool.and_eq_true, Bool.or_eq_false_iff, Bool.and_eq_false_imp, decide_eq_true_eq, decide_eq_false_iff_not] at *)
  (try simp only [true_iff, false_iff, iff_true, iff_false, Bool.false_eq_true])
  omega
 ·try simp only [nm, ne_eq] at g3
  refine w_yes 2 5 false <| st_move (v := .int _ _) rfl <| w_yes 2 5 false <| st_call (ags := [_]) rfl rfl T.ent119 rfl (c_lower c _) ?_
  rintro _ w4 ⟨rfl, c5⟩
  replace HC := HC.then c5
  refine pF rfl rfl <| aB rfl <| en <| x_ret <| ret_tmp (v := .bool _) rfl rfl ?_
  have hc := c.toNat_lt
  refine ⟨congrArg Value.bool ?_, HC⟩
  rw [Bool.eq_iff_iff]
  (try simp only [upB, loB, digB, alphaB, begB, wordB, wrap_u8, Bool.or_eq_true, Bool.and_eq_true, Bool.or_eq_false_iff, Bool.and_eq_false_imp, decide_eq_true_eq, decide_eq_false_iff_not] at *)
  (try simp only [true_iff, false_iff, iff_true, iff_false, Bool.false_eq_true])
  omega

theorem c_begins (c : UInt8) (w : World) : CallR Tryz.prog 104 #[.int .u8 (c.toNat : Int)] w fun v w' => v = .bool (begB c) ∧ Chg [] w w' := by
 refine callR_of_wp (args := [_]) Tryz.func104 rfl (Nat.le_of_ble_eq_true rfl) ?_
 have HC : Chg [] w w := .refl _
 refine sr rfl <| aB rfl <| en <| sr rfl <| mI rfl <| Wp rfl <| st_call (ags := [_]) rfl rfl T.ent116 rfl (c_alpha c _) ?_
 rintro _ w1 ⟨rfl, c2⟩
 replace HC := HC.then c2
 refine mB rfl <| w_split (d := 5) rfl (fun g3 => ?_) (fun g3 => ?_)
 ·try simp only [nm, ne_eq] at g3
  refine w_no 2 5 false <| w_no 2 5 false <| pT rfl rfl <| aB rfl <| en <| x_ret <| ret_tmp (v := .bool _) rfl rfl ?_
  have hc := c.toNat_lt
  refine ⟨congrArg Value.bool ?_, HC⟩
  rw [Bool.eq_iff_iff]
  (try simp only [upB, loB, digB, alphaB, begB, wordB, wrap_u8, Bool.or_eq_true, Bool.and_eq_true, Bool.or_eq_false_iff, Bool.and_eq_false_imp, decide_eq_true_eq, decide_eq_false_iff_not] at *)
  (try simp only [true_iff, false_iff, iff_true, iff_false, Bool.false_eq_true])
  omega
 ·try simp only [nm, ne_eq] at g3
  refine w_yes 2 5 false <| st_move (v := .int _ _) rfl <| w_yes 2 5 false <| st_eql rfl rfl <| pF rfl rfl <| aB rfl <| en <| x_ret <| ret_tmp (v := .bool _) rfl rfl ?_
  have hc := c.toNat_lt
  refine ⟨congrArg Value.bool ?_, HC⟩
  rw [Bool.eq_iff_iff]
  (try simp only [upB, loB, digB, alphaB, begB, wordB, wrap_u8, Bool.or_eq_true, Bool.and_eq_true, Bool.or_eq_false_iff, Bool.and_eq_false_imp, decide_eq_true_eq, decide_eq_false_iff_not] at *)
  (try simp only [true_iff, false_iff, iff_true, iff_false, Bool.false_eq_true])
  omega

theorem c_digit (c : UInt8) (w : World) : CallR Tryz.prog 52 #[.int .u8 (c.toNat : Int)] w fun v w' => v = .bool (digB c) ∧ Chg [] w w' := by
 refine callR_of_wp (args := [_]) Tryz.func52 rfl (Nat.le_of_ble_eq_true rfl) ?_
 have HC : Chg [] w w := .refl _
 refine sr rfl <| aB rfl <| en <| sr rfl <| mI rfl <| Wp rfl <| st_sub rfl rfl <| Wp rfl <| st_lss rfl rfl <| aB rfl <| en <| x_ret <| ret_tmp (v := .bool _) rfl rfl ?_
 have hc := c.toNat_lt
 refine ⟨congrArg Value.bool ?_, HC⟩
 rw [Bool.eq_iff_iff]
 (try simp only [upB, loB, digB, alphaB, begB, wordB, wrap_u8, Bool.or_eq_true, Bool.and_eq_true, Bool.or_eq_false_iff, Bool.and_eq_false_imp, decide_eq_true_eq, decide_eq_false_iff_not] at *)
 (try simp only [true_iff, false_iff, iff_true, iff_false, Bool.false_eq_true])
 omega

theorem run_text (s : Bytes) (i : Nat) (m : UInt8) (esc : Bool) (w : World) (hs : s.length < 4294967281) (hi : i ≤ s.length) : CallP Tryz.prog 84 #[S s, .int .i64 (i : Int), .int .u8 (m.toNat : Int), .bool esc] w (fun v w' => ∃ k, runA m esc s i = some k ∧ v = .int .i64 (k : Int) ∧ Chg [] w w') (fun v w' => runA m esc s i = none ∧ v = .iface 114 (.int .i64 101) ∧ Chg [] w w') := by
 refine callP_of_wp (args := [_, _, _, _]) Tryz.func84 rfl (Nat.le_of_ble_eq_true rfl) ?_
 have HC : Chg [] w w := .refl _
 refine sr rfl <| aI rfl <| en <| x_seq <| x_block <| x_loop (ι := Nat) [1, 8, 9, 10, 11, 12, 13, 14, 15, 16, 17, 18, 19, 20, 21, 22, 23, 24, 25, 26, 27, 28, 29, 30, 31, 32] (fun j => [(1, .int .i64 (j : Int))]) (fun j W => (j ≤ s.length + 1 ∧ runA m esc s i = runA m esc s j) ∧ (Chg [] w W)) (fun j => s.length + 2 - j) i ?_ ?_ ?_
 · exact ⟨rfl, trivial⟩
 ·refine ⟨?_, HC⟩
  exact ⟨by omega, rfl⟩
 intro j G2 w1 ⟨⟨hj, hr⟩, HC⟩
 change wp _ _ _ _ _ (upds (over _ _ G2) [(1, .int .i64 (j : Int))]) _ _
 refine x_seq <| sr rfl <| mI rfl <| mS rfl <| Wp rfl <| st_slen (ct := #[116]) T.u116 rfl <| Wp rfl <| st_lss rfl rfl <| en <| x_cond rfl (fun h0 => ?_) (fun h0 => ?_)
 ·try simp only [nm, ne_eq] at h0
  refine x_skip <| then_n <| x_seq <| x_block <| x_block <| sr rfl <| mS rfl <| mI rfl <| Wp rfl <| st_sidx T.u116 rfl rfl (by omega) (by omega) <| mI rfl <| Wp rfl <| st_eql rfl rfl <| aB rfl <| en <| x_cond rfl (fun h1 => ?_) (fun h1 => ?_)
  ·try simp only [nm, ne_eq] at h1
   have hbm : byte s j = m := UInt8.toNat_inj.1 (by omega)
   refine sr rfl <| mI rfl <| Wp rfl <| st_addn rfl rfl (by constructor <;> omega) <| aI rfl <| en <| x_ret <| block_r <| block_r <| then_r <| then_r <| block_r <| then_r <| pp_ret <| ret_tmp (v := .int _ _) rfl rfl ?_
   exact ⟨j + 1, by rw [hr]; exact runA_at (by omega) hbm, rfl, HC⟩
  ·try simp only [nm, ne_eq] at h1
   have hbn : byte s j ≠ m := fun e => h1 (by rw [e])
   refine sr rfl <| mB rfl <| mB rfl <| w_split (d := 25) rfl (fun g3 => ?_) (fun g3 => ?_)
   ·try simp only [nm, ne_eq] at g3
    refine w_yes 1 25 true <| st_move (v := S _) rfl <| w_yes 1 25 true <| st_move (v := .int _ _) rfl <| w_yes 1 25 true <| st_sidx T.u116 rfl rfl (by omega) (by omega) <| w_yes 1 25 true <| st_eql rfl rfl <| pT rfl rfl <| aB rfl <| en <| x_cond rfl (fun h2 => ?_) (fun h2 => ?_)
    ·try simp only [nm, ne_eq] at h2
     have hb92 : byte s j = 92 := UInt8.toNat_inj.1 (by show _ = 92; omega)
     refine x_region rfl <| mI rfl <| Wp rfl <| st_addn rfl rfl (by constructor <;> omega) <| aI rfl <| wops_nil <| block_n <| block_n <| then_n <| x_region rfl <| mI rfl <| Wp rfl <| st_addn rfl rfl (by constructor <;> omega) <| aI rfl <| en <| ⟨j + 2, ?_, ?_, rfl, ⟨rfl, trivial⟩, ?_⟩
     ·refine ⟨?_, HC⟩
      exact ⟨by omega, by rw [hr]; exact (by rw [show esc = true by assumption]; exact runA_esc (by omega) hbn hb92)⟩
     ·show s.length + 2 - (j + 2) < s.length + 2 - j; omega
     exact q9
    ·try simp only [nm, ne_eq] at h2
     have hb93 : esc = true → byte s j ≠ 92 := fun he e => by first | (rw [e] at h2; exact h2 rfl) | simp_all
     refine x_skip <| block_n <| block_n <| then_n <| x_region rfl <| mI rfl <| Wp rfl <| st_addn rfl rfl (by constructor <;> omega) <| aI rfl <| en <| ⟨j + 1, ?_, ?_, rfl, ⟨rfl, trivial⟩, ?_⟩
     ·refine ⟨?_, HC⟩
      exact ⟨by omega, by rw [hr]; exact runA_on (by omega) hbn hb93⟩
     ·show s.length + 2 - (j + 1) < s.length + 2 - j; omega
     exact q9
   ·try simp only [nm, ne_eq] at g3
    iterate 4 refine w_no 1 25 true ?_
    refine pF rfl rfl <| aB rfl <| en <| x_cond (t := false) rfl (fun h2 => ?_) (fun h2 => ?_)
    · exact absurd h2 (by decide)
    have hb93 : esc = true → byte s j ≠ 92 := fun he e => by first | (rw [e] at h2; exact h2 rfl) | simp_all
    refine x_skip <| block_n <| block_n <| then_n <| x_region rfl <| mI rfl <| Wp rfl <| st_addn rfl rfl (by constructor <;> omega) <| aI rfl <| en <| ⟨j + 1, ?_, ?_, rfl, ⟨rfl, trivial⟩, ?_⟩
    ·refine ⟨?_, HC⟩
     exact ⟨by omega, by rw [hr]; exact runA_on (by omega) hbn hb93⟩
    ·show s.length + 2 - (j + 1) < s.length + 2 - j; omega
    exact q9
 ·try simp only [nm, ne_eq] at h0
  refine x_exit <| then_x <| then_x <| block_x <| then_n <| x_region rfl <| Wp rfl <| st_makeIface T.u114 rfl rfl <| Wp rfl <| st_panic rfl <| pp_panic ?_
  exact ⟨by rw [hr]; exact runA_end (by omega), rfl, HC⟩

theorem is_spec (m : UInt8) (w : World) : CallR Tryz.prog 87 #[.int .u8 (m.toNat : Int)] w fun v w' => ∃ b, v = .func (.func 108) #[] #[.pointer (some ⟨b, 0, none⟩)] ∧ w.heap.size ≤ b ∧ Blk w' b [.int .u8 (m.toNat : Int)] 5 ∧ Chg [] w w' := by
 refine callR_of_wp (args := [_]) Tryz.func87 rfl (Nat.le_of_ble_eq_true rfl) ?_
 have HC : Chg [] w w := .refl _
 refine sr rfl <| Wp rfl <| st_box (v := .int _ _) (vs := [_]) rfl rfl ?_
 intro bt w1 e2 c3 hb4
 have ge_bt := gB e2 HC.size
 replace HC := HC.then c3
 clear e2
 refine av (v := .nilFunc) rfl <| en <| sr rfl <| Wp rfl <| st_makeFunc <| av (v := .func _ _ _) rfl <| en <| x_ret <| ret_tmp (v := .func _ _ _) rfl rfl ?_
 exact ⟨bt, rfl, ge_bt, hb4, HC⟩

theorem is1_spec {b : Nat} {m : UInt8} {w : World} (c : UInt8) (hb : Blk w b [.int .u8 (m.toNat : Int)] 5) : CallR Tryz.prog 108 #[.int .u8 (c.toNat : Int), .pointer (some ⟨b, 0, none⟩)] w fun v w' => v = .bool (finM m () c).1 ∧ Chg [] w w' := by
 refine callR_of_wp (args := [_, _]) Tryz.func108 rfl (Nat.le_of_ble_eq_true rfl) ?_
 have HC : Chg [] w w := .refl _
 refine sr rfl <| aB rfl <| en <| sr rfl <| mI rfl <| lI T.one5 rfl (hb.cell rfl) <| Wp rfl <| st_eql rfl rfl <| aB rfl <| en <| x_ret <| ret_tmp (v := .bool _) rfl rfl <| ⟨congrArg Value.bool ?_, HC⟩
 rw [Bool.eq_iff_iff, decide_eq_true_eq]; simp only [finM, beq_iff_eq]
 exact ⟨fun h => UInt8.toNat_inj.1 (by omega), fun h => by rw [h]⟩

theorem always_spec (c : UInt8) (w : World) : CallR Tryz.prog 88 #[.int .u8 (c.toNat : Int)] w fun v w' => v = .bool true ∧ Chg [] w w' := by
 refine callR_of_wp (args := [_]) Tryz.func88 rfl (Nat.le_of_ble_eq_true rfl) ?_
 have HC : Chg [] w w := .refl _
 refine sr rfl <| aB rfl <| en <| sr rfl <| aB rfl <| en <| x_ret <| ret_tmp (v := .bool _) rfl rfl ?_
 exact ⟨rfl, HC⟩

theorem closing_spec (w : World) : CallR Tryz.prog 89 #[] w fun v w' => ∃ b, v = .func (.func 109) #[] #[.pointer (some ⟨b, 0, none⟩)] ∧ w.heap.size ≤ b ∧ Blk w' b [.int .i64 0] 3 ∧ Chg [] w w' := by
 refine callR_of_wp (args := []) Tryz.func89 rfl (Nat.le_of_ble_eq_true rfl) ?_
 have HC : Chg [] w w := .refl _
 refine sr rfl <| av (v := .nilFunc) rfl <| en <| sr rfl <| Wp rfl <| st_alloc T.zero3 ?_
 intro bt w1 e2 c3 hb4
 have ge_bt := gB e2 HC.size
 replace HC := HC.then c3
 clear e2
 refine Wp rfl <| st_st (v := .int _ _) T.size3 rfl rfl rfl hb4 ?_
 intro w5 c6 hb7; simp only [setVs, setV] at hb7
 clear hb4
 replace HC := HC.then1 c6 ge_bt
 refine en <| sr rfl <| Wp rfl <| st_makeFunc <| av (v := .func _ _ _) rfl <| en <| x_ret <| ret_tmp (v := .func _ _ _) rfl rfl ?_
 exact ⟨bt, rfl, ge_bt, hb7, HC⟩

theorem closing1_spec {b : Nat} {o : Int} {w : World} (c : UInt8) (hb : Blk w b [.int .i64 o] 3) (ho : -4294967296 ≤ o ∧ o ≤ 4294967296) : CallR Tryz.prog 109 #[.int .u8 (c.toNat : Int), .pointer (some ⟨b, 0, none⟩)] w fun v w' => v = .bool (finC o c).1 ∧ Blk w' b [.int .i64 (finC o c).2] 3 ∧ Chg [b] w w' := by
 refine callR_of_wp (args := [_, _]) Tryz.func109 rfl (Nat.le_of_ble_eq_true rfl) ?_
 have HC : Chg [b] w w := .refl _
 refine sr rfl <| aB rfl <| en <| x_seq <| sr rfl <| mI rfl <| en <| x_block <| sr rfl <| Wp rfl <| st_eql rfl rfl <| aB rfl <| en <| x_cond rfl (fun h0 => ?_) (fun h0 => ?_)
 ·try simp only [nm, ne_eq] at h0
  have hc : opnC o c = o + 1 := by rw [opnC, if_pos (UInt8.toNat_inj.1 (by show _ = 40; omega))]
  refine x_region rfl <| lI T.one3 rfl (hb.cell rfl) <| Wp rfl <| st_addn rfl rfl (by constructor <;> omega) <| Wp rfl <| st_st (v := .int _ _) T.size3 rfl rfl rfl hb ?_
  intro w1 c2 hb3; simp only [setVs, setV] at hb3
  clear hb
  replace HC := HC.trans c2 q4
  refine wops_nil <| block_n <| then_n <| sr rfl <| lI T.one3 rfl (hb3.cell rfl) <| Wp rfl <| st_lss rfl rfl <| aB rfl <| en <| x_ret <| ret_tmp (v := .bool _) rfl rfl <| ⟨by rw [finC, hc], by rw [finC, hc]; exact hb3, HC⟩
 ·try simp only [nm, ne_eq] at h0
  refine sr rfl <| Wp rfl <| st_eql rfl rfl <| aB rfl <| en <| x_cond rfl (fun h1 => ?_) (fun h1 => ?_)
  ·try simp only [nm, ne_eq] at h1
   have hc : opnC o c = o - 1 := by rw [opnC, if_neg (fun e => h0 (by rw [e]; rfl)), if_pos (UInt8.toNat_inj.1 (by show _ = 41; omega))]
   refine x_region rfl <| lI T.one3 rfl (hb.cell rfl) <| Wp rfl <| st_subn rfl rfl (by constructor <;> omega) <| Wp rfl <| st_st (v := .int _ _) T.size3 rfl rfl rfl hb ?_
   intro w4 c5 hb6; simp only [setVs, setV] at hb6
   clear hb
   replace HC := HC.trans c5 q4
   refine wops_nil <| block_n <| then_n <| sr rfl <| lI T.one3 rfl (hb6.cell rfl) <| Wp rfl <| st_lss rfl rfl <| aB rfl <| en <| x_ret <| ret_tmp (v := .bool _) rfl rfl <| ⟨by rw [finC, hc], by rw [finC, hc]; exact hb6, HC⟩
  ·try simp only [nm, ne_eq] at h1
   have hc : opnC o c = o := by rw [opnC, if_neg (fun e => h0 (by rw [e]; rfl)), if_neg (fun e => h1 (by rw [e]; rfl))]
   refine x_skip <| block_n <| then_n <| sr rfl <| lI T.one3 rfl (hb.cell rfl) <| Wp rfl <| st_lss rfl rfl <| aB rfl <| en <| x_ret <| ret_tmp (v := .bool _) rfl rfl <| ⟨by rw [finC, hc], by rw [finC, hc]; exact hb, HC⟩

theorem skip1_spec (c : UInt8) (w : World) : CallR Tryz.prog 86 #[.int .u8 (c.toNat : Int)] w fun v w' => v = .bool (begQ c) ∧ Chg [] w w' := by
 refine callR_of_wp (args := [_]) Tryz.func86 rfl (Nat.le_of_ble_eq_true rfl) ?_
 have HC : Chg [] w w := .refl _
 refine sr rfl <| aB rfl <| en <| sr rfl <| mI rfl <| Wp rfl <| st_eql rfl rfl <| mB rfl <| w_split (d := 5) rfl (fun g1 => ?_) (fun g1 => ?_)
 ·try simp only [nm, ne_eq] at g1
  refine w_no 2 5 false <| w_no 2 5 false <| pT rfl rfl <| mB rfl <| w_no 6 9 false <| w_no 6 9 false <| pT rfl rfl <| aB rfl <| en <| x_ret <| ret_tmp (v := .bool _) rfl rfl <| ⟨congrArg Value.bool ?_, HC⟩
  rw [Bool.eq_iff_iff]; simp only [begQ, Bool.or_eq_true, beq_iff_eq, ← UInt8.toNat_inj]
  (try simp only [decide_eq_true_eq, true_iff, Bool.false_eq_true, false_iff] at *)
  simp; omega
 ·try simp only [nm, ne_eq] at g1
  refine w_yes 2 5 false <| st_move (v := .int _ _) rfl <| w_yes 2 5 false <| st_eql rfl rfl <| pF rfl rfl <| mB rfl <| w_split (d := 9) rfl (fun g2 => ?_) (fun g2 => ?_)
  ·try simp only [nm, ne_eq] at g2
   refine w_no 6 9 false <| w_no 6 9 false <| pT rfl rfl <| aB rfl <| en <| x_ret <| ret_tmp (v := .bool _) rfl rfl <| ⟨congrArg Value.bool ?_, HC⟩
   rw [Bool.eq_iff_iff]; simp only [begQ, Bool.or_eq_true, beq_iff_eq, ← UInt8.toNat_inj]
   (try simp only [decide_eq_true_eq, true_iff, Bool.false_eq_true, false_iff] at *)
   simp; omega
  ·try simp only [nm, ne_eq] at g2
   refine w_yes 6 9 false <| st_move (v := .int _ _) rfl <| w_yes 6 9 false <| st_eql rfl rfl <| pF rfl rfl <| aB rfl <| en <| x_ret <| ret_tmp (v := .bool _) rfl rfl <| ⟨congrArg Value.bool ?_, HC⟩
   rw [Bool.eq_iff_iff]; simp only [begQ, Bool.or_eq_true, beq_iff_eq, ← UInt8.toNat_inj]
   (try simp only [decide_eq_true_eq, true_iff, Bool.false_eq_true, false_iff] at *)
   simp; omega

end Go.Proofs.YtghjmiggobpmoaaGreatDoor.K
set_option linter.unusedVariables false
set_option linter.unusedSimpArgs false
set_option autoImplicit false
namespace Go.Proofs.YtghjmiggobpmoaaGreatDoor.K
open Go Go.RowKit
variable {T e : TypeId} {w w' : World} {b : Nat} {A : Option Addr} {cap : Nat} {s : Bytes}
variable {P : Program} {r : Option Nat} {n : Nat} {O : Array Oper} {Q : Post} {E : Env} {ds : List Deferred} {l : List Oper}
section
variable {dst : Option Nat} {ty : TypeId} {pos : String} {af : Array Edge} {g : Option (Nat × Bool)}
theorem r_min {x y : Operand} {k k' : IntKind} {a c : Int} {ct : Array TypeId} (hx : ev E x = .int k a) (hy : ev E y = .int k' c) : (execOp (ev E) ⟨dst, .call ⟨.builtin .min, #[x, y], ct⟩, ty, pos, af, g⟩).run P w = .ok (.value (.int k (min a c))) w := by
  simp only [execOp, resolve, invoke, builtin, List.map_toArray, List.map_cons, List.map_nil, hx, hy, Sem.run_bind, Sem.run_pure, Lib.run_min_ints, Result.andThen]
theorem st_min {x y : Operand} {k k' : IntKind} {a c : Int} {ct : Array TypeId} (hx : ev E x = .int k a) (hy : ev E y = .int k' c) (h : wops P r n O Q l (updo E dst (.int k (min a c))) ds w) : wop P r n O Q ⟨dst, .call ⟨.builtin .min, #[x, y], ct⟩, ty, pos, af, g⟩ l E ds w := wop_run (fun _ => by simp) (r_min hx hy) h
end
end Go.Proofs.YtghjmiggobpmoaaGreatDoor.K
set_option linter.unusedVariables false
set_option linter.unusedSimpArgs false
set_option autoImplicit false
set_option maxRecDepth 20000
namespace Go.Proofs.YtghjmiggobpmoaaGreatDoor.K
open Go Go.Proofs Go.RowKit

theorem fin_bound {j : Nat} {o : Int} {c : UInt8} (h : -(j : Int) ≤ o ∧ o ≤ j) : -((j + 1 : Nat) : Int) ≤ (finC o c).2 ∧ (finC o c).2 ≤ ((j + 1 : Nat) : Int) := by
  simp only [finC, opnC]; split
  · omega
  · split <;> omega

theorem until_spec {σ : Type} {beg : UInt8 → Bool} {fin : σ → UInt8 → Bool × σ} {fk : Nat} {d : Int} {kb ke : FuncId} {capb cape : Array Value} (bs : List Nat) (J : Nat → σ → World → Prop) (hJ0 : ∀ j st W W', J j st W → Chg [] W W' → J j st W') (hJm : ∀ {j k : Nat} {st : σ} {W : World}, j ≤ k → J j st W → J k st W)
    (henb : ∀ args (w : World), (callFunc kb args).run Tryz.prog w = .ok (.enter kb args) w) (hene : ∀ args (w : World), (callFunc ke args).run Tryz.prog w = .ok (.enter ke args) w)
    (hbeg : ∀ c W, CallR Tryz.prog kb ⟨.int .u8 (c.toNat : Int) :: capb.toList⟩ W fun v W' => v = .bool (beg c) ∧ Chg [] W W')
    (s : Bytes) (hend : ∀ (j : Nat) st c W, j < s.length → J j st W → CallR Tryz.prog ke ⟨.int .u8 (c.toNat : Int) :: cape.toList⟩ W fun v W' => v = .bool (fin st c).1 ∧ J (j + 1) (fin st c).2 W' ∧ Chg bs W W')
    (hs : s.length < 4294967281) (hd : 0 ≤ d ∧ d ≤ 100)
    (hsk : ∀ (j : Nat) (W : World), j < s.length → CallP Tryz.prog 68 #[S s, .int .i64 (j : Int), .int .i64 (d + 1)] W (fun v W' => ∃ k, skipA fk s j = .ok k ∧ v = .int .i64 (k : Int) ∧ Chg [] W W') (fun v W' => ∃ e : Nat, skipA fk s j = .error e ∧ v = .iface 114 (.int .i64 (e : Int)) ∧ Chg [] W W'))
    (i n : Nat) (st : σ) (w : World) (hi : i ≤ s.length) (hn : s.length - i ≤ n) (hJ : J i st w) :
    CallP Tryz.prog 85 #[S s, .int .i64 (i : Int), .int .i64 d, .func (.func kb) #[] capb, .func (.func ke) #[] cape] w (fun v w' => ∃ k, untilA fk beg fin n st s i = .ok k ∧ v = .int .i64 (k : Int) ∧ Chg bs w w') (fun v w' => ∃ e : Nat, untilA fk beg fin n st s i = .error e ∧ v = .iface 114 (.int .i64 (e : Int)) ∧ Chg bs w w') := by
 refine callP_of_wp (args := [_, _, _, _, _]) Tryz.func85 rfl (Nat.le_of_ble_eq_true rfl) ?_
 have HC : Chg bs w w := .refl _
 refine sr rfl <| aI rfl <| en <| x_seq <| x_block <| x_loop (ι := Nat × Nat × σ) [1, 10, 11, 12, 13, 14, 15, 16, 17, 18, 19, 20, 21, 22, 23, 24, 25, 26, 27, 28, 29, 30, 31, 32, 33] (fun ⟨j, m, u⟩ => [(1, .int .i64 (j : Int))]) (fun ⟨j, m, u⟩ W => (j ≤ s.length ∧ s.length - j ≤ m ∧ untilA fk beg fin n st s i = untilA fk beg fin m u s j) ∧ (Chg bs w W) ∧ (J j u W)) (fun ⟨j, m, u⟩ => s.length - j) (i, n, st) ?_ ?_ ?_
 · exact ⟨rfl, trivial⟩
 ·refine ⟨?_, HC, (hJm (by omega) hJ)⟩
  exact ⟨hi, hn, rfl⟩
 intro ⟨j, m, u⟩ G2 w1 ⟨⟨hj, hm, hr⟩, HC, hJ⟩
 change wp _ _ _ _ _ (upds (over _ _ G2) [(1, .int .i64 (j : Int))]) _ _
 refine x_seq <| sr rfl <| mI rfl <| mS rfl <| Wp rfl <| st_slen (ct := #[116]) T.u116 rfl <| Wp rfl <| st_lss rfl rfl <| en <| x_cond rfl (fun h0 => ?_) (fun h0 => ?_)
 ·try simp only [nm, ne_eq] at h0
  obtain ⟨m, rfl⟩ : ∃ m', m = m' + 1 := ⟨m - 1, by omega⟩
  refine x_skip <| then_n <| x_block <| x_seq <| sr rfl <| mv (v := .func _ _ _) rfl <| mS rfl <| mI rfl <| Wp rfl <| st_sidx T.u116 rfl rfl (by omega) (by omega) <| Wp rfl <| st_call (f := ke) (cap := cape) (ags := .int .u8 _ :: cape.toList) rfl rfl hene rfl (hend j u (byte s j) _ (by omega) hJ) ?_
  rintro _ w3 ⟨rfl, hj5, c4⟩
  replace HC := HC.trans c4 (fun x hx => .inl hx)
  refine en <| x_cond rfl (fun h1 => ?_) (fun h1 => ?_)
  ·try simp only [nm, ne_eq] at h1
   refine sr rfl <| mI rfl <| Wp rfl <| st_addn rfl rfl (by constructor <;> omega) <| aI rfl <| en <| x_ret <| then_r <| block_r <| then_r <| block_r <| then_r <| pp_ret <| ret_tmp (v := .int _ _) rfl rfl ?_
   exact ⟨j + 1, by rw [hr]; exact untilA_fin (by omega) (by first | simpa using h1 | assumption), rfl, HC⟩
  ·try simp only [nm, ne_eq] at h1
   refine x_skip <| then_n <| sr rfl <| mv (v := .func _ _ _) rfl <| mS rfl <| mI rfl <| Wp rfl <| st_sidx T.u116 rfl rfl (by omega) (by omega) <| Wp rfl <| st_call (f := kb) (cap := capb) (ags := .int .u8 _ :: capb.toList) rfl rfl henb rfl (hbeg (byte s j) _) ?_
   rintro _ w6 ⟨rfl, c7⟩
   replace HC := HC.then c7
   replace hj5 := hJ0 _ _ _ _ hj5 c7
   refine en <| x_cond rfl (fun h2 => ?_) (fun h2 => ?_)
   ·try simp only [nm, ne_eq] at h2
    refine x_region rfl <| mS rfl <| mI rfl <| mI rfl <| Wp rfl <| st_addn rfl rfl (by constructor <;> omega) <| w_plain rfl (st_callP (ags := [_, _, _]) rfl rfl T.ent68 rfl (hsk j _ (by omega)) ?_ ?_)
    ·rintro _ w8 ⟨e, he, rfl, c9⟩
     replace HC := HC.then c9
     replace hj5 := hJ0 _ _ _ _ hj5 c9
     refine block_p <| then_p <| block_p <| then_p <| pp_panic ?_
     first | exact ⟨_, by rw [hr]; exact untilA_err (by omega) (by first | simpa using h1 | assumption) (by first | simpa using h2 | assumption) he, rfl, HC⟩ | exact ⟨101, by rw [hr]; exact untilA_end (by omega), rfl, HC⟩
    rintro _ w10 ⟨k, hk, rfl, c11⟩
    have hkb := skipA_le (by omega) hk
    replace HC := HC.then c11
    replace hj5 := hJ0 _ _ _ _ hj5 c11
    refine aI rfl <| wops_nil <| block_n <| then_n <| ⟨(k, m, (fin u (byte s j)).2), ?_, ?_, rfl, ⟨rfl, trivial⟩, ?_⟩
    ·refine ⟨?_, HC, (hJm (by omega) hj5)⟩
     exact ⟨hkb.2, by omega, by rw [hr]; exact untilA_sk (by omega) (by first | simpa using h1 | assumption) (by first | simpa using h2 | assumption) hk⟩
    ·show s.length - k < s.length - j; omega
    exact q9
   ·try simp only [nm, ne_eq] at h2
    refine x_region rfl <| mI rfl <| Wp rfl <| st_addn rfl rfl (by constructor <;> omega) <| aI rfl <| wops_nil <| block_n <| then_n <| ⟨((j + 1), m, (fin u (byte s j)).2), ?_, ?_, rfl, ⟨rfl, trivial⟩, ?_⟩
    ·refine ⟨?_, HC, (hJm (by omega) hj5)⟩
     exact ⟨by omega, by omega, by rw [hr]; exact untilA_on (by omega) (by first | simpa using h1 | assumption) (by first | simpa using h2 | assumption)⟩
    ·show s.length - (j + 1) < s.length - j; omega
    exact q9
 ·try simp only [nm, ne_eq] at h0
  refine x_exit <| then_x <| then_x <| block_x <| then_n <| x_region rfl <| Wp rfl <| st_makeIface T.u114 rfl rfl <| Wp rfl <| st_panic rfl <| pp_panic ?_
  first | exact ⟨_, by rw [hr]; exact untilA_err (by omega) (by first | simpa using h1 | assumption) (by first | simpa using h2 | assumption) he, rfl, HC⟩ | exact ⟨101, by rw [hr]; exact untilA_end (by omega), rfl, HC⟩

theorem skip_zero (s : Bytes) (j : Nat) (d : Int) (w : World) (hs : s.length < 4294967281) (hj : j < s.length) (hd : d = 65) : CallP Tryz.prog 68 #[S s, .int .i64 (j : Int), .int .i64 d] w (fun v w' => ∃ k, skipA 0 s j = .ok k ∧ v = .int .i64 (k : Int) ∧ Chg [] w w') (fun v w' => ∃ e : Nat, skipA 0 s j = .error e ∧ v = .iface 114 (.int .i64 (e : Int)) ∧ Chg [] w w') := by
 refine callP_of_wp (args := [_, _, _]) Tryz.func68 rfl (Nat.le_of_ble_eq_true rfl) ?_
 have HC : Chg [] w w := .refl _
 refine sr rfl <| aI rfl <| en <| x_seq <| sr rfl <| mI rfl <| Wp rfl <| st_gtr rfl rfl <| en <| x_cond rfl (fun h0 => ?_) (fun h0 => ?_)
 ·try simp only [nm, ne_eq] at h0
  refine x_region rfl <| Wp rfl <| st_makeIface T.u114 rfl rfl <| Wp rfl <| st_panic rfl <| then_p <| pp_panic ?_
  exact ⟨104, skipA_zero, rfl, HC⟩
 ·try simp only [nm, ne_eq] at h0
  omega

theorem skip_succ {fk : Nat} (s : Bytes) (j : Nat) (d : Int) (w : World) (hs : s.length < 4294967281) (hj : j < s.length) (hd : 1 ≤ d ∧ d ≤ 64)
    (hsk : ∀ (j : Nat) (W : World), j < s.length → CallP Tryz.prog 68 #[S s, .int .i64 (j : Int), .int .i64 (d + 1)] W (fun v W' => ∃ k, skipA fk s j = .ok k ∧ v = .int .i64 (k : Int) ∧ Chg [] W W') (fun v W' => ∃ e : Nat, skipA fk s j = .error e ∧ v = .iface 114 (.int .i64 (e : Int)) ∧ Chg [] W W')) :
    CallP Tryz.prog 68 #[S s, .int .i64 (j : Int), .int .i64 d] w (fun v w' => ∃ k, skipA (fk + 1) s j = .ok k ∧ v = .int .i64 (k : Int) ∧ Chg [] w w') (fun v w' => ∃ e : Nat, skipA (fk + 1) s j = .error e ∧ v = .iface 114 (.int .i64 (e : Int)) ∧ Chg [] w w') := by
 refine callP_of_wp (args := [_, _, _]) Tryz.func68 rfl (Nat.le_of_ble_eq_true rfl) ?_
 have HC : Chg [] w w := .refl _
 refine sr rfl <| aI rfl <| en <| x_seq <| sr rfl <| mI rfl <| Wp rfl <| st_gtr rfl rfl <| en <| x_cond rfl (fun h0 => ?_) (fun h0 => ?_)
 ·try simp only [nm, ne_eq] at h0
  exfalso; omega
 ·try simp only [nm, ne_eq] at h0
  refine x_skip <| then_n <| sr rfl <| mS rfl <| mI rfl <| Wp rfl <| st_sslo (i := j) T.u116 rfl ⟨_, rfl⟩ (by omega) <| aS rfl <| en <| x_seq <| x_block <| sr rfl <| mS rfl <| Wp rfl <| st_sidx T.u9 rfl rfl (by decide) (by simp only [List.length_drop]; omega) <| Wp rfl <| st_eql rfl rfl <| aB rfl <| en <| x_cond rfl (fun h1 => ?_) (fun h1 => ?_)
  ·try simp only [nm, ne_eq] at h1
   have hb0 : byte s j = 92 := by rw [← byte_drop0]; exact UInt8.toNat_inj.1 (by show _ = 92; omega)
   refine sr rfl <| mI rfl <| Wp rfl <| st_addn rfl rfl (by constructor <;> omega) <| mS rfl <| Wp rfl <| st_slen (ct := #[116]) T.u116 rfl <| Wp rfl <| st_min rfl rfl <| aI rfl <| en <| x_ret <| block_r <| then_r <| pp_ret <| ret_tmp (v := .int _ _) rfl rfl ?_
   exact ⟨min (j + 2) s.length, skipA_back hj hb0, congrArg (Value.int .i64) (by omega), HC⟩
  ·try simp only [nm, ne_eq] at h1
   have hn1 : byte s j ≠ 92 := fun e => h1 (by rw [byte_drop0, e]; rfl)
   refine sr rfl <| mS rfl <| Wp rfl <| st_sidx T.u9 rfl rfl (by decide) (by simp only [List.length_drop]; omega) <| Wp rfl <| st_eql rfl rfl <| aB rfl <| en <| x_cond rfl (fun h2 => ?_) (fun h2 => ?_)
   ·try simp only [nm, ne_eq] at h2
    have hb0 : byte s j = 39 := by rw [← byte_drop0]; exact UInt8.toNat_inj.1 (by show _ = 39; omega)
    refine sr rfl <| mS rfl <| mI rfl <| Wp rfl <| st_addn rfl rfl (by constructor <;> omega) <| w_plain rfl (st_callP (ags := [_, _, _, _]) rfl rfl T.ent84 rfl (run_text s (j + 1) 39 false _ hs (by omega)) ?_ ?_)
    ·rintro _ w1 ⟨he, rfl, c2⟩
     replace HC := HC.then c2
     refine then_p <| block_p <| then_p <| pp_panic ?_
     exact ⟨101, by rw [skipA_quote hj hb0, he]; rfl, rfl, HC⟩
    rintro _ w3 ⟨k, hk, rfl, c4⟩
    replace HC := HC.then c4
    refine aI rfl <| en <| x_ret <| block_r <| then_r <| pp_ret <| ret_tmp (v := .int _ _) rfl rfl ?_
    exact ⟨k, by rw [skipA_quote hj hb0, hk]; rfl, rfl, HC⟩
   ·try simp only [nm, ne_eq] at h2
    have hn2 : byte s j ≠ 39 := fun e => h2 (by rw [byte_drop0, e]; rfl)
    refine sr rfl <| mS rfl <| Wp rfl <| st_sidx T.u9 rfl rfl (by decide) (by simp only [List.length_drop]; omega) <| Wp rfl <| st_eql rfl rfl <| aB rfl <| en <| x_cond rfl (fun h3 => ?_) (fun h3 => ?_)
    ·try simp only [nm, ne_eq] at h3
     have hb0 : byte s j = 96 := by rw [← byte_drop0]; exact UInt8.toNat_inj.1 (by show _ = 96; omega)
     refine sr rfl <| mS rfl <| mI rfl <| Wp rfl <| st_addn rfl rfl (by constructor <;> omega) <| w_plain rfl (st_callP (ags := [_, _, _, _]) rfl rfl T.ent84 rfl (run_text s (j + 1) 96 true _ hs (by omega)) ?_ ?_)
     ·rintro _ w5 ⟨he, rfl, c6⟩
      replace HC := HC.then c6
      refine then_p <| block_p <| then_p <| pp_panic ?_
      exact ⟨101, by rw [skipA_tick hj hb0, he]; rfl, rfl, HC⟩
     rintro _ w7 ⟨k, hk, rfl, c8⟩
     replace HC := HC.then c8
     refine aI rfl <| en <| x_ret <| block_r <| then_r <| pp_ret <| ret_tmp (v := .int _ _) rfl rfl ?_
     exact ⟨k, by rw [skipA_tick hj hb0, hk]; rfl, rfl, HC⟩
    ·try simp only [nm, ne_eq] at h3
     have hn3 : byte s j ≠ 96 := fun e => h3 (by rw [byte_drop0, e]; rfl)
     refine sr rfl <| mS rfl <| Wp rfl <| st_sidx T.u9 rfl rfl (by decide) (by simp only [List.length_drop]; omega) <| Wp rfl <| st_eql rfl rfl <| aB rfl <| en <| x_cond rfl (fun h4 => ?_) (fun h4 => ?_)
     ·try simp only [nm, ne_eq] at h4
      have hb0 : byte s j = 34 := by rw [← byte_drop0]; exact UInt8.toNat_inj.1 (by show _ = 34; omega)
      refine sr rfl <| mS rfl <| mI rfl <| Wp rfl <| st_addn rfl rfl (by constructor <;> omega) <| mI rfl <| Wp rfl <| st_call (ags := [_]) rfl rfl T.ent87 rfl (is_spec 34 _) ?_
      rintro _ w9 ⟨bm, rfl, hge, hbm, c10⟩
      replace HC := HC.then c10
      refine w_plain rfl (st_callP (ags := [_, _, _, _, _]) rfl rfl T.ent85 rfl (until_spec (σ := Unit) (beg := begQ) (fin := finM 34) [] (fun _ _ W => Blk W bm [.int .u8 (34 : Int)] 5) (fun _ _ _ _ h c => h.tr0 c) (fun _ h => h) T.ent86 T.ent108 skip1_spec s (fun _ _ c W _ h => (is1_spec (m := 34) c h).mono fun v W' ⟨h1, h2⟩ => ⟨h1, h.tr0 h2, h2⟩) hs (by omega) hsk (j + 1) (s.length - (j + 1)) () _ (by omega) (Nat.le_refl _) hbm) ?_ ?_)
      ·rintro _ w11 ⟨e, he, rfl, c12⟩
       replace HC := HC.then c12
       refine then_p <| block_p <| then_p <| pp_panic ?_
       exact ⟨e, by rw [skipA_double hj hb0]; exact he, rfl, HC⟩
      rintro _ w13 ⟨k, hk, rfl, c14⟩
      replace HC := HC.then c14
      refine aI rfl <| en <| x_ret <| block_r <| then_r <| pp_ret <| ret_tmp (v := .int _ _) rfl rfl ?_
      exact ⟨k, by rw [skipA_double hj hb0]; exact hk, rfl, HC⟩
     ·try simp only [nm, ne_eq] at h4
      have hn4 : byte s j ≠ 34 := fun e => h4 (by rw [byte_drop0, e]; rfl)
      refine sr rfl <| mS rfl <| Wp rfl <| st_call (ags := [_, _]) rfl rfl T.ent27 rfl (HasPrefix_spec _ _ _) ?_
      rintro _ w15 ⟨rfl, c16⟩
      replace HC := HC.then c16
      refine aB rfl <| en <| x_cond rfl (fun h5 => ?_) (fun h5 => ?_)
      ·try simp only [nm, ne_eq] at h5
       have hp2 := two_of h5
       refine sr rfl <| mS rfl <| mI rfl <| Wp rfl <| st_addn rfl rfl (by constructor <;> omega) <| mI rfl <| Wp rfl <| st_call (ags := []) rfl rfl T.ent89 rfl (closing_spec _) ?_
       rintro _ w17 ⟨bm, rfl, hge, hbm, c18⟩
       have hgeb : w.heap.size ≤ bm := Nat.le_trans HC.size hge
       replace HC := HC.then c18
       refine w_plain rfl (st_callP (ags := [_, _, _, _, _]) rfl rfl T.ent85 rfl (until_spec (σ := Int) (beg := fun _ => true) (fin := finC) [bm] (fun j o W => Blk W bm [.int .i64 o] 3 ∧ -(j : Int) ≤ o ∧ o ≤ j) (fun _ _ _ _ h c => ⟨h.1.tr0 c, h.2⟩) (fun hjk h => ⟨h.1, by omega⟩) T.ent88 T.ent109 always_spec s (fun j o c W hj h => (closing1_spec c h.1 (by omega)).mono fun v W' ⟨h1, h2, h3⟩ => ⟨h1, ⟨h2, fin_bound h.2⟩, h3⟩) hs (by omega) hsk (j + 2) (s.length - (j + 2)) 0 _ (by omega) (Nat.le_refl _) ⟨hbm, by omega⟩) ?_ ?_)
       ·rintro _ w19 ⟨e, he, rfl, c20⟩
        replace HC := HC.then1 c20 hgeb
        refine then_p <| block_p <| then_p <| pp_panic ?_
        exact ⟨e, by rw [skipA_bracket h5]; exact he, rfl, HC⟩
       rintro _ w21 ⟨k, hk, rfl, c22⟩
       replace HC := HC.then1 c22 hgeb
       refine aI rfl <| en <| x_ret <| block_r <| then_r <| pp_ret <| ret_tmp (v := .int _ _) rfl rfl ?_
       exact ⟨k, by rw [skipA_bracket h5]; exact hk, rfl, HC⟩
      ·try simp only [nm, ne_eq] at h5
       refine sr rfl <| mS rfl <| Wp rfl <| st_call (ags := [_, _]) rfl rfl T.ent27 rfl (HasPrefix_spec _ _ _) ?_
       rintro _ w23 ⟨rfl, c24⟩
       replace HC := HC.then c24
       refine aB rfl <| en <| x_cond rfl (fun h6 => ?_) (fun h6 => ?_)
       ·try simp only [nm, ne_eq] at h6
        have hp2 := two_of h6
        refine sr rfl <| mS rfl <| mI rfl <| Wp rfl <| st_addn rfl rfl (by constructor <;> omega) <| mI rfl <| Wp rfl <| st_call (ags := [_]) rfl rfl T.ent87 rfl (is_spec 125 _) ?_
        rintro _ w25 ⟨bm, rfl, hge, hbm, c26⟩
        replace HC := HC.then c26
        refine w_plain rfl (st_callP (ags := [_, _, _, _, _]) rfl rfl T.ent85 rfl (until_spec (σ := Unit) (beg := fun _ => true) (fin := finM 125) [] (fun _ _ W => Blk W bm [.int .u8 (125 : Int)] 5) (fun _ _ _ _ h c => h.tr0 c) (fun _ h => h) T.ent88 T.ent108 always_spec s (fun _ _ c W _ h => (is1_spec (m := 125) c h).mono fun v W' ⟨h1, h2⟩ => ⟨h1, h.tr0 h2, h2⟩) hs (by omega) hsk (j + 2) (s.length - (j + 2)) () _ (by omega) (Nat.le_refl _) hbm) ?_ ?_)
        ·rintro _ w27 ⟨e, he, rfl, c28⟩
         replace HC := HC.then c28
         refine then_p <| block_p <| then_p <| pp_panic ?_
         exact ⟨e, by rw [skipA_brace h6]; exact he, rfl, HC⟩
        rintro _ w29 ⟨k, hk, rfl, c30⟩
        replace HC := HC.then c30
        refine aI rfl <| en <| x_ret <| block_r <| then_r <| pp_ret <| ret_tmp (v := .int _ _) rfl rfl ?_
        exact ⟨k, by rw [skipA_brace h6]; exact hk, rfl, HC⟩
       ·try simp only [nm, ne_eq] at h6
        refine x_skip <| block_n <| then_n <| sr rfl <| mI rfl <| Wp rfl <| st_addn rfl rfl (by constructor <;> omega) <| aI rfl <| en <| x_ret <| pp_ret <| ret_tmp (v := .int _ _) rfl rfl ?_
        exact ⟨j + 1, skipA_one hj hn1 hn2 hn3 hn4 h5 h6, rfl, HC⟩

end Go.Proofs.YtghjmiggobpmoaaGreatDoor.K
set_option linter.unusedVariables false
set_option linter.unusedSimpArgs false
set_option autoImplicit false
set_option maxRecDepth 20000
namespace Go.Proofs.YtghjmiggobpmoaaGreatDoor.K
open Go Go.Proofs Go.RowKit

theorem skip_spec (s : Bytes) (hs : s.length < 4294967281) : ∀ (fk : Nat) (j : Nat) (d : Int) (w : World), j < s.length → d = 65 - fk → fk ≤ 64 → CallP Tryz.prog 68 #[S s, .int .i64 (j : Int), .int .i64 d] w (fun v w' => ∃ k, skipA fk s j = .ok k ∧ v = .int .i64 (k : Int) ∧ Chg [] w w') (fun v w' => ∃ e : Nat, skipA fk s j = .error e ∧ v = .iface 114 (.int .i64 (e : Int)) ∧ Chg [] w w')
  | 0, j, d, w, hj, hd, _ => skip_zero s j d w hs hj (by omega)
  | fk + 1, j, d, w, hj, hd, hf => skip_succ s j d w hs hj (by omega) fun j W hj => skip_spec s hs fk j (d + 1) W hj (by omega) (by omega)

theorem Skip1_ret {b3 b4 b5 : Nat} (w : World) : CallsDIn Fence.wide 0 Tryz.prog 67 #[.pointer (some ⟨b3, 0, none⟩), .pointer (some ⟨b4, 0, none⟩), .pointer (some ⟨b5, 0, none⟩)] .returning w fun e u w' => (∃ v, e = .returned v ∧ Chg [] w w') ∧ u = .returning := by
 refine callsD_recover (args := [_, _, _]) Tryz.func67 rfl ⟨rfl, rfl, rfl⟩ ⟨rfl, rfl, rfl⟩ ⟨rfl, rfl⟩ (Nat.le_of_ble_eq_true rfl) (.inl ⟨rfl, rfl, rfl⟩) ?_
 have HC : Chg [] w w := .refl _
 refine sr rfl <| mv (v := .nilIface) rfl <| Wp rfl <| st_ineq0 T.if20 rfl <| en <| x_cond (t := false) rfl (fun h0 => ?_) (fun h0 => ?_)
 · exact absurd h0 (by decide)
 refine x_skip <| ret_none_n rfl ?_
 exact HC

theorem Skip1_pan {b3 b4 b5 : Nat} {i e : Int} {x y : Value} (w : World) (hy3 : Blk w b3 [.int .i64 i] 3) (hy4 : Blk w b4 [x] 3) (hy5 : Blk w b5 [y] 31) (h34 : b3 ≠ b4) (h35 : b3 ≠ b5) (h45 : b4 ≠ b5) : CallsDIn Fence.wide 0 Tryz.prog 67 #[.pointer (some ⟨b3, 0, none⟩), .pointer (some ⟨b4, 0, none⟩), .pointer (some ⟨b5, 0, none⟩)] (.panicking (pn (.iface 114 (.int .i64 e)))) w fun en u w' => (∃ v, en = .returned v ∧ Blk w' b4 [.int .i64 i] 3 ∧ Blk w' b5 [.int .i64 e] 31 ∧ Chg [b4, b5] w w') ∧ u = .panicking [{ v := .iface 114 (.int .i64 e), recovered := true }] := by
 have hne34 := h34; have hne35 := h35
 refine callsD_recover (args := [_, _, _]) Tryz.func67 rfl ⟨rfl, rfl, rfl⟩ ⟨rfl, rfl, rfl⟩ ⟨rfl, rfl⟩ (Nat.le_of_ble_eq_true rfl) (.inr ⟨_, rfl, rfl, rfl⟩) ?_
 have HC : Chg [b4, b5] w w := .refl _
 refine sr rfl <| mv (v := .iface _ _) rfl <| Wp rfl <| st_ineq T.if20 rfl <| en <| x_cond (t := true) rfl (fun h0 => ?_) (fun h0 => ?_)
 rotate_left
 · exact absurd h0 (by decide)
 refine sr rfl <| mv (v := .iface _ _) rfl <| Wp rfl <| st_assert (v := .int _ _) T.u114 rfl rfl rfl <| mv (v := .tuple ⟨[_, _]⟩) rfl <| Wp rfl <| st_extract (vs := [_, _]) (v := .int _ _) rfl rfl <| Wp rfl <| st_extract (vs := [_, _]) (v := .bool _) rfl rfl <| aI rfl <| aB rfl <| en <| x_seq <| sr rfl <| mB rfl <| Wp rfl <| st_not rfl <| en <| x_cond rfl (fun h1 => ?_) (fun h1 => ?_)
 ·try simp only [nm, ne_eq] at h1
  exact absurd h1 (by simp)
 ·try simp only [nm, ne_eq] at h1
  refine x_skip <| then_n <| x_region rfl <| lI T.one3 rfl (hy3.cell rfl) <| mI rfl <| Wp rfl <| st_st (v := .int _ _) T.size3 rfl rfl rfl hy4 ?_
  intro w1 c2 hb3; simp only [setVs, setV] at hb3
  clear hy4
  replace HC := HC.trans c2 q4
  replace hy5 := hy5.tr1 c2 (by omega)
  refine Wp rfl <| st_st (v := .int _ _) T.size31 rfl rfl rfl hy5 ?_
  intro w4 c5 hb6; simp only [setVs, setV] at hb6
  clear hy5
  replace HC := HC.trans c5 q4
  replace hb3 := hb3.tr1 c5 (by omega)
  refine wops_nil <| ret_none_n rfl ?_
  exact ⟨hb3, hb6, HC⟩

theorem Skip_spec (s : Bytes) (i : Int) (w : World) (hs : s.length < 4294967281) : CallR Tryz.prog 51 #[S s, .int .i64 i] w fun v w' => v = .tuple ⟨[.int .i64 (skipV s i).1, .int .i64 (skipV s i).2]⟩ ∧ Chg [] w w' := by
 refine callR_of_wpD (args := [_, _]) Tryz.func51 rfl (Nat.le_of_ble_eq_true rfl) ?_
 have HC : Chg [] w w := .refl _
 refine sr rfl <| Wp rfl <| st_box (v := .int _ _) (vs := [_]) rfl rfl ?_
 intro b3 w1 e2 c3 hb4
 have ge_b3 := gB e2 HC.size
 replace HC := HC.then c3
 clear e2
 refine Wp rfl <| st_alloc T.zero3 ?_
 intro b4 w5 e6 c7 hb8
 have ge_b4 := gB e6 HC.size
 have ne_b3_b4 := nF e6 hb4.ne_size
 replace HC := HC.then c7
 replace hb4 := hb4.tr0 c7
 clear e6
 refine Wp rfl <| st_alloc T.zero31 ?_
 intro b5 w9 e10 c11 hb12
 have ge_b5 := gB e10 HC.size
 have ne_b3_b5 := nF e10 hb4.ne_size
 have ne_b4_b5 := nF e10 hb8.ne_size
 replace HC := HC.then c11
 replace hb4 := hb4.tr0 c11
 replace hb8 := hb8.tr0 c11
 clear e10
 refine en <| x_seq <| sr rfl <| lI T.one3 rfl (hb4.cell rfl) <| Wp rfl <| st_lss rfl rfl <| mB rfl <| w_split (d := 8) rfl (fun g13 => ?_) (fun g13 => ?_)
 ·try simp only [nm, ne_eq] at g13
  iterate 4 refine w_no 2 8 false ?_
  refine pT rfl rfl <| en <| x_cond (t := true) rfl (fun h0 => ?_) (fun h0 => ?_)
  rotate_left
  · exact absurd h0 (by decide)
  have hv : skipV s i = (i, 101) := skipV_out (by omega)
  refine sr rfl <| lI T.one3 rfl (hb4.cell rfl) <| Wp rfl <| st_st (v := .int _ _) T.size3 rfl rfl rfl hb8 ?_
  intro w14 c15 hb16; simp only [setVs, setV] at hb16
  clear hb8
  replace HC := HC.then1 c15 ge_b4
  replace hb12 := hb12.tr1 c15 (Ne.symm ne_b4_b5)
  refine Wp rfl <| st_st (v := .int _ _) T.size31 rfl rfl rfl hb12 ?_
  intro w17 c18 hb19; simp only [setVs, setV] at hb19
  clear hb12
  replace HC := HC.then1 c18 ge_b5
  replace hb16 := hb16.tr1 c18 ne_b4_b5
  refine en <| x_ret <| then_r <| d_ret0 <| ret_many (vs := [.int _ _, .int _ _]) rfl ⟨⟨_, _, rfl, run_loadVar1 T.one3 (hb16.cell rfl)⟩, ⟨⟨_, _, rfl, run_loadVar1 T.one31 (hb19.cell rfl)⟩, trivial⟩⟩ (Nat.le_of_ble_eq_true rfl) ?_
  exact ⟨by rw [hv], HC⟩
 ·try simp only [nm, ne_eq] at g13
  refine w_yes 2 8 false <| st_load1 (v := .int _ _) T.one3 rfl (hb4.cell rfl) <| w_yes 2 8 false <| st_move (v := S _) rfl <| w_yes 2 8 false <| st_slen (ct := #[9]) T.u9 rfl <| w_yes 2 8 false <| st_geq rfl rfl <| pF rfl rfl <| en <| x_cond rfl (fun h0 => ?_) (fun h0 => ?_)
  ·try simp only [nm, ne_eq] at h0
   have hv : skipV s i = (i, 101) := skipV_out (by omega)
   refine sr rfl <| lI T.one3 rfl (hb4.cell rfl) <| Wp rfl <| st_st (v := .int _ _) T.size3 rfl rfl rfl hb8 ?_
   intro w20 c21 hb22; simp only [setVs, setV] at hb22
   clear hb8
   replace HC := HC.then1 c21 ge_b4
   replace hb12 := hb12.tr1 c21 (Ne.symm ne_b4_b5)
   refine Wp rfl <| st_st (v := .int _ _) T.size31 rfl rfl rfl hb12 ?_
   intro w23 c24 hb25; simp only [setVs, setV] at hb25
   clear hb12
   replace HC := HC.then1 c24 ge_b5
   replace hb22 := hb22.tr1 c24 ne_b4_b5
   refine en <| x_ret <| then_r <| d_ret0 <| ret_many (vs := [.int _ _, .int _ _]) rfl ⟨⟨_, _, rfl, run_loadVar1 T.one3 (hb22.cell rfl)⟩, ⟨⟨_, _, rfl, run_loadVar1 T.one31 (hb25.cell rfl)⟩, trivial⟩⟩ (Nat.le_of_ble_eq_true rfl) ?_
   exact ⟨by rw [hv], HC⟩
  ·try simp only [nm, ne_eq] at h0
   obtain ⟨j, rfl⟩ : ∃ j : Nat, i = j := ⟨i.toNat, by omega⟩
   refine x_skip <| then_n <| sr rfl <| Wp rfl <| st_makeFunc <| Wp rfl <| st_defer (cap := #[.pointer (some ⟨b3, 0, none⟩), .pointer (some ⟨b4, 0, none⟩), .pointer (some ⟨b5, 0, none⟩)]) rfl rfl rfl <| en <| sr rfl <| mS rfl <| lI T.one3 rfl (hb4.cell rfl) <| w_plain rfl (st_callP (ags := [_, _, _]) rfl rfl T.ent68 rfl (skip_spec s hs 64 j 1 _ (by omega) (by omega) (by omega)) ?_ ?_)
   ·rintro _ w26 ⟨e, he, rfl, c27⟩
    have hv := skipV_err (by omega) he
    replace HC := HC.then c27
    replace hb4 := hb4.tr0 c27
    replace hb8 := hb8.tr0 c27
    replace hb12 := hb12.tr0 c27
    refine then_p <| d_panic (xs := #[.pointer (some ⟨b3, 0, none⟩), .pointer (some ⟨b4, 0, none⟩), .pointer (some ⟨b5, 0, none⟩)]) T.ent67 (by simp) <| CallsDIn.mono (Skip1_pan _ hb4 hb8 hb12 ne_b3_b4 ne_b3_b5 ne_b4_b5) ?_
    rintro _ _ w28 ⟨⟨v9, rfl, hq4, hq5, c29⟩, rfl⟩
    refine ⟨⟨v9, rfl⟩, rfl, ?_⟩
    replace HC := HC.trans c29 (by intro x hx; simp only [List.mem_cons, List.mem_nil_iff, or_false] at hx; rcases hx with h1 | h1 <;> first | (left; simp [h1]; done) | (right; rw [h1]; omega))
    refine ret_many (vs := [.int _ _, .int _ _]) rfl ⟨⟨_, _, rfl, run_loadVar1 T.one3 (hq4.cell rfl)⟩, ⟨⟨_, _, rfl, run_loadVar1 T.one31 (hq5.cell rfl)⟩, trivial⟩⟩ (Nat.le_of_ble_eq_true rfl) ?_
    exact ⟨by rw [hv], HC⟩
   rintro _ w30 ⟨k, hk, rfl, c31⟩
   have hv := skipV_ok (by omega) hk
   replace HC := HC.then c31
   replace hb8 := hb8.tr0 c31
   replace hb12 := hb12.tr0 c31
   refine Wp rfl <| st_st (v := .int _ _) T.size3 rfl rfl rfl hb8 ?_
   intro w32 c33 hb34; simp only [setVs, setV] at hb34
   clear hb8
   replace HC := HC.then1 c33 ge_b4
   replace hb12 := hb12.tr1 c33 (Ne.symm ne_b4_b5)
   refine Wp rfl <| st_st (v := .int _ _) T.size31 rfl rfl rfl hb12 ?_
   intro w35 c36 hb37; simp only [setVs, setV] at hb37
   clear hb12
   replace HC := HC.then1 c36 ge_b5
   replace hb34 := hb34.tr1 c36 ne_b4_b5
   refine en <| x_ret <| d_ret (xs := #[.pointer (some ⟨b3, 0, none⟩), .pointer (some ⟨b4, 0, none⟩), .pointer (some ⟨b5, 0, none⟩)]) T.ent67 (by simp) <| CallsDIn.mono (Skip1_ret _) ?_
   rintro _ _ w38 ⟨⟨v9, rfl, c39⟩, rfl⟩
   refine ⟨⟨v9, rfl⟩, rfl, ?_⟩
   replace HC := HC.then c39
   replace hb34 := hb34.tr0 c39
   replace hb37 := hb37.tr0 c39
   refine ret_many (vs := [.int _ _, .int _ _]) rfl ⟨⟨_, _, rfl, run_loadVar1 T.one3 (hb34.cell rfl)⟩, ⟨⟨_, _, rfl, run_loadVar1 T.one31 (hb37.cell rfl)⟩, trivial⟩⟩ (Nat.le_of_ble_eq_true rfl) ?_
   exact ⟨by rw [hv], HC⟩

end Go.Proofs.YtghjmiggobpmoaaGreatDoor.K
set_option linter.unusedVariables false
set_option linter.unusedSimpArgs false
set_option autoImplicit false
set_option maxRecDepth 20000
namespace Go.Proofs.YtghjmiggobpmoaaGreatDoor.K
open Go Go.RowKit

structure Prt where
  kind : Int
  text : Bytes
  name : Bytes
  op : Bytes
  word : Bytes
  quoted : Bool
deriving DecidableEq
end Go.Proofs.YtghjmiggobpmoaaGreatDoor.K
set_option linter.unusedVariables false
set_option linter.unusedSimpArgs false
set_option autoImplicit false
set_option maxRecDepth 20000
namespace Go.Proofs.YtghjmiggobpmoaaGreatDoor.K
open Go Go.Proofs Go.RowKit

end Go.Proofs.YtghjmiggobpmoaaGreatDoor.K
