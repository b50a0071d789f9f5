import Derived.Test.YtghjmiggobpmoaaGreatDoorTok
import Derived.Test.YtghjmiggobpmoaaGreatDoorKitFl
import Derived.Test.YtghjmiggobpmoaaGreatDoorTy
import Derived.Lib.FrozenHead2
import Derived.Lib.MinMax
import Derived.Test.YtghjmiggobpmoaaGreatDoorKitG
set_option linter.unusedVariables false
set_option linter.unusedSimpArgs false
set_option autoImplicit false
set_option maxRecDepth 20000
namespace Go.Proofs.YtghjmiggobpmoaaGreatDoor.K
open Go Go.Proofs Go.RowKit
theorem c_upper (c : UInt8) (w : World) : CallR Tryz.prog 118 #[.int .u8 (c.toNat : Int)] w fun v w' => v = .bool (upB c) ∧ Chg [] w w' := by
 refine callR_of_wp (args := [_]) Tryz.func118 rfl (Nat.le_of_ble_eq_true rfl) ?_;have HC : Chg [] w w := .refl _;refine sr rfl <| aB rfl <| en <| sr rfl <| mI rfl <| Wp rfl <| st_leq rfl rfl <| mB rfl <| w_split (d := 5) rfl (fun g1 => ?_) (fun g1 => ?_)
 ·try simp only [nm, ne_eq] at g1
  refine w_yes 2 5 true <| st_move (v := .int _ _) rfl <| w_yes 2 5 true <| st_leq rfl rfl <| pT rfl rfl <| aB rfl <| en <| x_ret <| ret_tmp (v := .bool _) rfl rfl ?_;have hc := c.toNat_lt;refine ⟨congrArg Value.bool ?_, HC⟩;rw [Bool.eq_iff_iff]
  (try simp only [upB, loB, digB, alphaB, begB, wordB, wrap_u8, Bool.or_eq_true, Bool.and_eq_true, Bool.or_eq_false_iff, Bool.and_eq_false_imp, decide_eq_true_eq, decide_eq_false_iff_not] at *)
  (try simp only [true_iff, false_iff, iff_true, iff_false, Bool.false_eq_true])
  omega
 try simp only [nm, ne_eq] at g1
 refine w_no 2 5 true <| w_no 2 5 true <| pF rfl rfl <| aB rfl <| en <| x_ret <| ret_tmp (v := .bool _) rfl rfl ?_;have hc := c.toNat_lt;refine ⟨congrArg Value.bool ?_, HC⟩;rw [Bool.eq_iff_iff]
 (try simp only [upB, loB, digB, alphaB, begB, wordB, wrap_u8, Bool.or_eq_true, Bool.and_eq_true, Bool.or_eq_false_iff, Bool.and_eq_false_imp, decide_eq_true_eq, decide_eq_false_iff_not] at *)
 (try simp only [true_iff, false_iff, iff_true, iff_false, Bool.false_eq_true])
 omega
theorem c_lower (c : UInt8) (w : World) : CallR Tryz.prog 119 #[.int .u8 (c.toNat : Int)] w fun v w' => v = .bool (loB c) ∧ Chg [] w w' := by
 refine callR_of_wp (args := [_]) Tryz.func119 rfl (Nat.le_of_ble_eq_true rfl) ?_;have HC : Chg [] w w := .refl _;refine sr rfl <| aB rfl <| en <| sr rfl <| mI rfl <| Wp rfl <| st_leq rfl rfl <| mB rfl <| w_split (d := 5) rfl (fun g1 => ?_) (fun g1 => ?_)
 ·try simp only [nm, ne_eq] at g1
  refine w_yes 2 5 true <| st_move (v := .int _ _) rfl <| w_yes 2 5 true <| st_leq rfl rfl <| pT rfl rfl <| aB rfl <| en <| x_ret <| ret_tmp (v := .bool _) rfl rfl ?_;have hc := c.toNat_lt;refine ⟨congrArg Value.bool ?_, HC⟩;rw [Bool.eq_iff_iff]
  (try simp only [upB, loB, digB, alphaB, begB, wordB, wrap_u8, Bool.or_eq_true, Bool.and_eq_true, Bool.or_eq_false_iff, Bool.and_eq_false_imp, decide_eq_true_eq, decide_eq_false_iff_not] at *)
  (try simp only [true_iff, false_iff, iff_true, iff_false, Bool.false_eq_true])
  omega
 try simp only [nm, ne_eq] at g1
 refine w_no 2 5 true <| w_no 2 5 true <| pF rfl rfl <| aB rfl <| en <| x_ret <| ret_tmp (v := .bool _) rfl rfl ?_;have hc := c.toNat_lt;refine ⟨congrArg Value.bool ?_, HC⟩;rw [Bool.eq_iff_iff]
 (try simp only [upB, loB, digB, alphaB, begB, wordB, wrap_u8, Bool.or_eq_true, Bool.and_eq_true, Bool.or_eq_false_iff, Bool.and_eq_false_imp, decide_eq_true_eq, decide_eq_false_iff_not] at *)
 (try simp only [true_iff, false_iff, iff_true, iff_false, Bool.false_eq_true])
 omega
theorem c_alpha (c : UInt8) (w : World) : CallR Tryz.prog 116 #[.int .u8 (c.toNat : Int)] w fun v w' => v = .bool (alphaB c) ∧ Chg [] w w' := by
 refine callR_of_wp (args := [_]) Tryz.func116 rfl (Nat.le_of_ble_eq_true rfl) ?_;have HC : Chg [] w w := .refl _;refine sr rfl <| aB rfl <| en <| sr rfl <| mI rfl <| Wp rfl <| st_call (ags := [_]) rfl rfl T.ent118 rfl (c_upper c _) ?_;rintro _ w1 ⟨rfl, c2⟩;replace HC := HC.then c2;refine mB rfl <| w_split (d := 5) rfl (fun g3 => ?_) (fun g3 => ?_)
 ·try simp only [nm, ne_eq] at g3
  refine w_no 2 5 false <| w_no 2 5 false <| pT rfl rfl <| aB rfl <| en <| x_ret <| ret_tmp (v := .bool _) rfl rfl ?_;have hc := c.toNat_lt;refine ⟨congrArg Value.bool ?_, HC⟩;rw [Bool.eq_iff_iff]
  (try simp only [upB, loB, digB, alphaB, begB, wordB, wrap_u8, Bool.or_eq_true, Bool.and_eq_true, Bool.or_eq_false_iff, Bool.and_eq_false_imp, decide_eq_true_eq, decide_eq_false_iff_not] at *)
  (try simp only [true_iff, false_iff, iff_true, iff_false, Bool.false_eq_true])
  omega
 try simp only [nm, ne_eq] at g3
 refine w_yes 2 5 false <| st_move (v := .int _ _) rfl <| w_yes 2 5 false <| st_call (ags := [_]) rfl rfl T.ent119 rfl (c_lower c _) ?_;rintro _ w4 ⟨rfl, c5⟩;replace HC := HC.then c5;refine pF rfl rfl <| aB rfl <| en <| x_ret <| ret_tmp (v := .bool _) rfl rfl ?_;have hc := c.toNat_lt;refine ⟨congrArg Value.bool ?_, HC⟩;rw [Bool.eq_iff_iff]
 (try simp only [upB, loB, digB, alphaB, begB, wordB, wrap_u8, Bool.or_eq_true, Bool.and_eq_true, Bool.or_eq_false_iff, Bool.and_eq_false_imp, decide_eq_true_eq, decide_eq_false_iff_not] at *)
 (try simp only [true_iff, false_iff, iff_true, iff_false, Bool.false_eq_true])
 omega
theorem c_begins (c : UInt8) (w : World) : CallR Tryz.prog 104 #[.int .u8 (c.toNat : Int)] w fun v w' => v = .bool (begB c) ∧ Chg [] w w' := by
 refine callR_of_wp (args := [_]) Tryz.func104 rfl (Nat.le_of_ble_eq_true rfl) ?_;have HC : Chg [] w w := .refl _;refine sr rfl <| aB rfl <| en <| sr rfl <| mI rfl <| Wp rfl <| st_call (ags := [_]) rfl rfl T.ent116 rfl (c_alpha c _) ?_;rintro _ w1 ⟨rfl, c2⟩;replace HC := HC.then c2;refine mB rfl <| w_split (d := 5) rfl (fun g3 => ?_) (fun g3 => ?_)
 ·try simp only [nm, ne_eq] at g3
  refine w_no 2 5 false <| w_no 2 5 false <| pT rfl rfl <| aB rfl <| en <| x_ret <| ret_tmp (v := .bool _) rfl rfl ?_;have hc := c.toNat_lt;refine ⟨congrArg Value.bool ?_, HC⟩;rw [Bool.eq_iff_iff]
  (try simp only [upB, loB, digB, alphaB, begB, wordB, wrap_u8, Bool.or_eq_true, Bool.and_eq_true, Bool.or_eq_false_iff, Bool.and_eq_false_imp, decide_eq_true_eq, decide_eq_false_iff_not] at *)
  (try simp only [true_iff, false_iff, iff_true, iff_false, Bool.false_eq_true])
  omega
 try simp only [nm, ne_eq] at g3
 refine w_yes 2 5 false <| st_move (v := .int _ _) rfl <| w_yes 2 5 false <| st_eql rfl rfl <| pF rfl rfl <| aB rfl <| en <| x_ret <| ret_tmp (v := .bool _) rfl rfl ?_;have hc := c.toNat_lt;refine ⟨congrArg Value.bool ?_, HC⟩;rw [Bool.eq_iff_iff]
 (try simp only [upB, loB, digB, alphaB, begB, wordB, wrap_u8, Bool.or_eq_true, Bool.and_eq_true, Bool.or_eq_false_iff, Bool.and_eq_false_imp, decide_eq_true_eq, decide_eq_false_iff_not] at *)
 (try simp only [true_iff, false_iff, iff_true, iff_false, Bool.false_eq_true])
 omega
theorem c_digit (c : UInt8) (w : World) : CallR Tryz.prog 52 #[.int .u8 (c.toNat : Int)] w fun v w' => v = .bool (digB c) ∧ Chg [] w w' := by
 refine callR_of_wp (args := [_]) Tryz.func52 rfl (Nat.le_of_ble_eq_true rfl) ?_;have HC : Chg [] w w := .refl _;refine sr rfl <| aB rfl <| en <| sr rfl <| mI rfl <| Wp rfl <| st_sub rfl rfl <| Wp rfl <| st_lss rfl rfl <| aB rfl <| en <| x_ret <| ret_tmp (v := .bool _) rfl rfl ?_;have hc := c.toNat_lt;refine ⟨congrArg Value.bool ?_, HC⟩;rw [Bool.eq_iff_iff]
 (try simp only [upB, loB, digB, alphaB, begB, wordB, wrap_u8, Bool.or_eq_true, Bool.and_eq_true, Bool.or_eq_false_iff, Bool.and_eq_false_imp, decide_eq_true_eq, decide_eq_false_iff_not] at *)
 (try simp only [true_iff, false_iff, iff_true, iff_false, Bool.false_eq_true])
 omega
theorem run_text (s : Bytes) (i : Nat) (m : UInt8) (esc : Bool) (w : World) (hs : s.length < 4294967281) (hi : i ≤ s.length) : CallP Tryz.prog 84 #[S s, .int .i64 (i : Int), .int .u8 (m.toNat : Int), .bool esc] w (fun v w' => ∃ k, runA m esc s i = some k ∧ v = .int .i64 (k : Int) ∧ Chg [] w w') (fun v w' => runA m esc s i = none ∧ v = .iface 114 (.int .i64 101) ∧ Chg [] w w') := by
 refine callP_of_wp (args := [_, _, _, _]) Tryz.func84 rfl (Nat.le_of_ble_eq_true rfl) ?_;have HC : Chg [] w w := .refl _;refine sr rfl <| aI rfl <| en <| x_seq <| x_block <| x_loop (ι := Nat) [1, 8, 9, 10, 11, 12, 13, 14, 15, 16, 17, 18, 19, 20, 21, 22, 23, 24, 25, 26, 27, 28, 29, 30, 31, 32] (fun j => [(1, .int .i64 (j : Int))]) (fun j W => (j ≤ s.length + 1 ∧ runA m esc s i = runA m esc s j) ∧ (Chg [] w W)) (fun j => s.length + 2 - j) i ?_ ?_ ?_
 · exact ⟨rfl, trivial⟩
 ·refine ⟨?_, HC⟩;exact ⟨by omega, rfl⟩
 intro j G2 w1 ⟨⟨hj, hr⟩, HC⟩
 change wp _ _ _ _ _ (upds (over _ _ G2) [(1, .int .i64 (j : Int))]) _ _
 refine x_seq <| sr rfl <| mI rfl <| mS rfl <| Wp rfl <| st_slen (ct := #[116]) T.u116 rfl <| Wp rfl <| st_lss rfl rfl <| en <| x_cond rfl (fun h0 => ?_) (fun h0 => ?_)
 ·try simp only [nm, ne_eq] at h0
  refine x_skip <| then_n <| x_seq <| x_block <| x_block <| sr rfl <| mS rfl <| mI rfl <| Wp rfl <| st_sidx T.u116 rfl rfl q0 q0 <| mI rfl <| Wp rfl <| st_eql rfl rfl <| aB rfl <| en <| x_cond rfl (fun h1 => ?_) (fun h1 => ?_)
  ·try simp only [nm, ne_eq] at h1
   have hbm : byte s j = m := UInt8.toNat_inj.1 q0;refine sr rfl <| mI rfl <| Wp rfl <| st_addn rfl rfl (by constructor <;> omega) <| aI rfl <| en <| x_ret <| block_r <| block_r <| then_r <| then_r <| block_r <| then_r <| pp_ret <| ret_tmp (v := .int _ _) rfl rfl ?_
   exact ⟨j + 1, by rw [hr]; exact runA_at q0 hbm, rfl, HC⟩
  try simp only [nm, ne_eq] at h1
  have hbn : byte s j ≠ m := fun e => h1 (by rw [e])
  refine sr rfl <| mB rfl <| mB rfl <| w_split (d := 25) rfl (fun g3 => ?_) (fun g3 => ?_)
  ·try simp only [nm, ne_eq] at g3
   refine w_yes 1 25 true <| st_move (v := S _) rfl <| w_yes 1 25 true <| st_move (v := .int _ _) rfl <| w_yes 1 25 true <| st_sidx T.u116 rfl rfl q0 q0 <| w_yes 1 25 true <| st_eql rfl rfl <| pT rfl rfl <| aB rfl <| en <| x_cond rfl (fun h2 => ?_) (fun h2 => ?_)
   ·try simp only [nm, ne_eq] at h2
    have hb92 : byte s j = 92 := UInt8.toNat_inj.1 (by show _ = 92; omega)
    refine x_region rfl <| mI rfl <| Wp rfl <| st_addn rfl rfl (by constructor <;> omega) <| aI rfl <| wops_nil <| block_n <| block_n <| then_n <| x_region rfl <| mI rfl <| Wp rfl <| st_addn rfl rfl (by constructor <;> omega) <| aI rfl <| en <| ⟨j + 2, ?_, ?_, rfl, ⟨rfl, trivial⟩, ?_⟩
    ·refine ⟨?_, HC⟩;exact ⟨by omega, by rw [hr]; exact (by rw [show esc = true by assumption]; exact runA_esc q0 hbn hb92)⟩
    ·show s.length + 2 - (j + 2) < s.length + 2 - j; omega
    exact q9
   try simp only [nm, ne_eq] at h2
   have hb93 : esc = true → byte s j ≠ 92 := fun he e => by first | (rw [e] at h2; exact h2 rfl) | simp_all
   refine x_skip <| block_n <| block_n <| then_n <| x_region rfl <| mI rfl <| Wp rfl <| st_addn rfl rfl (by constructor <;> omega) <| aI rfl <| en <| ⟨j + 1, ?_, ?_, rfl, ⟨rfl, trivial⟩, ?_⟩
   ·refine ⟨?_, HC⟩;exact ⟨by omega, by rw [hr]; exact runA_on q0 hbn hb93⟩
   ·show s.length + 2 - (j + 1) < s.length + 2 - j; omega
   exact q9
  try simp only [nm, ne_eq] at g3
  iterate 4 refine w_no 1 25 true ?_
  refine pF rfl rfl <| aB rfl <| en <| x_cond (t := false) rfl (fun h2 => ?_) (fun h2 => ?_)
  · exact absurd h2 (by decide)
  have hb93 : esc = true → byte s j ≠ 92 := fun he e => by first | (rw [e] at h2; exact h2 rfl) | simp_all
  refine x_skip <| block_n <| block_n <| then_n <| x_region rfl <| mI rfl <| Wp rfl <| st_addn rfl rfl (by constructor <;> omega) <| aI rfl <| en <| ⟨j + 1, ?_, ?_, rfl, ⟨rfl, trivial⟩, ?_⟩
  ·refine ⟨?_, HC⟩;exact ⟨by omega, by rw [hr]; exact runA_on q0 hbn hb93⟩
  ·show s.length + 2 - (j + 1) < s.length + 2 - j; omega
  exact q9
 try simp only [nm, ne_eq] at h0
 refine x_exit <| then_x <| then_x <| block_x <| then_n <| x_region rfl <| Wp rfl <| st_makeIface T.u114 rfl rfl <| Wp rfl <| st_panic rfl <| pp_panic ?_;exact ⟨by rw [hr]; exact runA_end q0, rfl, HC⟩
theorem is_spec (m : UInt8) (w : World) : CallR Tryz.prog 87 #[.int .u8 (m.toNat : Int)] w fun v w' => ∃ b, v = .func (.func 108) #[] #[.pointer (some ⟨b, 0, none⟩)] ∧ w.heap.size ≤ b ∧ Blk w' b [.int .u8 (m.toNat : Int)] 5 ∧ Chg [] w w' := by
 refine callR_of_wp (args := [_]) Tryz.func87 rfl (Nat.le_of_ble_eq_true rfl) ?_;have HC : Chg [] w w := .refl _;refine sr rfl <| Wp rfl <| st_box (v := .int _ _) (vs := [_]) rfl rfl ?_;intro bt w1 e2 c3 hb4;have ge_bt := gB e2 HC.size;replace HC := HC.then c3;clear e2;refine av (v := .nilFunc) rfl <| en <| sr rfl <| Wp rfl <| st_makeFunc <| av (v := .func _ _ _) rfl <| en <| x_ret <| ret_tmp (v := .func _ _ _) rfl rfl ?_;exact ⟨bt, rfl, ge_bt, hb4, HC⟩
theorem is1_spec {b : Nat} {m : UInt8} {w : World} (c : UInt8) (hb : Blk w b [.int .u8 (m.toNat : Int)] 5) : CallR Tryz.prog 108 #[.int .u8 (c.toNat : Int), .pointer (some ⟨b, 0, none⟩)] w fun v w' => v = .bool (finM m () c).1 ∧ Chg [] w w' := by
 refine callR_of_wp (args := [_, _]) Tryz.func108 rfl (Nat.le_of_ble_eq_true rfl) ?_;have HC : Chg [] w w := .refl _;refine sr rfl <| aB rfl <| en <| sr rfl <| mI rfl <| lI T.one5 rfl (hb.cell rfl) <| Wp rfl <| st_eql rfl rfl <| aB rfl <| en <| x_ret <| ret_tmp (v := .bool _) rfl rfl <| ⟨congrArg Value.bool ?_, HC⟩;rw [Bool.eq_iff_iff, decide_eq_true_eq]; simp only [finM, beq_iff_eq];exact ⟨fun h => UInt8.toNat_inj.1 q0, fun h => by rw [h]⟩
theorem always_spec (c : UInt8) (w : World) : CallR Tryz.prog 88 #[.int .u8 (c.toNat : Int)] w fun v w' => v = .bool true ∧ Chg [] w w' := by
 refine callR_of_wp (args := [_]) Tryz.func88 rfl (Nat.le_of_ble_eq_true rfl) ?_;have HC : Chg [] w w := .refl _;refine sr rfl <| aB rfl <| en <| sr rfl <| aB rfl <| en <| x_ret <| ret_tmp (v := .bool _) rfl rfl ?_;exact ⟨rfl, HC⟩
theorem closing_spec (w : World) : CallR Tryz.prog 89 #[] w fun v w' => ∃ b, v = .func (.func 109) #[] #[.pointer (some ⟨b, 0, none⟩)] ∧ w.heap.size ≤ b ∧ Blk w' b [.int .i64 0] 3 ∧ Chg [] w w' := by
 refine callR_of_wp (args := []) Tryz.func89 rfl (Nat.le_of_ble_eq_true rfl) ?_;have HC : Chg [] w w := .refl _;refine sr rfl <| av (v := .nilFunc) rfl <| en <| sr rfl <| Wp rfl <| st_alloc T.zero3 ?_;intro bt w1 e2 c3 hb4;have ge_bt := gB e2 HC.size;replace HC := HC.then c3;clear e2;refine Wp rfl <| st_st (v := .int _ _) T.size3 rfl rfl rfl hb4 ?_;intro w5 c6 hb7; simp only [setVs, setV] at hb7;clear hb4;replace HC := HC.then1 c6 ge_bt;refine en <| sr rfl <| Wp rfl <| st_makeFunc <| av (v := .func _ _ _) rfl <| en <| x_ret <| ret_tmp (v := .func _ _ _) rfl rfl ?_;exact ⟨bt, rfl, ge_bt, hb7, HC⟩
theorem closing1_spec {b : Nat} {o : Int} {w : World} (c : UInt8) (hb : Blk w b [.int .i64 o] 3) (ho : -4294967296 ≤ o ∧ o ≤ 4294967296) : CallR Tryz.prog 109 #[.int .u8 (c.toNat : Int), .pointer (some ⟨b, 0, none⟩)] w fun v w' => v = .bool (finC o c).1 ∧ Blk w' b [.int .i64 (finC o c).2] 3 ∧ Chg [b] w w' := by
 refine callR_of_wp (args := [_, _]) Tryz.func109 rfl (Nat.le_of_ble_eq_true rfl) ?_;have HC : Chg [b] w w := .refl _;refine sr rfl <| aB rfl <| en <| x_seq <| sr rfl <| mI rfl <| en <| x_block <| sr rfl <| Wp rfl <| st_eql rfl rfl <| aB rfl <| en <| x_cond rfl (fun h0 => ?_) (fun h0 => ?_)
 ·try simp only [nm, ne_eq] at h0
  have hc : opnC o c = o + 1 := by rw [opnC, if_pos (UInt8.toNat_inj.1 (by show _ = 40; omega))]
  refine x_region rfl <| lI T.one3 rfl (hb.cell rfl) <| Wp rfl <| st_addn rfl rfl (by constructor <;> omega) <| Wp rfl <| st_st (v := .int _ _) T.size3 rfl rfl rfl hb ?_
  intro w1 c2 hb3; simp only [setVs, setV] at hb3;clear hb;replace HC := HC.trans c2 q4;refine wops_nil <| block_n <| then_n <| sr rfl <| lI T.one3 rfl (hb3.cell rfl) <| Wp rfl <| st_lss rfl rfl <| aB rfl <| en <| x_ret <| ret_tmp (v := .bool _) rfl rfl <| ⟨by rw [finC, hc], by rw [finC, hc]; exact hb3, HC⟩
 try simp only [nm, ne_eq] at h0
 refine sr rfl <| Wp rfl <| st_eql rfl rfl <| aB rfl <| en <| x_cond rfl (fun h1 => ?_) (fun h1 => ?_)
 ·try simp only [nm, ne_eq] at h1
  have hc : opnC o c = o - 1 := by rw [opnC, if_neg (fun e => h0 (by rw [e]; rfl)), if_pos (UInt8.toNat_inj.1 (by show _ = 41; omega))]
  refine x_region rfl <| lI T.one3 rfl (hb.cell rfl) <| Wp rfl <| st_subn rfl rfl (by constructor <;> omega) <| Wp rfl <| st_st (v := .int _ _) T.size3 rfl rfl rfl hb ?_
  intro w4 c5 hb6; simp only [setVs, setV] at hb6;clear hb;replace HC := HC.trans c5 q4;refine wops_nil <| block_n <| then_n <| sr rfl <| lI T.one3 rfl (hb6.cell rfl) <| Wp rfl <| st_lss rfl rfl <| aB rfl <| en <| x_ret <| ret_tmp (v := .bool _) rfl rfl <| ⟨by rw [finC, hc], by rw [finC, hc]; exact hb6, HC⟩
 try simp only [nm, ne_eq] at h1
 have hc : opnC o c = o := by rw [opnC, if_neg (fun e => h0 (by rw [e]; rfl)), if_neg (fun e => h1 (by rw [e]; rfl))]
 refine x_skip <| block_n <| then_n <| sr rfl <| lI T.one3 rfl (hb.cell rfl) <| Wp rfl <| st_lss rfl rfl <| aB rfl <| en <| x_ret <| ret_tmp (v := .bool _) rfl rfl <| ⟨by rw [finC, hc], by rw [finC, hc]; exact hb, HC⟩
theorem skip1_spec (c : UInt8) (w : World) : CallR Tryz.prog 86 #[.int .u8 (c.toNat : Int)] w fun v w' => v = .bool (begQ c) ∧ Chg [] w w' := by
 refine callR_of_wp (args := [_]) Tryz.func86 rfl (Nat.le_of_ble_eq_true rfl) ?_;have HC : Chg [] w w := .refl _;refine sr rfl <| aB rfl <| en <| sr rfl <| mI rfl <| Wp rfl <| st_eql rfl rfl <| mB rfl <| w_split (d := 5) rfl (fun g1 => ?_) (fun g1 => ?_)
 ·try simp only [nm, ne_eq] at g1
  refine w_no 2 5 false <| w_no 2 5 false <| pT rfl rfl <| mB rfl <| w_no 6 9 false <| w_no 6 9 false <| pT rfl rfl <| aB rfl <| en <| x_ret <| ret_tmp (v := .bool _) rfl rfl <| ⟨congrArg Value.bool ?_, HC⟩;rw [Bool.eq_iff_iff]; simp only [begQ, Bool.or_eq_true, beq_iff_eq, ← UInt8.toNat_inj]
  (try simp only [decide_eq_true_eq, true_iff, Bool.false_eq_true, false_iff] at *)
  simp; omega
 try simp only [nm, ne_eq] at g1
 refine w_yes 2 5 false <| st_move (v := .int _ _) rfl <| w_yes 2 5 false <| st_eql rfl rfl <| pF rfl rfl <| mB rfl <| w_split (d := 9) rfl (fun g2 => ?_) (fun g2 => ?_)
 ·try simp only [nm, ne_eq] at g2
  refine w_no 6 9 false <| w_no 6 9 false <| pT rfl rfl <| aB rfl <| en <| x_ret <| ret_tmp (v := .bool _) rfl rfl <| ⟨congrArg Value.bool ?_, HC⟩;rw [Bool.eq_iff_iff]; simp only [begQ, Bool.or_eq_true, beq_iff_eq, ← UInt8.toNat_inj]
  (try simp only [decide_eq_true_eq, true_iff, Bool.false_eq_true, false_iff] at *)
  simp; omega
 try simp only [nm, ne_eq] at g2
 refine w_yes 6 9 false <| st_move (v := .int _ _) rfl <| w_yes 6 9 false <| st_eql rfl rfl <| pF rfl rfl <| aB rfl <| en <| x_ret <| ret_tmp (v := .bool _) rfl rfl <| ⟨congrArg Value.bool ?_, HC⟩;rw [Bool.eq_iff_iff]; simp only [begQ, Bool.or_eq_true, beq_iff_eq, ← UInt8.toNat_inj]
 (try simp only [decide_eq_true_eq, true_iff, Bool.false_eq_true, false_iff] at *)
 simp; omega
open Go Go.RowKit
variable {T e : TypeId} {w w' : World} {b : Nat} {A : Option Addr} {cap : Nat} {s : Bytes}
variable {P : Program} {r : Option Nat} {n : Nat} {O : Array Oper} {Q : Post} {E : Env} {ds : List Deferred} {l : List Oper}
section
variable {dst : Option Nat} {ty : TypeId} {pos : String} {af : Array Edge} {g : Option (Nat × Bool)}
theorem r_min {x y : Operand} {k k' : IntKind} {a c : Int} {ct : Array TypeId} (hx : ev E x = .int k a) (hy : ev E y = .int k' c) : (execOp (ev E) ⟨dst, .call ⟨.builtin .min, #[x, y], ct⟩, ty, pos, af, g⟩).run P w = .ok (.value (.int k (min a c))) w := by
  simp only [execOp, resolve, invoke, builtin, List.map_toArray, List.map_cons, List.map_nil, hx, hy, Sem.run_bind, Sem.run_pure, Lib.run_min_ints, Result.andThen]
theorem st_min {x y : Operand} {k k' : IntKind} {a c : Int} {ct : Array TypeId} (hx : ev E x = .int k a) (hy : ev E y = .int k' c) (h : wops P r n O Q l (updo E dst (.int k (min a c))) ds w) : wop P r n O Q ⟨dst, .call ⟨.builtin .min, #[x, y], ct⟩, ty, pos, af, g⟩ l E ds w := wop_run (fun _ => by simp) (r_min hx hy) h
end
end Go.Proofs.YtghjmiggobpmoaaGreatDoor.K
namespace Go.Proofs.YtghjmiggobpmoaaGreatDoor.K
open Go Go.Proofs Go.RowKit
theorem fin_bound {j : Nat} {o : Int} {c : UInt8} (h : -(j : Int) ≤ o ∧ o ≤ j) : -((j + 1 : Nat) : Int) ≤ (finC o c).2 ∧ (finC o c).2 ≤ ((j + 1 : Nat) : Int) := by
  simp only [finC, opnC]; split
  · omega
  split <;> omega
theorem until_spec {σ : Type} {beg : UInt8 → Bool} {fin : σ → UInt8 → Bool × σ} {fk : Nat} {d : Int} {kb ke : FuncId} {capb cape : Array Value} (bs : List Nat) (J : Nat → σ → World → Prop) (hJ0 : ∀ j st W W', J j st W → Chg [] W W' → J j st W') (hJm : ∀ {j k : Nat} {st : σ} {W : World}, j ≤ k → J j st W → J k st W)
    (henb : ∀ args (w : World), (callFunc kb args).run Tryz.prog w = .ok (.enter kb args) w) (hene : ∀ args (w : World), (callFunc ke args).run Tryz.prog w = .ok (.enter ke args) w)
    (hbeg : ∀ c W, CallR Tryz.prog kb ⟨.int .u8 (c.toNat : Int) :: capb.toList⟩ W fun v W' => v = .bool (beg c) ∧ Chg [] W W')
    (s : Bytes) (hend : ∀ (j : Nat) st c W, j < s.length → J j st W → CallR Tryz.prog ke ⟨.int .u8 (c.toNat : Int) :: cape.toList⟩ W fun v W' => v = .bool (fin st c).1 ∧ J (j + 1) (fin st c).2 W' ∧ Chg bs W W')
    (hs : s.length < 4294967281) (hd : 0 ≤ d ∧ d ≤ 100)
    (hsk : ∀ (j : Nat) (W : World), j < s.length → CallP Tryz.prog 68 #[S s, .int .i64 (j : Int), .int .i64 (d + 1)] W (fun v W' => ∃ k, skipA fk s j = .ok k ∧ v = .int .i64 (k : Int) ∧ Chg [] W W') (fun v W' => ∃ e : Nat, skipA fk s j = .error e ∧ v = .iface 114 (.int .i64 (e : Int)) ∧ Chg [] W W'))
    (i n : Nat) (st : σ) (w : World) (hi : i ≤ s.length) (hn : s.length - i ≤ n) (hJ : J i st w) :
    CallP Tryz.prog 85 #[S s, .int .i64 (i : Int), .int .i64 d, .func (.func kb) #[] capb, .func (.func ke) #[] cape] w (fun v w' => ∃ k, untilA fk beg fin n st s i = .ok k ∧ v = .int .i64 (k : Int) ∧ Chg bs w w') (fun v w' => ∃ e : Nat, untilA fk beg fin n st s i = .error e ∧ v = .iface 114 (.int .i64 (e : Int)) ∧ Chg bs w w') := by
 refine callP_of_wp (args := [_, _, _, _, _]) Tryz.func85 rfl (Nat.le_of_ble_eq_true rfl) ?_;have HC : Chg bs w w := .refl _;refine sr rfl <| aI rfl <| en <| x_seq <| x_block <| x_loop (ι := Nat × Nat × σ) [1, 10, 11, 12, 13, 14, 15, 16, 17, 18, 19, 20, 21, 22, 23, 24, 25, 26, 27, 28, 29, 30, 31, 32, 33] (fun ⟨j, m, u⟩ => [(1, .int .i64 (j : Int))]) (fun ⟨j, m, u⟩ W => (j ≤ s.length ∧ s.length - j ≤ m ∧ untilA fk beg fin n st s i = untilA fk beg fin m u s j) ∧ (Chg bs w W) ∧ (J j u W)) (fun ⟨j, m, u⟩ => s.length - j) (i, n, st) ?_ ?_ ?_
 · exact ⟨rfl, trivial⟩
 ·refine ⟨?_, HC, (hJm q0 hJ)⟩;exact ⟨hi, hn, rfl⟩
 intro ⟨j, m, u⟩ G2 w1 ⟨⟨hj, hm, hr⟩, HC, hJ⟩
 change wp _ _ _ _ _ (upds (over _ _ G2) [(1, .int .i64 (j : Int))]) _ _
 refine x_seq <| sr rfl <| mI rfl <| mS rfl <| Wp rfl <| st_slen (ct := #[116]) T.u116 rfl <| Wp rfl <| st_lss rfl rfl <| en <| x_cond rfl (fun h0 => ?_) (fun h0 => ?_)
 ·try simp only [nm, ne_eq] at h0
  obtain ⟨m, rfl⟩ : ∃ m', m = m' + 1 := ⟨m - 1, by omega⟩
  refine x_skip <| then_n <| x_block <| x_seq <| sr rfl <| mv (v := .func _ _ _) rfl <| mS rfl <| mI rfl <| Wp rfl <| st_sidx T.u116 rfl rfl q0 q0 <| Wp rfl <| st_call (f := ke) (cap := cape) (ags := .int .u8 _ :: cape.toList) rfl rfl hene rfl (hend j u (byte s j) _ q0 hJ) ?_;rintro _ w3 ⟨rfl, hj5, c4⟩;replace HC := HC.trans c4 (fun x hx => .inl hx)
  refine en <| x_cond rfl (fun h1 => ?_) (fun h1 => ?_)
  ·try simp only [nm, ne_eq] at h1
   refine sr rfl <| mI rfl <| Wp rfl <| st_addn rfl rfl (by constructor <;> omega) <| aI rfl <| en <| x_ret <| then_r <| block_r <| then_r <| block_r <| then_r <| pp_ret <| ret_tmp (v := .int _ _) rfl rfl ?_
   exact ⟨j + 1, by rw [hr]; exact untilA_fin q0 (by first | simpa using h1 | assumption), rfl, HC⟩
  try simp only [nm, ne_eq] at h1
  refine x_skip <| then_n <| sr rfl <| mv (v := .func _ _ _) rfl <| mS rfl <| mI rfl <| Wp rfl <| st_sidx T.u116 rfl rfl q0 q0 <| Wp rfl <| st_call (f := kb) (cap := capb) (ags := .int .u8 _ :: capb.toList) rfl rfl henb rfl (hbeg (byte s j) _) ?_;rintro _ w6 ⟨rfl, c7⟩;replace HC := HC.then c7;replace hj5 := hJ0 _ _ _ _ hj5 c7;refine en <| x_cond rfl (fun h2 => ?_) (fun h2 => ?_)
  ·try simp only [nm, ne_eq] at h2
   refine x_region rfl <| mS rfl <| mI rfl <| mI rfl <| Wp rfl <| st_addn rfl rfl (by constructor <;> omega) <| w_plain rfl (st_callP (ags := [_, _, _]) rfl rfl T.ent68 rfl (hsk j _ q0) ?_ ?_)
   ·rintro _ w8 ⟨e, he, rfl, c9⟩;replace HC := HC.then c9;replace hj5 := hJ0 _ _ _ _ hj5 c9;refine block_p <| then_p <| block_p <| then_p <| pp_panic ?_
    first | exact ⟨_, by rw [hr]; exact untilA_err q0 (by first | simpa using h1 | assumption) (by first | simpa using h2 | assumption) he, rfl, HC⟩ | exact ⟨101, by rw [hr]; exact untilA_end q0, rfl, HC⟩
   rintro _ w10 ⟨k, hk, rfl, c11⟩;have hkb := skipA_le q0 hk;replace HC := HC.then c11;replace hj5 := hJ0 _ _ _ _ hj5 c11;refine aI rfl <| wops_nil <| block_n <| then_n <| ⟨(k, m, (fin u (byte s j)).2), ?_, ?_, rfl, ⟨rfl, trivial⟩, ?_⟩
   ·refine ⟨?_, HC, (hJm q0 hj5)⟩;exact ⟨hkb.2, by omega, by rw [hr]; exact untilA_sk q0 (by first | simpa using h1 | assumption) (by first | simpa using h2 | assumption) hk⟩
   ·show s.length - k < s.length - j; omega
   exact q9
  try simp only [nm, ne_eq] at h2
  refine x_region rfl <| mI rfl <| Wp rfl <| st_addn rfl rfl (by constructor <;> omega) <| aI rfl <| wops_nil <| block_n <| then_n <| ⟨((j + 1), m, (fin u (byte s j)).2), ?_, ?_, rfl, ⟨rfl, trivial⟩, ?_⟩
  ·refine ⟨?_, HC, (hJm q0 hj5)⟩;exact ⟨by omega, by omega, by rw [hr]; exact untilA_on q0 (by first | simpa using h1 | assumption) (by first | simpa using h2 | assumption)⟩
  ·show s.length - (j + 1) < s.length - j; omega
  exact q9
 try simp only [nm, ne_eq] at h0
 refine x_exit <| then_x <| then_x <| block_x <| then_n <| x_region rfl <| Wp rfl <| st_makeIface T.u114 rfl rfl <| Wp rfl <| st_panic rfl <| pp_panic ?_
 first | exact ⟨_, by rw [hr]; exact untilA_err q0 (by first | simpa using h1 | assumption) (by first | simpa using h2 | assumption) he, rfl, HC⟩ | exact ⟨101, by rw [hr]; exact untilA_end q0, rfl, HC⟩
theorem skip_zero (s : Bytes) (j : Nat) (d : Int) (w : World) (hs : s.length < 4294967281) (hj : j < s.length) (hd : d = 65) : CallP Tryz.prog 68 #[S s, .int .i64 (j : Int), .int .i64 d] w (fun v w' => ∃ k, skipA 0 s j = .ok k ∧ v = .int .i64 (k : Int) ∧ Chg [] w w') (fun v w' => ∃ e : Nat, skipA 0 s j = .error e ∧ v = .iface 114 (.int .i64 (e : Int)) ∧ Chg [] w w') := by
 refine callP_of_wp (args := [_, _, _]) Tryz.func68 rfl (Nat.le_of_ble_eq_true rfl) ?_;have HC : Chg [] w w := .refl _;refine sr rfl <| aI rfl <| en <| x_seq <| sr rfl <| mI rfl <| Wp rfl <| st_gtr rfl rfl <| en <| x_cond rfl (fun h0 => ?_) (fun h0 => ?_)
 ·try simp only [nm, ne_eq] at h0
  refine x_region rfl <| Wp rfl <| st_makeIface T.u114 rfl rfl <| Wp rfl <| st_panic rfl <| then_p <| pp_panic ?_;exact ⟨104, skipA_zero, rfl, HC⟩
 try simp only [nm, ne_eq] at h0
 omega
theorem skip_succ {fk : Nat} (s : Bytes) (j : Nat) (d : Int) (w : World) (hs : s.length < 4294967281) (hj : j < s.length) (hd : 1 ≤ d ∧ d ≤ 64)
    (hsk : ∀ (j : Nat) (W : World), j < s.length → CallP Tryz.prog 68 #[S s, .int .i64 (j : Int), .int .i64 (d + 1)] W (fun v W' => ∃ k, skipA fk s j = .ok k ∧ v = .int .i64 (k : Int) ∧ Chg [] W W') (fun v W' => ∃ e : Nat, skipA fk s j = .error e ∧ v = .iface 114 (.int .i64 (e : Int)) ∧ Chg [] W W')) :
    CallP Tryz.prog 68 #[S s, .int .i64 (j : Int), .int .i64 d] w (fun v w' => ∃ k, skipA (fk + 1) s j = .ok k ∧ v = .int .i64 (k : Int) ∧ Chg [] w w') (fun v w' => ∃ e : Nat, skipA (fk + 1) s j = .error e ∧ v = .iface 114 (.int .i64 (e : Int)) ∧ Chg [] w w') := by
 refine callP_of_wp (args := [_, _, _]) Tryz.func68 rfl (Nat.le_of_ble_eq_true rfl) ?_;have HC : Chg [] w w := .refl _;refine sr rfl <| aI rfl <| en <| x_seq <| sr rfl <| mI rfl <| Wp rfl <| st_gtr rfl rfl <| en <| x_cond rfl (fun h0 => ?_) (fun h0 => ?_)
 ·try simp only [nm, ne_eq] at h0
  exfalso; omega
 try simp only [nm, ne_eq] at h0
 refine x_skip <| then_n <| sr rfl <| mS rfl <| mI rfl <| Wp rfl <| st_sslo (i := j) T.u116 rfl ⟨_, rfl⟩ q0 <| aS rfl <| en <| x_seq <| x_block <| sr rfl <| mS rfl <| Wp rfl <| st_sidx T.u9 rfl rfl (by decide) (by simp only [List.length_drop]; omega) <| Wp rfl <| st_eql rfl rfl <| aB rfl <| en <| x_cond rfl (fun h1 => ?_) (fun h1 => ?_)
 ·try simp only [nm, ne_eq] at h1
  have hb0 : byte s j = 92 := by rw [← byte_drop0]; exact UInt8.toNat_inj.1 (by show _ = 92; omega)
  refine sr rfl <| mI rfl <| Wp rfl <| st_addn rfl rfl (by constructor <;> omega) <| mS rfl <| Wp rfl <| st_slen (ct := #[116]) T.u116 rfl <| Wp rfl <| st_min rfl rfl <| aI rfl <| en <| x_ret <| block_r <| then_r <| pp_ret <| ret_tmp (v := .int _ _) rfl rfl ?_
  exact ⟨min (j + 2) s.length, skipA_back hj hb0, congrArg (Value.int .i64) q0, HC⟩
 try simp only [nm, ne_eq] at h1
 have hn1 : byte s j ≠ 92 := fun e => h1 (by rw [byte_drop0, e]; rfl)
 refine sr rfl <| mS rfl <| Wp rfl <| st_sidx T.u9 rfl rfl (by decide) (by simp only [List.length_drop]; omega) <| Wp rfl <| st_eql rfl rfl <| aB rfl <| en <| x_cond rfl (fun h2 => ?_) (fun h2 => ?_)
 ·try simp only [nm, ne_eq] at h2
  have hb0 : byte s j = 39 := by rw [← byte_drop0]; exact UInt8.toNat_inj.1 (by show _ = 39; omega)
  refine sr rfl <| mS rfl <| mI rfl <| Wp rfl <| st_addn rfl rfl (by constructor <;> omega) <| w_plain rfl (st_callP (ags := [_, _, _, _]) rfl rfl T.ent84 rfl (run_text s (j + 1) 39 false _ hs q0) ?_ ?_)
  ·rintro _ w1 ⟨he, rfl, c2⟩;replace HC := HC.then c2;refine then_p <| block_p <| then_p <| pp_panic ?_;exact ⟨101, by rw [skipA_quote hj hb0, he]; rfl, rfl, HC⟩
  rintro _ w3 ⟨k, hk, rfl, c4⟩;replace HC := HC.then c4;refine aI rfl <| en <| x_ret <| block_r <| then_r <| pp_ret <| ret_tmp (v := .int _ _) rfl rfl ?_;exact ⟨k, by rw [skipA_quote hj hb0, hk]; rfl, rfl, HC⟩
 try simp only [nm, ne_eq] at h2
 have hn2 : byte s j ≠ 39 := fun e => h2 (by rw [byte_drop0, e]; rfl)
 refine sr rfl <| mS rfl <| Wp rfl <| st_sidx T.u9 rfl rfl (by decide) (by simp only [List.length_drop]; omega) <| Wp rfl <| st_eql rfl rfl <| aB rfl <| en <| x_cond rfl (fun h3 => ?_) (fun h3 => ?_)
 ·try simp only [nm, ne_eq] at h3
  have hb0 : byte s j = 96 := by rw [← byte_drop0]; exact UInt8.toNat_inj.1 (by show _ = 96; omega)
  refine sr rfl <| mS rfl <| mI rfl <| Wp rfl <| st_addn rfl rfl (by constructor <;> omega) <| w_plain rfl (st_callP (ags := [_, _, _, _]) rfl rfl T.ent84 rfl (run_text s (j + 1) 96 true _ hs q0) ?_ ?_)
  ·rintro _ w5 ⟨he, rfl, c6⟩;replace HC := HC.then c6;refine then_p <| block_p <| then_p <| pp_panic ?_;exact ⟨101, by rw [skipA_tick hj hb0, he]; rfl, rfl, HC⟩
  rintro _ w7 ⟨k, hk, rfl, c8⟩;replace HC := HC.then c8;refine aI rfl <| en <| x_ret <| block_r <| then_r <| pp_ret <| ret_tmp (v := .int _ _) rfl rfl ?_;exact ⟨k, by rw [skipA_tick hj hb0, hk]; rfl, rfl, HC⟩
 try simp only [nm, ne_eq] at h3
 have hn3 : byte s j ≠ 96 := fun e => h3 (by rw [byte_drop0, e]; rfl)
 refine sr rfl <| mS rfl <| Wp rfl <| st_sidx T.u9 rfl rfl (by decide) (by simp only [List.length_drop]; omega) <| Wp rfl <| st_eql rfl rfl <| aB rfl <| en <| x_cond rfl (fun h4 => ?_) (fun h4 => ?_)
 ·try simp only [nm, ne_eq] at h4
  have hb0 : byte s j = 34 := by rw [← byte_drop0]; exact UInt8.toNat_inj.1 (by show _ = 34; omega)
  refine sr rfl <| mS rfl <| mI rfl <| Wp rfl <| st_addn rfl rfl (by constructor <;> omega) <| mI rfl <| Wp rfl <| st_call (ags := [_]) rfl rfl T.ent87 rfl (is_spec 34 _) ?_
  rintro _ w9 ⟨bm, rfl, hge, hbm, c10⟩;replace HC := HC.then c10;refine w_plain rfl (st_callP (ags := [_, _, _, _, _]) rfl rfl T.ent85 rfl (until_spec (σ := Unit) (beg := begQ) (fin := finM 34) [] (fun _ _ W => Blk W bm [.int .u8 (34 : Int)] 5) (fun _ _ _ _ h c => h.tr0 c) (fun _ h => h) T.ent86 T.ent108 skip1_spec s (fun _ _ c W _ h => (is1_spec (m := 34) c h).mono fun v W' ⟨h1, h2⟩ => ⟨h1, h.tr0 h2, h2⟩) hs q0 hsk (j + 1) (s.length - (j + 1)) () _ q0 (Nat.le_refl _) hbm) ?_ ?_)
  ·rintro _ w11 ⟨e, he, rfl, c12⟩;replace HC := HC.then c12;refine then_p <| block_p <| then_p <| pp_panic ?_;exact ⟨e, by rw [skipA_double hj hb0]; exact he, rfl, HC⟩
  rintro _ w13 ⟨k, hk, rfl, c14⟩;replace HC := HC.then c14;refine aI rfl <| en <| x_ret <| block_r <| then_r <| pp_ret <| ret_tmp (v := .int _ _) rfl rfl ?_;exact ⟨k, by rw [skipA_double hj hb0]; exact hk, rfl, HC⟩
 try simp only [nm, ne_eq] at h4
 have hn4 : byte s j ≠ 34 := fun e => h4 (by rw [byte_drop0, e]; rfl)
 refine sr rfl <| mS rfl <| Wp rfl <| st_call (ags := [_, _]) rfl rfl T.ent27 rfl (HasPrefix_spec _ _ _) ?_;rintro _ w15 ⟨rfl, c16⟩;replace HC := HC.then c16;refine aB rfl <| en <| x_cond rfl (fun h5 => ?_) (fun h5 => ?_)
 ·try simp only [nm, ne_eq] at h5
  have hp2 := two_of h5;refine sr rfl <| mS rfl <| mI rfl <| Wp rfl <| st_addn rfl rfl (by constructor <;> omega) <| mI rfl <| Wp rfl <| st_call (ags := []) rfl rfl T.ent89 rfl (closing_spec _) ?_
  rintro _ w17 ⟨bm, rfl, hge, hbm, c18⟩;have hgeb : w.heap.size ≤ bm := Nat.le_trans HC.size hge;replace HC := HC.then c18;refine w_plain rfl (st_callP (ags := [_, _, _, _, _]) rfl rfl T.ent85 rfl (until_spec (σ := Int) (beg := fun _ => true) (fin := finC) [bm] (fun j o W => Blk W bm [.int .i64 o] 3 ∧ -(j : Int) ≤ o ∧ o ≤ j) (fun _ _ _ _ h c => ⟨h.1.tr0 c, h.2⟩) (fun hjk h => ⟨h.1, by omega⟩) T.ent88 T.ent109 always_spec s (fun j o c W hj h => (closing1_spec c h.1 q0).mono fun v W' ⟨h1, h2, h3⟩ => ⟨h1, ⟨h2, fin_bound h.2⟩, h3⟩) hs q0 hsk (j + 2) (s.length - (j + 2)) 0 _ q0 (Nat.le_refl _) ⟨hbm, by omega⟩) ?_ ?_)
  ·rintro _ w19 ⟨e, he, rfl, c20⟩;replace HC := HC.then1 c20 hgeb;refine then_p <| block_p <| then_p <| pp_panic ?_;exact ⟨e, by rw [skipA_bracket h5]; exact he, rfl, HC⟩
  rintro _ w21 ⟨k, hk, rfl, c22⟩;replace HC := HC.then1 c22 hgeb;refine aI rfl <| en <| x_ret <| block_r <| then_r <| pp_ret <| ret_tmp (v := .int _ _) rfl rfl ?_;exact ⟨k, by rw [skipA_bracket h5]; exact hk, rfl, HC⟩
 try simp only [nm, ne_eq] at h5
 refine sr rfl <| mS rfl <| Wp rfl <| st_call (ags := [_, _]) rfl rfl T.ent27 rfl (HasPrefix_spec _ _ _) ?_;rintro _ w23 ⟨rfl, c24⟩;replace HC := HC.then c24;refine aB rfl <| en <| x_cond rfl (fun h6 => ?_) (fun h6 => ?_)
 ·try simp only [nm, ne_eq] at h6
  have hp2 := two_of h6;refine sr rfl <| mS rfl <| mI rfl <| Wp rfl <| st_addn rfl rfl (by constructor <;> omega) <| mI rfl <| Wp rfl <| st_call (ags := [_]) rfl rfl T.ent87 rfl (is_spec 125 _) ?_
  rintro _ w25 ⟨bm, rfl, hge, hbm, c26⟩;replace HC := HC.then c26;refine w_plain rfl (st_callP (ags := [_, _, _, _, _]) rfl rfl T.ent85 rfl (until_spec (σ := Unit) (beg := fun _ => true) (fin := finM 125) [] (fun _ _ W => Blk W bm [.int .u8 (125 : Int)] 5) (fun _ _ _ _ h c => h.tr0 c) (fun _ h => h) T.ent88 T.ent108 always_spec s (fun _ _ c W _ h => (is1_spec (m := 125) c h).mono fun v W' ⟨h1, h2⟩ => ⟨h1, h.tr0 h2, h2⟩) hs q0 hsk (j + 2) (s.length - (j + 2)) () _ q0 (Nat.le_refl _) hbm) ?_ ?_)
  ·rintro _ w27 ⟨e, he, rfl, c28⟩;replace HC := HC.then c28;refine then_p <| block_p <| then_p <| pp_panic ?_;exact ⟨e, by rw [skipA_brace h6]; exact he, rfl, HC⟩
  rintro _ w29 ⟨k, hk, rfl, c30⟩;replace HC := HC.then c30;refine aI rfl <| en <| x_ret <| block_r <| then_r <| pp_ret <| ret_tmp (v := .int _ _) rfl rfl ?_;exact ⟨k, by rw [skipA_brace h6]; exact hk, rfl, HC⟩
 try simp only [nm, ne_eq] at h6
 refine x_skip <| block_n <| then_n <| sr rfl <| mI rfl <| Wp rfl <| st_addn rfl rfl (by constructor <;> omega) <| aI rfl <| en <| x_ret <| pp_ret <| ret_tmp (v := .int _ _) rfl rfl ?_
 exact ⟨j + 1, skipA_one hj hn1 hn2 hn3 hn4 h5 h6, rfl, HC⟩
open Go Go.Proofs Go.RowKit
theorem skip_spec (s : Bytes) (hs : s.length < 4294967281) : ∀ (fk : Nat) (j : Nat) (d : Int) (w : World), j < s.length → d = 65 - fk → fk ≤ 64 → CallP Tryz.prog 68 #[S s, .int .i64 (j : Int), .int .i64 d] w (fun v w' => ∃ k, skipA fk s j = .ok k ∧ v = .int .i64 (k : Int) ∧ Chg [] w w') (fun v w' => ∃ e : Nat, skipA fk s j = .error e ∧ v = .iface 114 (.int .i64 (e : Int)) ∧ Chg [] w w')
  | 0, j, d, w, hj, hd, _ => skip_zero s j d w hs hj q0
  | fk + 1, j, d, w, hj, hd, hf => skip_succ s j d w hs hj q0 fun j W hj => skip_spec s hs fk j (d + 1) W hj q0 q0
theorem Skip1_ret {b3 b4 b5 : Nat} (w : World) : CallsDIn Fence.wide 0 Tryz.prog 67 #[.pointer (some ⟨b3, 0, none⟩), .pointer (some ⟨b4, 0, none⟩), .pointer (some ⟨b5, 0, none⟩)] .returning w fun e u w' => (∃ v, e = .returned v ∧ Chg [] w w') ∧ u = .returning := by
 refine callsD_recover (args := [_, _, _]) Tryz.func67 rfl ⟨rfl, rfl, rfl⟩ ⟨rfl, rfl, rfl⟩ ⟨rfl, rfl⟩ (Nat.le_of_ble_eq_true rfl) (.inl ⟨rfl, rfl, rfl⟩) ?_;have HC : Chg [] w w := .refl _;refine sr rfl <| mv (v := .nilIface) rfl <| Wp rfl <| st_ineq0 T.if20 rfl <| en <| x_cond (t := false) rfl (fun h0 => ?_) (fun h0 => ?_)
 · exact absurd h0 (by decide)
 refine x_skip <| ret_none_n rfl ?_;exact HC
theorem Skip1_pan {b3 b4 b5 : Nat} {i e : Int} {x y : Value} (w : World) (hy3 : Blk w b3 [.int .i64 i] 3) (hy4 : Blk w b4 [x] 3) (hy5 : Blk w b5 [y] 31) (h34 : b3 ≠ b4) (h35 : b3 ≠ b5) (h45 : b4 ≠ b5) : CallsDIn Fence.wide 0 Tryz.prog 67 #[.pointer (some ⟨b3, 0, none⟩), .pointer (some ⟨b4, 0, none⟩), .pointer (some ⟨b5, 0, none⟩)] (.panicking (pn (.iface 114 (.int .i64 e)))) w fun en u w' => (∃ v, en = .returned v ∧ Blk w' b4 [.int .i64 i] 3 ∧ Blk w' b5 [.int .i64 e] 31 ∧ Chg [b4, b5] w w') ∧ u = .panicking [{ v := .iface 114 (.int .i64 e), recovered := true }] := by
 have hne34 := h34; have hne35 := h35;refine callsD_recover (args := [_, _, _]) Tryz.func67 rfl ⟨rfl, rfl, rfl⟩ ⟨rfl, rfl, rfl⟩ ⟨rfl, rfl⟩ (Nat.le_of_ble_eq_true rfl) (.inr ⟨_, rfl, rfl, rfl⟩) ?_;have HC : Chg [b4, b5] w w := .refl _;refine sr rfl <| mv (v := .iface _ _) rfl <| Wp rfl <| st_ineq T.if20 rfl <| en <| x_cond (t := true) rfl (fun h0 => ?_) (fun h0 => ?_)
 rotate_left
 · exact absurd h0 (by decide)
 refine sr rfl <| mv (v := .iface _ _) rfl <| Wp rfl <| st_assert (v := .int _ _) T.u114 rfl rfl rfl <| mv (v := .tuple ⟨[_, _]⟩) rfl <| Wp rfl <| st_extract (vs := [_, _]) (v := .int _ _) rfl rfl <| Wp rfl <| st_extract (vs := [_, _]) (v := .bool _) rfl rfl <| aI rfl <| aB rfl <| en <| x_seq <| sr rfl <| mB rfl <| Wp rfl <| st_not rfl <| en <| x_cond rfl (fun h1 => ?_) (fun h1 => ?_)
 ·try simp only [nm, ne_eq] at h1
  exact absurd h1 (by simp)
 try simp only [nm, ne_eq] at h1
 refine x_skip <| then_n <| x_region rfl <| lI T.one3 rfl (hy3.cell rfl) <| mI rfl <| Wp rfl <| st_st (v := .int _ _) T.size3 rfl rfl rfl hy4 ?_;intro w1 c2 hb3; simp only [setVs, setV] at hb3;clear hy4;replace HC := HC.trans c2 q4;replace hy5 := hy5.tr1 c2 q0;refine Wp rfl <| st_st (v := .int _ _) T.size31 rfl rfl rfl hy5 ?_;intro w4 c5 hb6; simp only [setVs, setV] at hb6;clear hy5;replace HC := HC.trans c5 q4;replace hb3 := hb3.tr1 c5 q0;refine wops_nil <| ret_none_n rfl ?_;exact ⟨hb3, hb6, HC⟩
theorem Skip_spec (s : Bytes) (i : Int) (w : World) (hs : s.length < 4294967281) : CallR Tryz.prog 51 #[S s, .int .i64 i] w fun v w' => v = .tuple ⟨[.int .i64 (skipV s i).1, .int .i64 (skipV s i).2]⟩ ∧ Chg [] w w' := by
 refine callR_of_wpD (args := [_, _]) Tryz.func51 rfl (Nat.le_of_ble_eq_true rfl) ?_;have HC : Chg [] w w := .refl _;refine sr rfl <| Wp rfl <| st_box (v := .int _ _) (vs := [_]) rfl rfl ?_;intro b3 w1 e2 c3 hb4;have ge_b3 := gB e2 HC.size;replace HC := HC.then c3;clear e2;refine Wp rfl <| st_alloc T.zero3 ?_;intro b4 w5 e6 c7 hb8;have ge_b4 := gB e6 HC.size;have ne_b3_b4 := nF e6 hb4.ne_size;replace HC := HC.then c7;replace hb4 := hb4.tr0 c7;clear e6;refine Wp rfl <| st_alloc T.zero31 ?_;intro b5 w9 e10 c11 hb12;have ge_b5 := gB e10 HC.size;have ne_b3_b5 := nF e10 hb4.ne_size;have ne_b4_b5 := nF e10 hb8.ne_size;replace HC := HC.then c11;replace hb4 := hb4.tr0 c11;replace hb8 := hb8.tr0 c11;clear e10;refine en <| x_seq <| sr rfl <| lI T.one3 rfl (hb4.cell rfl) <| Wp rfl <| st_lss rfl rfl <| mB rfl <| w_split (d := 8) rfl (fun g13 => ?_) (fun g13 => ?_)
 ·try simp only [nm, ne_eq] at g13
  iterate 4 refine w_no 2 8 false ?_
  refine pT rfl rfl <| en <| x_cond (t := true) rfl (fun h0 => ?_) (fun h0 => ?_)
  rotate_left
  · exact absurd h0 (by decide)
  have hv : skipV s i = (i, 101) := skipV_out q0;refine sr rfl <| lI T.one3 rfl (hb4.cell rfl) <| Wp rfl <| st_st (v := .int _ _) T.size3 rfl rfl rfl hb8 ?_;intro w14 c15 hb16; simp only [setVs, setV] at hb16;clear hb8;replace HC := HC.then1 c15 ge_b4;replace hb12 := hb12.tr1 c15 (Ne.symm ne_b4_b5);refine Wp rfl <| st_st (v := .int _ _) T.size31 rfl rfl rfl hb12 ?_;intro w17 c18 hb19; simp only [setVs, setV] at hb19;clear hb12;replace HC := HC.then1 c18 ge_b5;replace hb16 := hb16.tr1 c18 ne_b4_b5;refine en <| x_ret <| then_r <| d_ret0 <| ret_many (vs := [.int _ _, .int _ _]) rfl ⟨⟨_, _, rfl, run_loadVar1 T.one3 (hb16.cell rfl)⟩, ⟨⟨_, _, rfl, run_loadVar1 T.one31 (hb19.cell rfl)⟩, trivial⟩⟩ (Nat.le_of_ble_eq_true rfl) ?_;exact ⟨by rw [hv], HC⟩
 try simp only [nm, ne_eq] at g13
 refine w_yes 2 8 false <| st_load1 (v := .int _ _) T.one3 rfl (hb4.cell rfl) <| w_yes 2 8 false <| st_move (v := S _) rfl <| w_yes 2 8 false <| st_slen (ct := #[9]) T.u9 rfl <| w_yes 2 8 false <| st_geq rfl rfl <| pF rfl rfl <| en <| x_cond rfl (fun h0 => ?_) (fun h0 => ?_)
 ·try simp only [nm, ne_eq] at h0
  have hv : skipV s i = (i, 101) := skipV_out q0;refine sr rfl <| lI T.one3 rfl (hb4.cell rfl) <| Wp rfl <| st_st (v := .int _ _) T.size3 rfl rfl rfl hb8 ?_;intro w20 c21 hb22; simp only [setVs, setV] at hb22;clear hb8;replace HC := HC.then1 c21 ge_b4;replace hb12 := hb12.tr1 c21 (Ne.symm ne_b4_b5);refine Wp rfl <| st_st (v := .int _ _) T.size31 rfl rfl rfl hb12 ?_;intro w23 c24 hb25; simp only [setVs, setV] at hb25;clear hb12;replace HC := HC.then1 c24 ge_b5;replace hb22 := hb22.tr1 c24 ne_b4_b5;refine en <| x_ret <| then_r <| d_ret0 <| ret_many (vs := [.int _ _, .int _ _]) rfl ⟨⟨_, _, rfl, run_loadVar1 T.one3 (hb22.cell rfl)⟩, ⟨⟨_, _, rfl, run_loadVar1 T.one31 (hb25.cell rfl)⟩, trivial⟩⟩ (Nat.le_of_ble_eq_true rfl) ?_;exact ⟨by rw [hv], HC⟩
 try simp only [nm, ne_eq] at h0
 obtain ⟨j, rfl⟩ : ∃ j : Nat, i = j := ⟨i.toNat, by omega⟩
 refine x_skip <| then_n <| sr rfl <| Wp rfl <| st_makeFunc <| Wp rfl <| st_defer (cap := #[.pointer (some ⟨b3, 0, none⟩), .pointer (some ⟨b4, 0, none⟩), .pointer (some ⟨b5, 0, none⟩)]) rfl rfl rfl <| en <| sr rfl <| mS rfl <| lI T.one3 rfl (hb4.cell rfl) <| w_plain rfl (st_callP (ags := [_, _, _]) rfl rfl T.ent68 rfl (skip_spec s hs 64 j 1 _ q0 q0 q0) ?_ ?_)
 ·rintro _ w26 ⟨e, he, rfl, c27⟩;have hv := skipV_err q0 he;replace HC := HC.then c27;replace hb4 := hb4.tr0 c27;replace hb8 := hb8.tr0 c27;replace hb12 := hb12.tr0 c27;refine then_p <| d_panic (xs := #[.pointer (some ⟨b3, 0, none⟩), .pointer (some ⟨b4, 0, none⟩), .pointer (some ⟨b5, 0, none⟩)]) T.ent67 (by simp) <| CallsDIn.mono (Skip1_pan _ hb4 hb8 hb12 ne_b3_b4 ne_b3_b5 ne_b4_b5) ?_
  rintro _ _ w28 ⟨⟨v9, rfl, hq4, hq5, c29⟩, rfl⟩;refine ⟨⟨v9, rfl⟩, rfl, ?_⟩;replace HC := HC.trans c29 (by intro x hx; simp only [List.mem_cons, List.mem_nil_iff, or_false] at hx; rcases hx with h1 | h1 <;> first | (left; simp [h1]; done) | (right; rw [h1]; omega))
  refine ret_many (vs := [.int _ _, .int _ _]) rfl ⟨⟨_, _, rfl, run_loadVar1 T.one3 (hq4.cell rfl)⟩, ⟨⟨_, _, rfl, run_loadVar1 T.one31 (hq5.cell rfl)⟩, trivial⟩⟩ (Nat.le_of_ble_eq_true rfl) ?_;exact ⟨by rw [hv], HC⟩
 rintro _ w30 ⟨k, hk, rfl, c31⟩;have hv := skipV_ok q0 hk;replace HC := HC.then c31;replace hb8 := hb8.tr0 c31;replace hb12 := hb12.tr0 c31;refine Wp rfl <| st_st (v := .int _ _) T.size3 rfl rfl rfl hb8 ?_;intro w32 c33 hb34; simp only [setVs, setV] at hb34;clear hb8;replace HC := HC.then1 c33 ge_b4;replace hb12 := hb12.tr1 c33 (Ne.symm ne_b4_b5);refine Wp rfl <| st_st (v := .int _ _) T.size31 rfl rfl rfl hb12 ?_;intro w35 c36 hb37; simp only [setVs, setV] at hb37;clear hb12;replace HC := HC.then1 c36 ge_b5;replace hb34 := hb34.tr1 c36 ne_b4_b5;refine en <| x_ret <| d_ret (xs := #[.pointer (some ⟨b3, 0, none⟩), .pointer (some ⟨b4, 0, none⟩), .pointer (some ⟨b5, 0, none⟩)]) T.ent67 (by simp) <| CallsDIn.mono (Skip1_ret _) ?_
 rintro _ _ w38 ⟨⟨v9, rfl, c39⟩, rfl⟩;refine ⟨⟨v9, rfl⟩, rfl, ?_⟩;replace HC := HC.then c39;replace hb34 := hb34.tr0 c39;replace hb37 := hb37.tr0 c39;refine ret_many (vs := [.int _ _, .int _ _]) rfl ⟨⟨_, _, rfl, run_loadVar1 T.one3 (hb34.cell rfl)⟩, ⟨⟨_, _, rfl, run_loadVar1 T.one31 (hb37.cell rfl)⟩, trivial⟩⟩ (Nat.le_of_ble_eq_true rfl) ?_;exact ⟨by rw [hv], HC⟩
open Go Go.RowKit
structure Prt where
  kind : Int
  text : Bytes
  name : Bytes
  op : Bytes
  word : Bytes
  quoted : Bool
deriving DecidableEq
open Go Go.Proofs Go.RowKit
open Go Go.RowKit
variable {P : Program} {X : Value → World → Prop} {r : Option Nat} {n : Nat} {l : List Oper} {Q : Post} {ds : List Deferred}
inductive OT
  | stop
  | nil
  | br (i : Nat) (qs : List Nat) (sub next : OT)
  | bar (i : Nat) (xs qs : List Nat) (sub : OT)
def OT.heads : OT → List Nat
  | .br i _ _ next => i :: next.heads
  | .bar i _ _ _ => [i]
  | _ => []
def z0 (qs : List Nat) : List (Nat × Nat) := qs.map (·, 0)
def sameAll (P : Program) (l : List Oper) (E : Env) (T0 : World → Prop) : List Nat → Prop
  | [] => True
  | j :: xs => (∀ o, l[j]? = some o → ∃ v, (∀ w' : World, T0 w' → opR P l o E w' v) ∧ updo E o.dst v = E) ∧ sameAll P l E T0 xs
theorem same_of {E : Env} {T0 : World → Prop} {j : Nat} : ∀ {xs : List Nat}, sameAll P l E T0 xs → j ∈ xs → ∀ o, l[j]? = some o → ∃ v, (∀ w' : World, T0 w' → opR P l o E w' v) ∧ updo E o.dst v = E
  | [], _, h => by cases h
  | k :: xs, hs, h => by
    rcases List.mem_cons.1 h with rfl | h
    · exact hs.1
    exact same_of hs.2 h
def treeQ (P : Program) (X : Value → World → Prop) (l : List Oper) (K : Env → World → Prop) : OT → (World → Prop) → Env → World → Prop
  | .stop, T, E, w => K E w
  | .nil, T, E, w => True
  | .br i qs sub next, T, E, w => seqP P X l (fun T' E' w2 => treeQ P X l K sub T' E' w2) ((i, 1) :: z0 qs) T E w ∧ treeQ P X l K next T E w
  | .bar i xs qs sub, T, E, w => ∃ T0 : World → Prop, T0 w ∧ sameAll P l E T0 xs ∧ seqP P X l (fun T' E' w2 => treeQ P X l K sub T' E' w2) ((i, 1) :: z0 qs) T0 E w
def barOK (l : List Oper) (i : Nat) (xs seen : List Nat) : Bool := match l[i]? with
  | some o => seen.all fun j => xs.contains j || (clo l seen (dps o)).contains j
  | none => false
def cover (l : List Oper) (t : OT) (seen : List Nat) : Bool := match t with
  | .stop => (List.range l.length).all fun j => seen.contains j
  | .nil => false
  | t => (List.range l.length).all fun j => seen.contains j || t.heads.contains j || (match l[j]? with | some o => (dps o).any fun d => !seen.contains d | none => true)
def treeOK (l : List Oper) : OT → List Nat → Bool
  | .br i qs sub next, seen => chainOK l ((i, 1) :: z0 qs) seen none && cover l sub (qs.reverse ++ i :: seen) && treeOK l sub (qs.reverse ++ i :: seen) && treeOK l next seen
  | .bar i xs qs sub, seen => chainOK l ((i, 1) :: z0 qs) seen none && cover l sub (qs.reverse ++ i :: seen) && treeOK l sub (qs.reverse ++ i :: seen) && barOK l i xs seen
  | _, _ => true
theorem z0_mem {qs : List Nat} {i : Nat} : i ∈ (z0 qs).map (·.1) ↔ i ∈ qs := by
  unfold z0; rw [List.map_map]; simp [Function.comp_def]
theorem br_of {K : Env → World → Prop} {T : World → Prop} {E : Env} {w : World} {i : Nat} {seen : List Nat} : ∀ {t : OT}, treeOK l t seen = true → treeQ P X l K t T E w → i ∈ t.heads → ∃ qs sub T0, chainOK l ((i, 1) :: z0 qs) seen none = true ∧ cover l sub (qs.reverse ++ i :: seen) = true ∧ treeOK l sub (qs.reverse ++ i :: seen) = true ∧
      seqP P X l (fun T' E' w2 => treeQ P X l K sub T' E' w2) ((i, 1) :: z0 qs) T0 E w ∧ (T0 = T ∨ ∃ xs, (barOK l i xs seen = true ∧ sameAll P l E T0 xs ∧ T0 w))
  | .stop, _, _, h => by simp [OT.heads] at h
  | .nil, _, _, h => by simp [OT.heads] at h
  | .br j qs sub next, hk, hq, h => by
    simp only [treeOK, Bool.and_eq_true] at hk
    obtain ⟨⟨⟨k1, k2⟩, k3⟩, k4⟩ := hk;obtain ⟨q1, q2⟩ := hq
    rcases List.mem_cons.1 (show i ∈ j :: next.heads from h) with rfl | h
    · exact ⟨qs, sub, T, k1, k2, k3, q1, .inl rfl⟩
    exact br_of k4 q2 h
  | .bar j xs qs sub, hk, hq, h => by
    simp only [treeOK, Bool.and_eq_true] at hk
    obtain ⟨⟨⟨k1, k2⟩, k3⟩, k4⟩ := hk;obtain rfl : i = j := List.mem_singleton.1 (show i ∈ [j] from h);obtain ⟨T0, hq0, hq1, hq2⟩ := hq;exact ⟨qs, sub, T0, k1, k2, k3, hq2, .inr ⟨xs, k4, hq1, hq0⟩⟩
section main
variable (E0 : Env) (hpl : l.all plainOp = true) (hds : dstsOK l = true)
include hpl hds in
theorem advance0 {K : (World → Prop) → Env → World → Prop} : ∀ (qs : List Nat) (seen eff : List Nat) (lay : Option (List Nat)) (T : World → Prop) (V G : Env) (L : Nat → Prop) (w : World),
    chainOK l (z0 qs) seen lay = true → seqP P X l K (z0 qs) T V w → Inv P l E0 seen eff T V G L w → SeenOK l seen → (∀ i, i ∈ qs → ¬ L i ∧ i ∉ eff) →
    ∃ V', K T V' w ∧ Inv P l E0 (qs.reverse ++ seen) eff T V' G L w ∧ SeenOK l (qs.reverse ++ seen)
  | [], seen, eff, lay, T, V, G, L, w, hc, hs, hI, hS, hN => ⟨V, hs, hI, hS⟩
  | i :: rest, seen, eff, lay, T, V, G, L, w, hc, hs, hI, hS, hN => by
      obtain ⟨o, he, hc', _⟩ := chain_elem (f := 0) (rest := z0 rest) hc;obtain ⟨v, hrun, hs'⟩ := hs o he.at_
      have hop : ∀ t, t ∈ atmps l o → ∀ d, o.dst = some d → t ≠ d := by
        intro t ht d hd htd;subst htd;have h1 := List.all_eq_true.1 (List.all_eq_true.1 he.writers t ht) i (List.mem_range.2 (List.getElem?_eq_some_iff.1 he.at_).1);simp only [he.at_, hd, bne_self_eq_false, Bool.false_or, List.contains_iff_mem] at h1;exact he.new (he.back i h1)
      have hpo : plainOp o = true := List.all_eq_true.1 hpl o (List.mem_of_getElem? he.at_);have hnL := (hN i (by simp)).1
      have hne := (hN i (by simp)).2
      have hrun' : ∀ w', T w' → opR P l o (updo V o.dst v) w' v := fun w' hT => by
        refine opR_congr hpo (E := V) (fun t ht => ?_) (hrun w' hT)
        cases hd : o.dst with
        | none => rfl
        | some d => exact (upd_other _ _ _ _ (hop t ht d hd)).symm
      have hI' : Inv P l E0 (i :: seen) eff T (updo V o.dst v) G L w := by
        refine ⟨fun j hj => by simp [hI.sub j hj], hI.done, fun j hj hjn p hp => ?_, fun j p d hj hp hd => ?_, hI.rest, fun t ht => ?_, hI.here, hI.down⟩
        · rcases List.mem_cons.1 hj with rfl | hj'
          · rw [he.at_] at hp; cases hp
            exact ⟨v, hrun', updo_same fun k hk => updo_get k hk⟩
          obtain ⟨u, h1, h2⟩ := hI.quiet j hj' hjn p hp;have hji : i ≠ j := fun e => he.new (by rw [e]; exact hj')
          have hpp : plainOp p = true := List.all_eq_true.1 hpl p (List.mem_of_getElem? hp)
          have hnw : ∀ t, t ∈ atmps l p → o.dst ≠ some t := by
            intro t ht hd
            have : ∀ (sn : List Nat), SeenOK l sn → j ∈ sn → i ∈ sn := by
              intro sn
              induction sn with
              | nil => intro _ h; simp at h
              | cons x b ih =>
                intro hs hjm
                rcases List.mem_cons.1 hjm with rfl | hjm'
                · obtain ⟨p', hp', hb0, hb⟩ := hs.1;rw [hp] at hp'; cases hp';exact List.mem_cons_of_mem _ (hb0 _ (hb t ht i o he.at_ hd))
                exact List.mem_cons_of_mem _ (ih hs.2 hjm')
            exact he.new (this seen hS hj')
          refine ⟨u, fun w' hT => ?_, ?_⟩
          · exact opR_congr hpp (E := V) (fun t ht => (updo_ne t (hnw t ht)).symm) (h1 w' hT)
          refine updo_same fun k hk => ?_
          rw [updo_ne k (fun hd => dst_ne (l := l) hds he.at_ hp hji hd hk)]
          rw [← h2]; exact updo_get k hk
        · have := hI.at_ j p d hj hp hd;rw [this, updo_ne d (fun hd' => dst_ne (l := l) hds he.at_ hp (fun e => hnL (by rw [e]; exact hj)) hd' hd)]
        rw [updo_ne t (fun hd => ht i o (by simp) he.at_ hd)]
        exact hI.virt t fun j p hj hp => ht j p (by simp [hj]) hp
      obtain ⟨V', q1, q2, q3⟩ := advance0 rest (i :: seen) eff _ T _ G L w hc' hs' hI' ⟨⟨o, he.at_, he.back, he.seenW⟩, hS⟩ (fun j hj => hN j (List.mem_cons_of_mem _ hj))
      have e : (i :: rest).reverse ++ seen = rest.reverse ++ (i :: seen) := by simp
      rw [e]; exact ⟨V', q1, q2, q3⟩
include hpl hds in
theorem any_of_tree {K : Env → World → Prop} (hK : ∀ E w, K E w → Q .normal E ds w) (hXQ : ∀ v w', X v w' → ∀ E', Q (.panic [{ v := v, recovered := false }]) E' ds w') : ∀ (fuel : Nat) (t : OT) (seen eff : List Nat) (T : World → Prop) (V : Env) (listed : Array Bool) (w : World) (a : Act),
    cnt l.length listed ≤ fuel → listed.size = l.length → a.tmps.size = n → a.defers = ds → l.all (okd n) = true →
    treeOK l t seen = true → cover l t seen = true → treeQ P X l K t T V w → Inv P l E0 seen eff T V (env a) (fun i => i < l.length ∧ listed.getD i true = true) w → SeenOK l seen →
    wpAnyIn (WF r) 0 P .any l.toArray (toQ n Q) fuel listed a w := by
  intro fuel
  induction fuel with
  | zero =>
    intro t seen eff T V listed w a hcnt hsz hn hd hok hc hv hs hI hS;have hz := cnt_zero (Nat.le_zero.1 hcnt)
    have hrd : Region.ready .any l.toArray listed = [] := by
      cases hr : Region.ready .any l.toArray listed with
      | nil => rfl
      | cons x xs =>
        have hx : x ∈ Region.ready .any l.toArray listed := by rw [hr]; simp
        obtain ⟨h1, o, ho, _⟩ := mem_ready.1 hx;have hlt : x < l.length := by have := (Array.getElem?_eq_some_iff.1 ho).1; simpa using this
        rw [hz x hlt] at h1; cases h1
    have ht : t = .stop := by
      cases t with
      | stop => rfl
      | nil => simp [cover] at hv
      | br i qs sub next =>
        obtain ⟨qs', sub', T0, h1, _⟩ := br_of (i := i) hc hs (by simp [OT.heads])
        obtain ⟨o, he, _⟩ := chain_elem h1;have hlt : i < l.length := (List.getElem?_eq_some_iff.1 he.at_).1;exact absurd (hI.sub i ⟨hlt, hz i hlt⟩) he.new
      | bar i xs qs sub =>
        obtain ⟨qs', sub', T0, h1, _⟩ := br_of (i := i) hc hs (by simp [OT.heads])
        obtain ⟨o, he, _⟩ := chain_elem h1;have hlt : i < l.length := (List.getElem?_eq_some_iff.1 he.at_).1;exact absurd (hI.sub i ⟨hlt, hz i hlt⟩) he.new
    subst ht
    refine ⟨hrd, hn, ?_⟩
    have hGV : env a = V := by
      funext t
      by_cases hx : ∃ (i : Nat) (o : Oper), l[i]? = some o ∧ o.dst = some t
      · obtain ⟨i, o, hi, ho⟩ := hx;have hlt : i < l.length := (List.getElem?_eq_some_iff.1 hi).1;exact hI.at_ i o t ⟨hlt, hz i hlt⟩ hi ho
      have hx' : ∀ (i : Nat) (o : Oper), l[i]? = some o → o.dst ≠ some t := fun i o hi ho => hx ⟨i, o, hi, ho⟩
      rw [hI.rest t (fun i o _ hi => hx' i o hi), hI.virt t (fun i o _ hi => hx' i o hi)]
    rw [hGV, hd]
    exact hK _ _ hs
  | succ fuel ih =>
    intro t seen eff T V listed w a hcnt hsz hn hd hok hc hv hs hI hS
    have hlf : ∀ i, listed.getD i true = true → i < l.length → listed.getD i false = true := fun i h hlt => by
      rw [Array.getD_eq_getD_getElem?, Array.getElem?_eq_getElem (by omega)] at h ⊢; simpa using h
    have hft : ∀ i, listed.getD i false = true → i < l.length ∧ listed.getD i true = true := fun i h => by
      rcases Nat.lt_or_ge i listed.size with hl | hl
      · refine ⟨by omega, ?_⟩
        rw [Array.getD_eq_getD_getElem?, Array.getElem?_eq_getElem hl] at h ⊢; simpa using h
      simp [Array.getD_eq_getD_getElem?, Array.getElem?_eq_none hl] at h
    have hset : ∀ i, i < l.length → (listed.setIfInBounds i true).getD i true = true := fun i hi => by simp [Array.getD_eq_getD_getElem?, show i < listed.size by omega]
    have hseenlt : ∀ (sn : List Nat), SeenOK l sn → ∀ i, i ∈ sn → i < l.length := by
      intro sn
      induction sn with
      | nil => intro _ i h; simp at h
      | cons x b ihb =>
        intro hs i hi
        rcases List.mem_cons.1 hi with rfl | hi'
        · obtain ⟨o, ho, _⟩ := hs.1;exact (List.getElem?_eq_some_iff.1 ho).1
        exact ihb hs.2 i hi'
    have hun' : ∀ i, i < l.length → i ∉ seen → listed.getD i true = false := fun i hlt hns => by
      cases hvv : listed.getD i true with
      | false => rfl
      | true => exact absurd (hI.sub i ⟨hlt, hvv⟩) hns
    refine ⟨fun hrd => ?_, fun i hi => ?_⟩
    · have hseen : ∀ i, i ∈ seen → listed.getD i true = true := by
        intro i hi
        cases hv : listed.getD i true with
        | true => rfl
        | false =>
          obtain ⟨j, hj⟩ := seen_ready listed seen hS ⟨i, hi, hv⟩ (fun k hk h => hlf k h (hseenlt seen hS k hk))
          rw [hrd] at hj; simp at hj
      have hno : ∀ c, c ∈ t.heads → False := fun c hcm => by
          obtain ⟨qs', sub', T0, h1, _⟩ := br_of (i := c) hc hs hcm;obtain ⟨o, he, _⟩ := chain_elem h1;have hlt : c < l.length := (List.getElem?_eq_some_iff.1 he.at_).1
          have hcr : c ∈ Region.ready .any l.toArray listed := mem_ready.2 ⟨hun' c hlt he.new, o, by simpa using he.at_, fun e hme hb => by
            have hj : e.on ∈ dps o := List.mem_map.2 ⟨e, List.mem_filter.2 ⟨by simpa using hme, hb⟩, rfl⟩
            have := he.back _ hj;exact hlf _ (hseen _ this) (hseenlt seen hS _ this)⟩
          rw [hrd] at hcr; simp at hcr
      have ht : t = .stop := by
        cases t with
        | stop => rfl
        | nil => simp [cover] at hv
        | br c qs sub next => exact (hno c (by simp [OT.heads])).elim
        | bar c xs qs sub => exact (hno c (by simp [OT.heads])).elim
      subst ht
      refine ⟨hn, ?_⟩
      have hz : ∀ i, i < l.length → listed.getD i true = true := fun i hi => by
        have := List.all_eq_true.1 hv i (List.mem_range.2 hi);exact hseen i (by simpa using this)
      have hGV : env a = V := by
        funext t
        by_cases hx : ∃ (i : Nat) (o : Oper), l[i]? = some o ∧ o.dst = some t
        · obtain ⟨i, o, hi, ho⟩ := hx;have hlt : i < l.length := (List.getElem?_eq_some_iff.1 hi).1;exact hI.at_ i o t ⟨hlt, hz i hlt⟩ hi ho
        have hx' : ∀ (i : Nat) (o : Oper), l[i]? = some o → o.dst ≠ some t := fun i o hi ho => hx ⟨i, o, hi, ho⟩
        rw [hI.rest t (fun i o _ hi => hx' i o hi), hI.virt t (fun i o _ hi => hx' i o hi)]
      rw [hGV, hd]
      exact hK _ _ hs
    obtain ⟨hun, o, ho, _⟩ := mem_ready.1 hi;have ho : l[i]? = some o := by simpa using ho
    have hlt : i < l.length := (List.getElem?_eq_some_iff.1 ho).1;have hdp := ready_dps hi ho;have hpo : plainOp o = true := List.all_eq_true.1 hpl o (List.mem_of_getElem? ho)
    have hokd : ∀ k, o.dst = some k → k < a.tmps.size := fun k hk => by
      have := List.all_eq_true.1 hok o (List.mem_of_getElem? ho);simp only [okd, hk] at this; rw [hn]; simpa [Nat.blt_eq] using this
    have hcnt' : cnt l.length (listed.setIfInBounds i true) ≤ fuel := by have := cnt_set hsz hun; omega
    have hsz' : (listed.setIfInBounds i true).size = l.length := by simpa using hsz
    have hL' : ∀ j, (j < l.length ∧ (listed.setIfInBounds i true).getD j true = true) ↔ (j = i ∨ (j < l.length ∧ listed.getD j true = true)) := fun j => by
      by_cases e : j = i
      · subst e; simp [hlt, hset j hlt]
      rw [getD_set_ne true (Ne.symm e)]; simp [e]
    by_cases hse : i ∈ seen
    · -- a quiet operation
      have hie : i ∉ eff := fun h => by have := (hI.done i h).2; rw [hun] at this; cases this
      obtain ⟨v, hrun, hvv⟩ := hI.quiet i hse hie o ho
      have hopr : ∀ t, t ∈ atmps l o → env a t = V t := by
        intro t ht
        by_cases hx : ∃ (j : Nat) (p : Oper), l[j]? = some p ∧ p.dst = some t
        · obtain ⟨j, p, hj, hp2⟩ := hx
          have : ∀ (sn : List Nat), SeenOK l sn → i ∈ sn → j ∈ dps o := by
            intro sn
            induction sn with
            | nil => intro _ h; simp at h
            | cons x b ihb =>
              intro hs hjm
              rcases List.mem_cons.1 hjm with rfl | hjm'
              · obtain ⟨p', hp', _, hb⟩ := hs.1;rw [ho] at hp'; cases hp';exact hb t ht j p hj hp2
              exact ihb hs.2 hjm'
          exact hI.at_ j p t (hft j (hdp j (this seen hS hse))) hj hp2
        have hx' : ∀ (j : Nat) (p : Oper), l[j]? = some p → p.dst ≠ some t := fun j p hj hp => hx ⟨j, p, hj, hp⟩
        rw [hI.rest t (fun i o _ hi => hx' i o hi), hI.virt t (fun i o _ hi => hx' i o hi)]
      have hgo : wpAnyIn (WF r) 0 P .any l.toArray (toQ n Q) fuel (listed.setIfInBounds i true) (a.put o.dst v) w → wpOpIn (WF r) 0 P l.toArray (toQ n Q) i (wpAnyIn (WF r) 0 P .any l.toArray (toQ n Q) fuel (listed.setIfInBounds i true)) a w := fun hk => by
        refine wpOpIn_eff (E := V) (by simpa using ho) hpo hopr (fun v w' hx => ⟨hn, by rw [hd]; exact hXQ v w' hx _⟩) ?_
        rcases hrun w hI.here with ⟨hw, hr⟩ | ⟨hw, rfl⟩
        · exact .inl ⟨hw, .inl ⟨v, w, hr, hk⟩⟩
        exact .inr ⟨hw, hk⟩
      refine hgo ?_;refine ih t seen eff T V _ w _ hcnt' hsz' (by rw [put_size]; exact hn) (by rw [put_defers]; exact hd) hok hc hv hs ?_ hS
      rw [env_puto _ _ _ hokd]
      refine ⟨fun j hj => ?_, fun j hj => (hL' j).2 (.inr (hI.done j hj)), hI.quiet, fun j p d hj hp' hd' => ?_, fun t ht => ?_, hI.virt, hI.here, fun j p hj hp' k hk => ?_⟩
      · rcases (hL' j).1 hj with rfl | h
        · exact hse
        exact hI.sub j h
      · rcases (hL' j).1 hj with rfl | h
        · rw [ho] at hp'; cases hp'
          rw [updo_get d hd', ← hvv]; exact (updo_get d hd').symm
        have hji : i ≠ j := fun e => by subst e; rw [hun] at h; cases h.2
        rw [updo_ne d (fun e => dst_ne (l := l) hds ho hp' hji e hd')]
        exact hI.at_ j p d h hp' hd'
      · rw [updo_ne t (ht i o ((hL' i).2 (.inl rfl)) ho)]
        exact hI.rest t fun j p hj hp' => ht j p ((hL' j).2 (.inr hj)) hp'
      rcases (hL' j).1 hj with rfl | h
      · rw [ho] at hp'; cases hp'
        exact (hL' k).2 (.inr (hft k (hdp k hk)))
      exact (hL' k).2 (.inr (hI.down j p h hp' k hk))
    -- one of the next effects
    have hds' : ∀ j, j ∈ dps o → j ∈ seen := fun j hj => hI.sub j (hft j (hdp j hj))
    have hhd : i ∈ t.heads := by
      cases t with
      | stop =>
        have := List.all_eq_true.1 hv i (List.mem_range.2 hlt);exact absurd (by simpa using this) hse
      | nil => simp [cover] at hv
      | br c qs sub next =>
        have h1 := List.all_eq_true.1 hv i (List.mem_range.2 hlt);simp only [ho, Bool.or_eq_true, List.contains_iff_mem] at h1
        rcases h1 with (h1 | h1) | h1
        · exact absurd h1 hse
        · exact h1
        obtain ⟨d, hd1, hd2⟩ := List.any_eq_true.1 h1;have := hds' d hd1;simp [this] at hd2
      | bar c xs qs sub =>
        have h1 := List.all_eq_true.1 hv i (List.mem_range.2 hlt);simp only [ho, Bool.or_eq_true, List.contains_iff_mem] at h1
        rcases h1 with (h1 | h1) | h1
        · exact absurd h1 hse
        · exact h1
        obtain ⟨d, hd1, hd2⟩ := List.any_eq_true.1 h1;have := hds' d hd1;simp [this] at hd2
    obtain ⟨rr, sub, T0, hch, hcv, hto, hsq, hT0⟩ := br_of hc hs hhd;obtain ⟨o', he, hc', _⟩ := chain_elem hch;rw [he.at_] at ho; cases ho;have hopr : ∀ t, t ∈ atmps l o → env a t = V t := hI.operands E0 he.at_ he.writers (fun j hj => hft j (hdp j hj))
    obtain ⟨eff', hesub, hedone, hequiet⟩ : ∃ eff' : List Nat, (∀ j, j ∈ eff' → j ∈ i :: seen) ∧ (∀ j, j ∈ eff' → (j < l.length ∧ (listed.setIfInBounds i true).getD j true = true)) ∧
        (∀ (T' : World → Prop) (v : Value), (∀ x, T' x → T0 x) → ∀ j, j ∈ i :: seen → j ∉ eff' → ∀ p, l[j]? = some p → ∃ u, (∀ w', T' w' → opR P l p (updo V o.dst v) w' u) ∧ updo (updo V o.dst v) p.dst u = updo V o.dst v) := by
      rcases hT0 with rfl | ⟨xs, hbar, hsame, _⟩
      · refine ⟨i :: eff, fun j hj => ?_, fun j hj => ?_, fun T' v hT j hj hjn p hp' => ?_⟩
        · rcases List.mem_cons.1 hj with rfl | h
          · simp
          simp [hI.sub j (hI.done j h)]
        · rcases List.mem_cons.1 hj with rfl | h
          · exact (hL' j).2 (.inl rfl)
          exact (hL' j).2 (.inr (hI.done j h))
        have hji : j ≠ i := fun e => hjn (by simp [e])
        have hjs : j ∈ seen := by simpa [hji] using hj
        obtain ⟨u, h1, h2⟩ := hI.quiet j hjs (fun h => hjn (by simp [h])) p hp'
        have hpp : plainOp p = true := List.all_eq_true.1 hpl p (List.mem_of_getElem? hp')
        have hnw : ∀ t, t ∈ atmps l p → o.dst ≠ some t := by
          intro t ht hd'
          have : ∀ (sn : List Nat), SeenOK l sn → j ∈ sn → i ∈ sn := by
            intro sn
            induction sn with
            | nil => intro _ h; simp at h
            | cons x b ihb =>
              intro hs hjm
              rcases List.mem_cons.1 hjm with rfl | hjm'
              · obtain ⟨p', hp'', hb0, hb⟩ := hs.1;rw [hp'] at hp''; cases hp'';exact List.mem_cons_of_mem _ (hb0 _ (hb t ht i o he.at_ hd'))
              exact List.mem_cons_of_mem _ (ihb hs.2 hjm')
          exact he.new (this seen hS hjs)
        refine ⟨u, fun x hx => ?_, ?_⟩
        · exact opR_congr hpp (E := V) (fun t ht => (updo_ne t (hnw t ht)).symm) (h1 x (hT x hx))
        refine updo_same fun k hk => ?_
        rw [updo_ne k (fun hd' => dst_ne (l := l) hds he.at_ hp' (Ne.symm hji) hd' hk)]
        rw [← h2]; exact updo_get k hk
      refine ⟨i :: seen.filter (fun j => !xs.contains j), fun j hj => ?_, fun j hj => ?_, fun T' v hT j hj hjn p hp' => ?_⟩
      · rcases List.mem_cons.1 hj with rfl | h
        · simp
        exact List.mem_cons_of_mem _ (List.mem_filter.1 h).1
      · rcases List.mem_cons.1 hj with rfl | h
        · exact (hL' j).2 (.inl rfl)
        obtain ⟨h, hx⟩ := List.mem_filter.1 h
        unfold barOK at hbar; rw [he.at_] at hbar
        have hcl := List.all_eq_true.1 hbar j h;rw [Bool.or_eq_true] at hcl
        have hcl : j ∈ clo l seen (dps o) := by
          rcases hcl with hcl | hcl
          · rw [hcl] at hx; cases hx
          simpa using hcl
        exact (hL' j).2 (.inr (clo_listed (l := l) hI.down seen _ (fun k hk => hft k (hdp k hk)) j hcl))
      have hji : j ≠ i := fun e => hjn (by simp [e])
      have hjs : j ∈ seen := by simpa [hji] using hj
      have hjx : j ∈ xs := by
        cases hx : xs.contains j with
        | true => simpa using hx
        | false => exact absurd (List.mem_cons_of_mem _ (List.mem_filter.2 ⟨hjs, by rw [hx]; rfl⟩)) hjn
      obtain ⟨u, h1, h2⟩ := same_of hsame hjx p hp';have hpp : plainOp p = true := List.all_eq_true.1 hpl p (List.mem_of_getElem? hp')
      have hnw : ∀ t, t ∈ atmps l p → o.dst ≠ some t := by
        intro t ht hd'
        have : ∀ (sn : List Nat), SeenOK l sn → j ∈ sn → i ∈ sn := by
          intro sn
          induction sn with
          | nil => intro _ h; simp at h
          | cons x b ihb =>
            intro hs hjm
            rcases List.mem_cons.1 hjm with rfl | hjm'
            · obtain ⟨p', hp'', hb0, hb⟩ := hs.1;rw [hp'] at hp''; cases hp'';exact List.mem_cons_of_mem _ (hb0 _ (hb t ht i o he.at_ hd'))
            exact List.mem_cons_of_mem _ (ihb hs.2 hjm')
        exact he.new (this seen hS hjs)
      refine ⟨u, fun x hx => ?_, ?_⟩
      · exact opR_congr hpp (E := V) (fun t ht => (updo_ne t (hnw t ht)).symm) (h1 x (hT x hx))
      refine updo_same fun k hk => ?_
      rw [updo_ne k (fun hd' => dst_ne (l := l) hds he.at_ hp' (Ne.symm hji) hd' hk)]
      rw [← h2]; exact updo_get k hk
    have hbase : ∀ (v : Value) (T' : World → Prop) (w' : World), (∀ x, T' x → T0 x) → T' w' →
        Inv P l E0 (i :: seen) eff' T' (updo V o.dst v) (env (a.put o.dst v)) (fun j => j < l.length ∧ (listed.setIfInBounds i true).getD j true = true) w' := by
      intro v T' w' hT hTw;rw [env_puto _ _ _ hokd];refine ⟨fun j hj => ?_, hedone, hequiet T' v hT, fun j p d hj hp' hd' => ?_, fun t ht => ?_, fun t ht => ?_, hTw, fun j p hj hp' k hk => ?_⟩
      · rcases (hL' j).1 hj with rfl | h
        · simp
        simp [hI.sub j h]
      · rcases (hL' j).1 hj with rfl | h
        · rw [he.at_] at hp'; cases hp'
          rw [updo_get d hd', updo_get d hd']
        have hji : i ≠ j := fun e => by subst e; rw [hun] at h; cases h.2
        rw [updo_ne d (fun e => dst_ne (l := l) hds he.at_ hp' hji e hd'), updo_ne d (fun e => dst_ne (l := l) hds he.at_ hp' hji e hd')]
        exact hI.at_ j p d h hp' hd'
      · rw [updo_ne t (ht i o ((hL' i).2 (.inl rfl)) he.at_)]
        exact hI.rest t fun j p hj hp' => ht j p ((hL' j).2 (.inr hj)) hp'
      · rw [updo_ne t (ht i o (by simp) he.at_)]
        exact hI.virt t fun j p hj hp' => ht j p (by simp [hj]) hp'
      rcases (hL' j).1 hj with rfl | h
      · rw [he.at_] at hp'; cases hp'
        exact (hL' k).2 (.inr (hft k (hdp k hk)))
      exact (hL' k).2 (.inr (hI.down j p h hp' k hk))
    have go : ∀ (v : Value) (T' : World → Prop) (w' : World), (∀ x, T' x → T0 x) → T' w' → seqP P X l (fun T' E' w2 => treeQ P X l K sub T' E' w2) (z0 rr) T' (updo V o.dst v) w' →
        wpAnyIn (WF r) 0 P .any l.toArray (toQ n Q) fuel (listed.setIfInBounds i true) (a.put o.dst v) w' := by
      intro v T' w' hT hTw hsr
      obtain ⟨V', q1, q2, q3⟩ := advance0 E0 hpl hds rr (i :: seen) eff' _ T' _ _ _ w' hc' hsr (hbase v T' w' hT hTw) ⟨⟨o, he.at_, he.back, he.seenW⟩, hS⟩ (fun j hj => by
        have hjp := post_not_seen (l := l) (z0 rr) (i :: seen) _ hc' j (z0_mem.2 hj);refine ⟨fun hx => ?_, fun hx => ?_⟩
        · rcases (hL' j).1 hx with rfl | h
          · exact hjp (by simp)
          exact hjp (by simp [hI.sub j h])
        exact hjp (hesub j hx))
      exact ih sub (rr.reverse ++ i :: seen) eff' T' V' _ w' _ hcnt' hsz' (by rw [put_size]; exact hn) (by rw [put_defers]; exact hd) hok hto hcv q1 q2 q3
    refine wpOpIn_eff (E := V) (by simpa using he.at_) hpo hopr (fun v w' hx => ⟨hn, by rw [hd]; exact hXQ v w' hx _⟩) ?_
    rcases hsq o he.at_ with ⟨hw, hsq⟩ | ⟨hw, hsq⟩
    · refine .inl ⟨hw, effP_mono hsq ?_⟩;rintro v w' ⟨T', h1, h2, h3⟩;exact go v T' w' h1 h2 h3
    refine .inr ⟨hw, go undef T0 w (fun _ h => h) ?_ hsq⟩
    rcases hT0 with rfl | ⟨_, _, _, h9⟩
    · exact hI.here
    exact h9
end main
def openOK (l : List Oper) (q0 : List Nat) (t : OT) : Bool := l.all plainOp && dstsOK l && chainOK l (z0 q0) [] none && treeOK l t q0.reverse && cover l t q0.reverse
theorem x_open {id : Nat} {E : Env} {w : World} (q0 : List Nat) (t : OT) (hm : P.follows .mixedOrders = true) (hc : openOK l q0 t = true) (hok : l.all (okd n) = true) (T : World → Prop) (hT : T w.drew)
    (h : seqP P (fun v w' => ∀ E', Q (.panic [{ v := v, recovered := false }]) E' ds w') l (fun T' E' w2 => treeQ P (fun v w' => ∀ E', Q (.panic [{ v := v, recovered := false }]) E' ds w') l (fun E w => Q .normal E ds w) t T' E' w2) (z0 q0) T E w.drew) : wp P r n (.region id l.toArray true) Q E ds w := by
  intro a h1 h2 h3;simp only [openOK, Bool.and_eq_true] at hc;obtain ⟨⟨⟨⟨hpl, hds⟩, hch⟩, hto⟩, hcv⟩ := hc;refine wpIn_region_any hm ?_
  have hL0 : ∀ j, ¬ (j < l.length ∧ (Array.replicate l.length false).getD j true = true) := fun j hj => by
    have := hj.2; simp [Array.getD_eq_getD_getElem?, hj.1] at this
  obtain ⟨V', q1, q2, q3⟩ := advance0 (P := P) (l := l) E hpl hds q0 [] [] none T E E (fun j => j < l.length ∧ (Array.replicate l.length false).getD j true = true) w.drew hch h
    ⟨fun j hj => absurd hj (hL0 j), fun j hj => by simp at hj, fun j hj => by simp at hj, fun j o d hj => absurd hj (hL0 j), fun _ _ => rfl, fun _ _ => rfl, hT, fun j o hj => absurd hj (hL0 j)⟩ trivial (fun j _ => ⟨hL0 j, by simp⟩)
  rw [List.append_nil] at q2 q3
  have hq3 : Inv P l E q0.reverse [] T V' (env a) (fun j => j < l.length ∧ (Array.replicate l.length false).getD j true = true) w.drew := by rw [h2]; exact q2
  show wpAnyIn (WF r) 0 P .any l.toArray (toQ n Q) l.toArray.size (Array.replicate l.toArray.size false) a w.drew
  rw [List.size_toArray]
  refine any_of_tree (P := P) (l := l) (Q := Q) (ds := ds) E hpl hds (K := fun E w => Q .normal E ds w) (fun E w h => h) (fun _ _ h => h) l.length t q0.reverse [] T V' (Array.replicate l.length false) w.drew a ?_ (by simp) h1 h3 hok hto hcv q1 hq3 q3
  unfold cnt; exact Nat.le_trans (List.length_filter_le _ _) (by simp)
section
variable {K : Env → World → Prop} {T : World → Prop} {E : Env} {w : World}
theorem tr_stop (h : K E w) : treeQ P X l K .stop T E w := h
theorem tr_bar {i : Nat} {xs qs : List Nat} {sub : OT} (T0 : World → Prop) (h0 : T0 w) (hx : sameAll P l E T0 xs) (h : seqP P X l (fun T' E' w2 => treeQ P X l K sub T' E' w2) ((i, 1) :: z0 qs) T0 E w) : treeQ P X l K (.bar i xs qs sub) T E w := ⟨T0, h0, hx, h⟩
theorem xq_nil {T0 : World → Prop} : sameAll P l E T0 [] := trivial
theorem xq_yes {T0 : World → Prop} {j : Nat} {xs : List Nat} {o : Oper} {v : Value} (ho : l[j]? = some o) (hw : wantE l o E = true) (hr : ∀ W : World, T0 W → (execOp (ev E) o).run P W = .ok (.value v) W) (hd : ∀ k, o.dst = some k → E k = v) (h : sameAll P l E T0 xs) : sameAll P l E T0 (j :: xs) :=
  ⟨fun o' ho' => by rw [ho] at ho'; cases ho'; exact ⟨v, fun w' hT => .inl ⟨hw, hr w' hT⟩, updo_same hd⟩, h⟩
end
end Go.Proofs.YtghjmiggobpmoaaGreatDoor.K
namespace Go.Proofs.YtghjmiggobpmoaaGreatDoor.K
open Go Go.Proofs Go.RowKit
structure BldP (w : World) (b : Nat) (A : Option Addr) (cap : Nat) (s : Bytes) (rs : List Value) : Prop where
  blk : Blk w b (.pointer none :: .slice A s.length cap :: rs) 98 ∨ Blk w b (.pointer (some ⟨b, 0, none⟩) :: .slice A s.length cap :: rs) 98
  own : OwnB 5 w A cap s
  nil : s = [] → A = none
section
variable {w w' : World} {b : Nat} {A : Option Addr} {cap : Nat} {s : Bytes} {rs : List Value}
theorem BldP.ne (h : BldP w b A cap s rs) : b ∉ ob A := by
  rcases h.blk with hb | hb <;> exact h.own.ne hb (by decide)
theorem BldP.ltb (h : BldP w b A cap s rs) : b < w.heap.size := by
  rcases h.blk with hb | hb <;> exact hb.lt
theorem BldP.tr {bs : List Nat} (h : BldP w b A cap s rs) (hc : Chg bs w w') (h1 : b ∉ bs) (h2 : ∀ k, k ∈ ob A → k ∉ bs) : BldP w' b A cap s rs :=
  ⟨h.blk.imp (fun x => x.tr hc h1) (fun x => x.tr hc h1), h.own.tr hc h2, h.nil⟩
theorem BldP.tr0 (h : BldP w b A cap s rs) (hc : Chg [] w w') : BldP w' b A cap s rs := h.tr hc (by simp) (by simp)
theorem BldP.new (h : Blk w b (.pointer none :: .slice none 0 0 :: rs) 98) : BldP w b none 0 [] rs :=
  ⟨.inl h, ⟨by simp [Lib.byteCells], .inl ⟨rfl, rfl⟩⟩, fun _ => rfl⟩
theorem BldP.fresh (h : BldP w b A cap s rs) {k : Nat} (hk : w.heap.size ≤ k) : k ∉ ob A := fun hx => by have := h.own.lt k hx; omega
end
theorem copyP_fresh {b : Nat} {v : Value}  {w : World} (hb : Blk w b [.pointer none, v] 98) : CallR Tryz.prog 69 #[.pointer (some ⟨b, 0, none⟩)] w fun r w' => r = .tuple ⟨[]⟩ ∧ Blk w' b [.pointer (some ⟨b, 0, none⟩), v] 98 ∧ Chg [b] w w' := by
 refine callR_of_wp (args := [_]) Tryz.func69 rfl (Nat.le_of_ble_eq_true rfl) ?_;have HC : Chg [b] w w := .refl _;refine sr rfl <| mP rfl <| nc rfl <| fa T.fld98_0 rfl <| Wp rfl <| st_load1 (v := .pointer _) T.one95 rfl (hb.cell rfl) <| Wp rfl <| st_peqln T.u95 rfl rfl <| en <| x_cond rfl (fun h0 => ?_) (fun h0 => ?_)
 ·try simp only [nm, ne_eq] at h0
  refine x_region rfl <| mP rfl <| mP rfl <| Wp rfl <| st_toUnsafe T.u95 T.u131 T.nz98 hb (Nat.le_of_ble_eq_true rfl) rfl <| Wp rfl <| st_callV rfl rfl rfl (T.noesc _ _) <| Wp rfl <| st_fromUnsafe T.u131 T.u95 T.isSome98 hb T.lies98_98 rfl <| nc rfl <| fa T.fld98_0 rfl <| Wp rfl <| st_st (v := .pointer _) T.size95 rfl rfl rfl hb ?_;intro w1 c2 hb3; simp only [setVs, setV] at hb3;clear hb;replace HC := HC.trans c2 q4;refine wops_nil <| ret_none_n rfl ?_;exact ⟨rfl, hb3, HC⟩
 try simp only [nm, ne_eq] at h0
 simp at h0
theorem copyP_used {b : Nat} {v : Value}  {w : World} (hb : Blk w b [.pointer (some ⟨b, 0, none⟩), v] 98) : CallR Tryz.prog 69 #[.pointer (some ⟨b, 0, none⟩)] w fun r w' => r = .tuple ⟨[]⟩ ∧ Blk w' b [.pointer (some ⟨b, 0, none⟩), v] 98 ∧ Chg [b] w w' := by
 refine callR_of_wp (args := [_]) Tryz.func69 rfl (Nat.le_of_ble_eq_true rfl) ?_;have HC : Chg [b] w w := .refl _;refine sr rfl <| mP rfl <| nc rfl <| fa T.fld98_0 rfl <| Wp rfl <| st_load1 (v := .pointer _) T.one95 rfl (hb.cell rfl) <| Wp rfl <| st_peqln T.u95 rfl rfl <| en <| x_cond rfl (fun h0 => ?_) (fun h0 => ?_)
 ·try simp only [nm, ne_eq] at h0
  simp at h0
 try simp only [nm, ne_eq] at h0
 refine sr rfl <| mP rfl <| nc rfl <| fa T.fld98_0 rfl <| Wp rfl <| st_load1 (v := .pointer _) T.one95 rfl (hb.cell rfl) <| mP rfl <| Wp rfl <| st_pneq_same T.u95 T.isSome98 rfl rfl <| en <| x_cond (t := false) rfl (fun h1 => ?_) (fun h1 => ?_)
 · exact absurd h1 (by decide)
 refine x_skip <| ret_none_n rfl ?_;exact ⟨rfl, hb, HC⟩
theorem copyCheckP_spec {b : Nat} {A : Option Addr} {cap : Nat} {s : Bytes}  {w : World} (h : BldP w b A cap s []) : CallR Tryz.prog 69 #[.pointer (some ⟨b, 0, none⟩)] w fun r w' => r = .tuple ⟨[]⟩ ∧ Blk w' b [.pointer (some ⟨b, 0, none⟩), .slice A s.length cap] 98 ∧ Chg [b] w w' := by
  rcases h.blk with hb | hb
  · exact copyP_fresh hb
  exact copyP_used hb
theorem WriteStringP_spec {b : Nat} {A : Option Addr} {cap : Nat} {s : Bytes}  {w : World} (s2 : Bytes) (h : BldP w b A cap s []) (hl : s.length + s2.length ≤ 140737488355328) : CallR Tryz.prog 53 #[.pointer (some ⟨b, 0, none⟩), S s2] w fun v w' => v = .tuple ⟨[.int .i64 s2.length, .nilIface]⟩ ∧ ∃ A' cap', BldP w' b A' cap' (s ++ s2) [] ∧ Chg (b :: ob A) w w' ∧ ∀ g, g ∈ ob A' → g ∈ ob A ∨ w.heap.size ≤ g := by
 have ho := h.own;refine callR_of_wp (args := [_, _]) Tryz.func53 rfl (Nat.le_of_ble_eq_true rfl) ?_;have HC : Chg (b :: ob A) w w := .refl _;refine sr rfl <| aI rfl <| av (v := .nilIface) rfl <| en <| sr rfl <| mP rfl <| Wp rfl <| st_call (ags := [_]) rfl rfl T.ent69 rfl (copyCheckP_spec h) ?_;rintro _ w1 ⟨rfl, hb, c2⟩;have hsz0 := c2.size;replace HC := HC.trans c2 q4;replace ho := ho.tr c2 (fun k hk hx => by simp only [List.mem_singleton] at hx; subst hx; exact h.ne hk)
 refine en <| sr rfl <| mP rfl <| mP rfl <| nc rfl <| fa T.fld98_1 rfl <| lL T.one96 rfl (hb.cell rfl) <| mS rfl <| Wp rfl <| st_appendStr T.byte96 rfl rfl ho h.nil hl ?_;intro A3 cap4 w5 ho6 c7 hg8 hn9;replace hb := hb.tr c7 (fun hx => h.ne hx)
 replace HC := HC.trans c7 (fun k hk => .inl (by simp [hk]))
 have hne2 := ho6.ne hb (by decide)
 refine nc rfl <| fa T.fld98_1 rfl <| Wp rfl <| st_st (v := .slice _ _ _) T.size96 rfl rfl rfl hb ?_;intro w10 c11 hb12; simp only [setVs, setV] at hb12;clear hb;replace HC := HC.trans c11 q4;replace ho6 := ho6.tr c11 (fun k hk hx => by simp only [List.mem_singleton] at hx; subst hx; exact hne2 hk)
 refine en <| sr rfl <| mS rfl <| Wp rfl <| st_slen (ct := #[9]) T.u9 rfl <| aI rfl <| av (v := .nilIface) rfl <| en <| x_ret <| ret_tmp2 (v := .int _ _) (v2 := .nilIface) rfl rfl rfl ?_;exact ⟨rfl, A3, cap4, ⟨.inr hb12, ho6, hn9⟩, HC, fun g hg => (hg8 g hg).imp id (fun h => by omega)⟩
theorem StringP00 {b gb cap : Nat} {s : Bytes}  {w : World} (hb : Blk w b [.pointer none, .slice none 0 0] 98) : CallR Tryz.prog 56 #[.pointer (some ⟨b, 0, none⟩)] w fun v w' => v = S [] ∧ Blk w' b [.pointer none, .slice none 0 0] 98 ∧ Chg [] w w' := by
 refine callR_of_wp (args := [_]) Tryz.func56 rfl (Nat.le_of_ble_eq_true rfl) ?_;have HC : Chg [] w w := .refl _;refine sr rfl <| aS rfl <| en <| x_seq <| x_draw [(0, 0), (1, 0), (2, 0), (3, 0), (4, 0), (5, 0), (6, 0), (7, 0), (8, 0), (9, 0), (10, 1), (11, 0)] T.mixed rfl rfl rfl (fun W => W.heap[b]? = w.heap[b]? ∧ True) ⟨rfl, trivial⟩ ?_
 have o3 := hb;have c2 := Chg.drew w;generalize World.drew w = w1 at c2 ⊢;replace HC := HC.then c2;replace hb := hb.tr0 c2;refine sq_q rfl (fun W hT => r_move (v := .pointer _) rfl) <| sq_q rfl (fun W hT => r_nilCheck rfl) <| sq_q rfl (fun W hT => r_fieldAddr T.fld98_1 rfl) <| sq_q rfl (fun W hT => r_load1 (v := .slice _ _ _) T.one96 rfl (Blk.cell (show Blk W b _ _ from hT.1.trans o3) rfl)) <| sq_q rfl (fun W hT => r_sliceData_nil rfl) <| sq_q rfl (fun W hT => r_move (v := .pointer _) rfl) <| sq_q rfl (fun W hT => r_nilCheck rfl) <| sq_q rfl (fun W hT => r_fieldAddr T.fld98_1 rfl) <| sq_q rfl (fun W hT => r_load1 (v := .slice _ _ _) T.one96 rfl (Blk.cell (show Blk W b _ _ from hT.1.trans o3) rfl)) <| sq_q rfl (fun W hT => r_len (ct := #[96]) (by rw [show ((#[96] : Array TypeId)[0]?).bind Tryz.prog.underlying = some (.slice 5) from T.u96]; rfl) rfl) <| sq_run1 rfl (r_unsafeString_nil rfl rfl) _ (fun _ h => h) ?_ ?_
 · exact ⟨(Eq.trans hb o3.symm), trivial⟩
 refine sq_q rfl (fun W hT => r_assign (v := S _) rfl) ?_
 clear o3;refine sq_nil <| then_n <| x_ret <| ret_tmp (v := S _) rfl rfl ?_;exact ⟨rfl, hb, HC⟩
theorem StringP01 {b gb cap : Nat} {s : Bytes}  {w : World} (hb : Blk w b [.pointer none, .slice (some ⟨gb, 0, none⟩) s.length cap] 98) (ho : OwnB 5 w (some ⟨gb, 0, none⟩) cap s) (hs : s ≠ []) (hcap : cap ≠ 0) (hne : b ≠ gb) : CallR Tryz.prog 56 #[.pointer (some ⟨b, 0, none⟩)] w fun v w' => v = S s ∧ Blk w' b [.pointer none, .slice (some ⟨gb, 0, none⟩) s.length cap] 98 ∧ OwnB 5 w' (some ⟨gb, 0, none⟩) cap s ∧ Chg [gb] w w' := by
 refine callR_of_wp (args := [_]) Tryz.func56 rfl (Nat.le_of_ble_eq_true rfl) ?_;have HC : Chg [gb] w w := .refl _;refine sr rfl <| aS rfl <| en <| x_seq <| x_draw [(0, 0), (1, 0), (2, 0), (3, 0), (4, 0), (5, 0), (6, 0), (7, 0), (8, 0), (9, 0), (10, 1), (11, 0)] T.mixed rfl rfl rfl (fun W => W.heap[b]? = w.heap[b]? ∧ True) ⟨rfl, trivial⟩ ?_
 have o3 := hb;have c2 := Chg.drew w;generalize World.drew w = w1 at c2 ⊢;replace HC := HC.then c2;replace hb := hb.tr0 c2;replace ho := ho.tr c2 (by simp)
 refine sq_q rfl (fun W hT => r_move (v := .pointer _) rfl) <| sq_q rfl (fun W hT => r_nilCheck rfl) <| sq_q rfl (fun W hT => r_fieldAddr T.fld98_1 rfl) <| sq_q rfl (fun W hT => r_load1 (v := .slice _ _ _) T.one96 rfl (Blk.cell (show Blk W b _ _ from hT.1.trans o3) rfl)) <| sq_q rfl (fun W hT => r_sliceData rfl hcap) <| sq_q rfl (fun W hT => r_move (v := .pointer _) rfl) <| sq_q rfl (fun W hT => r_nilCheck rfl) <| sq_q rfl (fun W hT => r_fieldAddr T.fld98_1 rfl) <| sq_q rfl (fun W hT => r_load1 (v := .slice _ _ _) T.one96 rfl (Blk.cell (show Blk W b _ _ from hT.1.trans o3) rfl)) <| sq_q rfl (fun W hT => r_len (ct := #[96]) (by rw [show ((#[96] : Array TypeId)[0]?).bind Tryz.prog.underlying = some (.slice 5) from T.u96]; rfl) rfl) <| sq_us rfl (r_unsafeString T.u118 T.cells5 ho hs rfl rfl) ?_
 rintro w4 ⟨ho6, c5⟩;have hbx := hb.tr1 c5 hne;refine ⟨_, fun _ h => h, ⟨(Eq.trans hbx o3.symm), trivial⟩, ?_⟩
 replace HC := HC.trans c5 (fun k hk => .inl hk)
 refine sq_q rfl (fun W hT => r_assign (v := S _) rfl) ?_
 clear o3;refine sq_nil <| then_n <| x_ret <| ret_tmp (v := S _) rfl rfl ?_;exact ⟨rfl, hbx, ho6, HC⟩
theorem StringP10 {b gb cap : Nat} {s : Bytes}  {w : World} (hb : Blk w b [.pointer (some ⟨b, 0, none⟩), .slice none 0 0] 98) : CallR Tryz.prog 56 #[.pointer (some ⟨b, 0, none⟩)] w fun v w' => v = S [] ∧ Blk w' b [.pointer (some ⟨b, 0, none⟩), .slice none 0 0] 98 ∧ Chg [] w w' := by
 refine callR_of_wp (args := [_]) Tryz.func56 rfl (Nat.le_of_ble_eq_true rfl) ?_;have HC : Chg [] w w := .refl _;refine sr rfl <| aS rfl <| en <| x_seq <| x_draw [(0, 0), (1, 0), (2, 0), (3, 0), (4, 0), (5, 0), (6, 0), (7, 0), (8, 0), (9, 0), (10, 1), (11, 0)] T.mixed rfl rfl rfl (fun W => W.heap[b]? = w.heap[b]? ∧ True) ⟨rfl, trivial⟩ ?_
 have o3 := hb;have c2 := Chg.drew w;generalize World.drew w = w1 at c2 ⊢;replace HC := HC.then c2;replace hb := hb.tr0 c2;refine sq_q rfl (fun W hT => r_move (v := .pointer _) rfl) <| sq_q rfl (fun W hT => r_nilCheck rfl) <| sq_q rfl (fun W hT => r_fieldAddr T.fld98_1 rfl) <| sq_q rfl (fun W hT => r_load1 (v := .slice _ _ _) T.one96 rfl (Blk.cell (show Blk W b _ _ from hT.1.trans o3) rfl)) <| sq_q rfl (fun W hT => r_sliceData_nil rfl) <| sq_q rfl (fun W hT => r_move (v := .pointer _) rfl) <| sq_q rfl (fun W hT => r_nilCheck rfl) <| sq_q rfl (fun W hT => r_fieldAddr T.fld98_1 rfl) <| sq_q rfl (fun W hT => r_load1 (v := .slice _ _ _) T.one96 rfl (Blk.cell (show Blk W b _ _ from hT.1.trans o3) rfl)) <| sq_q rfl (fun W hT => r_len (ct := #[96]) (by rw [show ((#[96] : Array TypeId)[0]?).bind Tryz.prog.underlying = some (.slice 5) from T.u96]; rfl) rfl) <| sq_run1 rfl (r_unsafeString_nil rfl rfl) _ (fun _ h => h) ?_ ?_
 · exact ⟨(Eq.trans hb o3.symm), trivial⟩
 refine sq_q rfl (fun W hT => r_assign (v := S _) rfl) ?_
 clear o3;refine sq_nil <| then_n <| x_ret <| ret_tmp (v := S _) rfl rfl ?_;exact ⟨rfl, hb, HC⟩
theorem StringP11 {b gb cap : Nat} {s : Bytes}  {w : World} (hb : Blk w b [.pointer (some ⟨b, 0, none⟩), .slice (some ⟨gb, 0, none⟩) s.length cap] 98) (ho : OwnB 5 w (some ⟨gb, 0, none⟩) cap s) (hs : s ≠ []) (hcap : cap ≠ 0) (hne : b ≠ gb) : CallR Tryz.prog 56 #[.pointer (some ⟨b, 0, none⟩)] w fun v w' => v = S s ∧ Blk w' b [.pointer (some ⟨b, 0, none⟩), .slice (some ⟨gb, 0, none⟩) s.length cap] 98 ∧ OwnB 5 w' (some ⟨gb, 0, none⟩) cap s ∧ Chg [gb] w w' := by
 refine callR_of_wp (args := [_]) Tryz.func56 rfl (Nat.le_of_ble_eq_true rfl) ?_;have HC : Chg [gb] w w := .refl _;refine sr rfl <| aS rfl <| en <| x_seq <| x_draw [(0, 0), (1, 0), (2, 0), (3, 0), (4, 0), (5, 0), (6, 0), (7, 0), (8, 0), (9, 0), (10, 1), (11, 0)] T.mixed rfl rfl rfl (fun W => W.heap[b]? = w.heap[b]? ∧ True) ⟨rfl, trivial⟩ ?_
 have o3 := hb;have c2 := Chg.drew w;generalize World.drew w = w1 at c2 ⊢;replace HC := HC.then c2;replace hb := hb.tr0 c2;replace ho := ho.tr c2 (by simp)
 refine sq_q rfl (fun W hT => r_move (v := .pointer _) rfl) <| sq_q rfl (fun W hT => r_nilCheck rfl) <| sq_q rfl (fun W hT => r_fieldAddr T.fld98_1 rfl) <| sq_q rfl (fun W hT => r_load1 (v := .slice _ _ _) T.one96 rfl (Blk.cell (show Blk W b _ _ from hT.1.trans o3) rfl)) <| sq_q rfl (fun W hT => r_sliceData rfl hcap) <| sq_q rfl (fun W hT => r_move (v := .pointer _) rfl) <| sq_q rfl (fun W hT => r_nilCheck rfl) <| sq_q rfl (fun W hT => r_fieldAddr T.fld98_1 rfl) <| sq_q rfl (fun W hT => r_load1 (v := .slice _ _ _) T.one96 rfl (Blk.cell (show Blk W b _ _ from hT.1.trans o3) rfl)) <| sq_q rfl (fun W hT => r_len (ct := #[96]) (by rw [show ((#[96] : Array TypeId)[0]?).bind Tryz.prog.underlying = some (.slice 5) from T.u96]; rfl) rfl) <| sq_us rfl (r_unsafeString T.u118 T.cells5 ho hs rfl rfl) ?_
 rintro w4 ⟨ho6, c5⟩;have hbx := hb.tr1 c5 hne;refine ⟨_, fun _ h => h, ⟨(Eq.trans hbx o3.symm), trivial⟩, ?_⟩
 replace HC := HC.trans c5 (fun k hk => .inl hk)
 refine sq_q rfl (fun W hT => r_assign (v := S _) rfl) ?_
 clear o3;refine sq_nil <| then_n <| x_ret <| ret_tmp (v := S _) rfl rfl ?_;exact ⟨rfl, hbx, ho6, HC⟩
theorem StringP_spec {b : Nat} {A : Option Addr} {cap : Nat} {s : Bytes}  {w : World} (h : BldP w b A cap s []) : CallR Tryz.prog 56 #[.pointer (some ⟨b, 0, none⟩)] w fun v w' => v = S s ∧ BldP w' b A cap s [] ∧ Chg (ob A) w w' := by
  by_cases hs : s = []
  · subst hs
    have hA := h.nil rfl;subst hA;have h0 : cap = 0 := by rcases h.own.form with ⟨_, h0, _⟩ | ⟨g, cur, fz, h0, _⟩; exact h0; cases h0
    subst h0
    rcases h.blk with hb | hb
    · exact CallR.imp (StringP00 (gb := 0) (cap := 0) (s := []) hb) fun v w' ⟨h1, h2, h3⟩ => ⟨h1, ⟨.inl h2, h.own.tr h3 (by simp [ob]), fun _ => rfl⟩, h3⟩
    exact CallR.imp (StringP10 (gb := 0) (cap := 0) (s := []) hb) fun v w' ⟨h1, h2, h3⟩ => ⟨h1, ⟨.inr h2, h.own.tr h3 (by simp [ob]), fun _ => rfl⟩, h3⟩
  rcases h.own.form with ⟨_, _, h0⟩ | ⟨g, cur, fz, rfl, hg, hle, _⟩
  · exact absurd h0 hs
  have hpos := List.length_pos_iff.2 hs;have hne : b ≠ g := fun e => h.ne (by simp [ob, e])
  rcases h.blk with hb | hb
  · exact CallR.imp (StringP01 hb h.own hs q0 hne) fun v w' ⟨h1, h2, h3, h4⟩ => ⟨h1, ⟨.inl h2, h3, fun hz => absurd hz hs⟩, h4⟩
  exact CallR.imp (StringP11 hb h.own hs q0 hne) fun v w' ⟨h1, h2, h3, h4⟩ => ⟨h1, ⟨.inr h2, h3, fun hz => absurd hz hs⟩, h4⟩
theorem TrimPrefix_spec (s p : Bytes) (w : World) : CallR Tryz.prog 55 #[S s, S p] w fun v w' => v = S (Lib.trimPrefix s p) ∧ Chg [] w w' :=
  CallR.of (Tryz.strings_TrimPrefix ⟨⟨s⟩⟩ ⟨⟨p⟩⟩ w) fun e w' ⟨h1, h2⟩ => ⟨_, h1, rfl, .refl' h2⟩
theorem IndexFunc_spec {k : FuncId} {caps : Array Value} {q : Bytes → Bool} {w : World} {l : List Bytes} {Al : Option Addr} {capl : Nat} {D : Nat → Prop} (hl : Sl sE w D Al l) (hlen : l.length ≤ 9223372036854775807) (hent : ∀ args (w : World), (callFunc k args).run Tryz.prog w = .ok (.enter k args) w) (hp : ∀ c W, Chg [] w W → CallR Tryz.prog k ⟨S c :: caps.toList⟩ W fun v W' => v = .bool (q c) ∧ Chg [] W W') :
    CallR Tryz.prog 49 #[.slice Al l.length capl, .func (.func k) #[] caps] w fun v w' => v = .int .i64 (findN q 0 l) ∧ Chg [] w w' := by
 refine callR_of_wp (args := [_, _]) Tryz.func49 rfl (Nat.le_of_ble_eq_true rfl) ?_;have HC : Chg [] w w := .refl _;refine sr rfl <| aI rfl <| en <| x_seq <| sr rfl <| mL rfl <| Wp rfl <| st_len (ct := #[23]) (by rw [show ((#[23] : Array TypeId)[0]?).bind Tryz.prog.underlying = some (.slice 9) from T.u23]; rfl) rfl <| mI rfl <| en <| x_block <| x_loop (ι := Nat) [4, 5, 8, 9, 10, 11, 12, 13, 14, 15, 16, 17, 18] (fun i => [(8, .int .i64 (i : Int))]) (fun i W => (i ≤ l.length ∧ findN q 0 l = findN q i (l.drop i)) ∧ (Chg [] w W) ∧ (Sl sE W D Al l)) (fun i => l.length - i) 0 ?_ ?_ ?_
 · exact ⟨rfl, trivial⟩
 ·refine ⟨?_, HC, hl⟩;exact ⟨Nat.zero_le _, by simp⟩
 intro i G2 w1 ⟨⟨hi, hr⟩, HC, hl⟩
 change wp _ _ _ _ _ (upds (over _ _ G2) [(8, .int .i64 (i : Int))]) _ _
 refine sr rfl <| Wp rfl <| st_lss rfl rfl <| en <| x_seq <| x_cond rfl (fun h0 => ?_) (fun h0 => ?_)
 ·try simp only [nm, ne_eq] at h0
  refine x_skip <| then_n <| x_seq <| x_block <| sr rfl <| mI rfl <| aI rfl <| en <| sr rfl <| mv (v := .func _ _ _) rfl <| mL rfl <| mI rfl ?_;obtain ⟨x3, hx4⟩ : ∃ zz, l[i]? = some zz := ⟨_, List.getElem?_eq_getElem q0⟩;obtain ⟨lb9, _, vs8, hA5, hR7, hC6⟩ := hl.at hx4;obtain rfl : vs8 = [S x3] := hR7;refine Wp rfl <| st_indexAddr T.u23 T.size9 (congrArg (fun z => Value.slice z _ _) hA5) rfl q0 q0 <| lS T.one9 rfl (hC6.at (j := 0) rfl) <| Wp rfl <| st_call (f := k) (cap := caps) (ags := S _ :: caps.toList) rfl rfl hent rfl (hp _ _ HC) ?_
  rintro _ w10 ⟨rfl, c11⟩;replace HC := HC.then c11;replace hl := hl.tr0 c11;refine en <| x_cond rfl (fun h1 => ?_) (fun h1 => ?_)
  ·try simp only [nm, ne_eq] at h1
   refine sr rfl <| mI rfl <| aI rfl <| en <| x_ret <| block_r <| then_r <| then_r <| block_r <| then_r <| ret_tmp (v := .int _ _) rfl rfl <| ⟨?_, HC⟩;rw [hr, findN_off hx4 h1]
  try simp only [nm, ne_eq] at h1
  refine x_skip <| block_n <| then_n <| x_region rfl <| Wp rfl <| st_addn rfl rfl (by constructor <;> omega) <| mI rfl <| en <| ⟨i + 1, ?_, ?_, rfl, ⟨rfl, trivial⟩, ?_⟩
  ·refine ⟨?_, HC, hl⟩;exact ⟨by omega, by rw [hr, findN_on hx4 h1]⟩
  ·show l.length - (i + 1) < l.length - i; omega
  exact q9
 try simp only [nm, ne_eq] at h0
 refine x_exit <| then_x <| then_x <| block_x <| then_n <| sr rfl <| aI rfl <| en <| x_ret <| ret_tmp (v := .int _ _) rfl rfl <| ⟨?_, HC⟩;rw [hr, findN_end q0]
end Go.Proofs.YtghjmiggobpmoaaGreatDoor.K
namespace Go.Proofs.YtghjmiggobpmoaaGreatDoor.K
open Go Go.Proofs Go.RowKit
open Go Go.Proofs Go.RowKit
theorem u8_eq {c : UInt8} {k : Int} {d : UInt8} (h : (c.toNat : Int) = k) (hk : (d.toNat : Int) = k) : c = d := UInt8.toNat_inj.1 (by omega)
theorem byte_dropk (s : Bytes) (j k : Nat) : byte (s.drop j) k = byte s (j + k) := by simp [byte, List.getD_eq_getElem?_getD]
open Go Go.Proofs Go.RowKit
theorem skip_cases (w : Bytes) (hw : w ≠ []) : (∃ n, skipL 64 w = .ok n ∧ 1 ≤ n ∧ n ≤ w.length) ∨ ∃ e, skipL 64 w = .error e ∧ e ≠ 0 := by
  cases h : skipL 64 w with
  | ok n => exact .inl ⟨n, rfl, skipL_le _ _ _ hw h⟩
  | error e => exact .inr ⟨e, rfl, skipL_err _ _ _ h⟩
theorem skipA_0 (w : Bytes) : skipA 64 w 0 = skipL 64 w := by
  rw [skipA, List.drop_zero]; cases skipL 64 w <;> rfl
theorem Skip_ok {n : Nat} (s : Bytes) (w : World) (hs : s.length < 4294967281) (h0 : s ≠ []) (h : skipL 64 s = .ok n) : CallR Tryz.prog 51 #[S s, .int .i64 0] w fun v w' => v = .tuple ⟨[.int .i64 (n : Int), .int .i64 0]⟩ ∧ Chg [] w w' :=
  CallR.imp (Skip_spec s 0 w hs) fun v w' ⟨h1, h2⟩ => ⟨by rw [h1, show skipV s 0 = ((n : Int), 0) from skipV_ok (j := 0) (List.length_pos_iff.2 h0) (by rw [skipA_0]; exact h)], h2⟩
theorem Skip_err {e : Nat} (s : Bytes) (w : World) (hs : s.length < 4294967281) (h0 : s ≠ []) (h : skipL 64 s = .error e) : CallR Tryz.prog 51 #[S s, .int .i64 0] w fun v w' => v = .tuple ⟨[.int .i64 0, .int .i64 (e : Int)]⟩ ∧ Chg [] w w' :=
  CallR.imp (Skip_spec s 0 w hs) fun v w' ⟨h1, h2⟩ => ⟨by rw [h1, show skipV s 0 = (0, (e : Int)) from skipV_err (j := 0) (List.length_pos_iff.2 h0) (by rw [skipA_0]; exact h)], h2⟩
theorem two_le {w : Bytes} {n : Nat} (hw : w ≠ []) (h : skipL 64 w = .ok n) (hc : byte w 0 = 39 ∨ byte w 0 = 34 ∨ byte w 0 = 96) : 2 ≤ n := by
  have h1 : skipA 64 w 0 = .ok n := by rw [skipA_0, h]
  have hl := List.length_pos_iff.2 hw
  rcases hc with h2 | h2 | h2
  · rw [skipA_quote (f := 63) hl h2] at h1
    cases h3 : runA 39 false w (0 + 1) with
    | none => rw [h3] at h1; cases h1
    | some k => rw [h3] at h1; cases h1; have := runA_le h3; omega
  · rw [skipA_double (f := 63) hl h2] at h1
    obtain ⟨i, h2, rfl⟩ := map_ok h1;have := untilN_le (fun s k hs hk => skipL_le _ _ _ hs hk) _ _ _ _ h2
    omega
  rw [skipA_tick (f := 63) hl h2] at h1
  cases h3 : runA 96 true w (0 + 1) with
  | none => rw [h3] at h1; cases h1
  | some k => rw [h3] at h1; cases h1; have := runA_le h3; omega
theorem in3a {c : UInt8} : 0 ≤ idx [39, 34, 92] c ↔ c = 39 ∨ c = 34 ∨ c = 92 := by rw [idx_mem]; simp
open Go Go.RowKit
structure Tok where
  kind : Int
  text : Bytes
  at_ : Int
  here : Bytes
  raw : Bool
deriving DecidableEq
def tokC5 (t : Tok) : List Value := [.int .i64 t.kind, S t.text, .int .i64 t.at_, S t.here, .bool t.raw]
def tok5E : Enc Tok := .flat 5 tokC5 (by omega) (fun _ => rfl) (fun _ u hu => by simp [tokC5] at hu; rcases hu with rfl | rfl | rfl | rfl | rfl <;> rfl)
def innerV : Bytes → Bytes
  | [] => []
  | [c] => [c]
  | c :: d :: t => if c = 92 then (if d = 10 then innerV t else if d = 36 ∨ d = 96 ∨ d = 34 ∨ d = 92 then d :: innerV t else c :: innerV (d :: t)) else c :: innerV (d :: t)
def quoB (c : UInt8) : Bool := c == 39 || c == 34 || c == 92
def trimP (s p : Bytes) : Bytes := if Lib.hasPrefix s p then s.drop p.length else s
def partW (w : Bytes) (n : Nat) : Bytes :=
  if byte w 0 = 39 then (w.take (n - 1)).drop 1
  else if byte w 0 = 34 then innerV ((w.take (n - 1)).drop 1)
  else if byte w 0 = 92 then trimP ((w.take n).drop 1) [10]
  else w.take n
def plainF : Nat → Bytes → Bytes × Bool
  | 0, _ => ([], false)
  | k + 1, w => if w = [] then ([], false) else
    match skipL 64 w with
    | .error _ => (w, quoB (byte w 0))
    | .ok n => (partW w n ++ (plainF k (w.drop n)).1, quoB (byte w 0) || (plainF k (w.drop n)).2)
def plainV (w : Bytes) : Bytes × Bool := plainF w.length w
def metas : Bytes := [32, 9, 10, 59, 38, 124, 60, 62, 40, 41]
def metaB (c : UInt8) : Bool := decide (0 ≤ idx metas c)
def opsT : List Bytes := [[60, 60, 45], [38, 38], [124, 124], [59, 59], [60, 60], [62, 62], [60, 38], [62, 38], [60, 62], [62, 124], [59], [38], [124], [60], [62], [40], [41]]
def wordL : Nat → Bytes → Nat × Nat
  | 0, _ => (0, 0)
  | _ + 1, [] => (0, 0)
  | k + 1, c :: t => if metaB c then (0, 0) else
    match skipL 64 (c :: t) with
    | .error e => (0, e)
    | .ok n => ((wordL k ((c :: t).drop n)).1 + n, (wordL k ((c :: t).drop n)).2)
def wordV (r : Bytes) : Nat × Nat := wordL r.length r
def preO (s : Bytes) (o : Bytes) : Bool := Lib.hasPrefix s o
def opT (r : Bytes) : Bytes := opsT.getD (findN (preO r) 0 opsT).toNat []
def nextT (r : Bytes) (i : Int) : Tok × Nat × Int :=
  if r = [] then (⟨0, [], i, [], false⟩, 0, 0)
  else if byte r 0 = 10 then (⟨3, [10], i, [], false⟩, 1, 0)
  else if metaB (byte r 0) then (⟨2, opT r, i, [], false⟩, (opT r).length, 0)
  else if (wordV r).2 ≠ 0 then (⟨0, [], i + (wordV r).1, [], false⟩, 0, (wordV r).2)
  else (⟨if (wordV r).1 = 1 ∧ digB (byte r 0) = true ∧ (byte r 1 = 60 ∨ byte r 1 = 62) ∧ 1 < r.length then 4 else 1, r.take (wordV r).1, i, [], false⟩, (wordV r).1, 0)
def blankL : Nat → Bytes → Nat
  | 0, _ => 0
  | _ + 1, [] => 0
  | k + 1, c :: t => if c = 32 ∨ c = 9 then blankL k t + 1
    else if Lib.hasPrefix (c :: t) [92, 10] then blankL k (t.drop 1) + 2
    else if c = 35 then
      (if idx (c :: t) 10 < 0 then t.length + 1 else blankL k ((c :: t).drop (idx (c :: t) 10).toNat) + (idx (c :: t) 10).toNat)
    else 0
def blankV (r : Bytes) : Nat := blankL r.length r
def trimT : Bytes → Bytes
  | [] => []
  | c :: t => if c = 9 then trimT t else c :: t
def bodyL (fin : Bytes) (strip : Bool) : Nat → Bytes → Bytes × Nat
  | 0, _ => ([], 0)
  | k + 1, r => if r = [] then ([], 0) else
    let line := (Lib.cut r [10]).1
    let more := (Lib.cut r [10]).2.2
    let l2 := if strip then trimT line else line
    let m := line.length + (if more then 1 else 0)
    if l2 = fin then ([], m)
    else ((if more then l2 ++ [10] else l2) ++ (bodyL fin strip k (r.drop m)).1, (bodyL fin strip k (r.drop m)).2 + m)
def bodyV (fin : Bytes) (strip : Bool) (r : Bytes) : Bytes × Nat := bodyL fin strip r.length r
def linesV : List Tok → List (Nat × Bool) → Bytes → List Tok × Nat
  | out, [], _ => (out, 0)
  | out, (j, st) :: ws, r =>
    let t := out.getD j ⟨0, [], 0, [], false⟩
    let b := bodyV (plainV t.text).1 st r
    let x := linesV (out.set j { t with here := t.here ++ b.1, raw := (plainV t.text).2 }) ws (r.drop b.2)
    (x.1, x.2 + b.2)
def hereV (out : List Tok) (t : Tok) : Option Bool :=
  match out.getLast? with
  | none => none
  | some z => if t.kind = 1 ∧ z.kind = 2 ∧ Lib.hasPrefix z.text [60, 60] = true then some (decide (z.text = [60, 60, 45])) else none
def pushW (out : List Tok) (ws : List (Nat × Bool)) (t : Tok) : List (Nat × Bool) := match hereV out t with
  | some b => ws ++ [(out.length, b)]
  | none => ws
open Go Go.Proofs Go.RowKit
theorem inner_nl {r : Bytes} (h : 1 < r.length) (h0 : byte r 0 = 92) (h1 : byte r 1 = 10) : innerV r = innerV (r.drop 2) := by
  match r, h with
  | c :: d :: t, _ =>
    have e0 : c = 92 := h0;have e1 : d = 10 := h1
    show innerV (c :: d :: t) = innerV t
    rw [innerV, if_pos e0, if_pos e1]
theorem inner_sp {r : Bytes} (h : 1 < r.length) (h0 : byte r 0 = 92) (h1 : byte r 1 ≠ 10) (h2 : byte r 1 = 36 ∨ byte r 1 = 96 ∨ byte r 1 = 34 ∨ byte r 1 = 92) : innerV r = (r.drop 1).take 1 ++ innerV ((r.drop 1).drop 1) := by
  match r, h with
  | c :: d :: t, _ =>
    have e0 : c = 92 := h0;have e1 : ¬ d = 10 := h1;have e2 : d = 36 ∨ d = 96 ∨ d = 34 ∨ d = 92 := h2
    show innerV (c :: d :: t) = [d] ++ innerV t
    rw [innerV, if_pos e0, if_neg e1, if_pos e2]; rfl
theorem inner_on {r : Bytes} (hr : r ≠ []) (h : ¬ (1 < r.length ∧ byte r 0 = 92 ∧ (byte r 1 = 10 ∨ byte r 1 = 36 ∨ byte r 1 = 96 ∨ byte r 1 = 34 ∨ byte r 1 = 92))) : innerV r = r.take 1 ++ innerV (r.drop 1) := by
  match r, hr with
  | [c], _ => rfl
  | c :: d :: t, _ =>
    show innerV (c :: d :: t) = [c] ++ innerV (d :: t)
    have h' : ¬ (1 < (c :: d :: t).length ∧ c = 92 ∧ (d = 10 ∨ d = 36 ∨ d = 96 ∨ d = 34 ∨ d = 92)) := h;rw [innerV]
    by_cases hc : c = 92
    · rw [if_pos hc, if_neg (fun e => h' ⟨by simp, hc, .inl e⟩), if_neg (fun e => h' ⟨by simp, hc, .inr e⟩)]; rfl
    rw [if_neg hc]; rfl
theorem fields_opsT : Lib.fields [60, 60, 45, 32, 38, 38, 32, 124, 124, 32, 59, 59, 32, 60, 60, 32, 62, 62, 32, 60, 38, 32, 62, 38, 32, 60, 62, 32, 62, 124, 32, 59, 32, 38, 32, 124, 32, 60, 32, 62, 32, 40, 32, 41] = opsT := by kernel_rfl
theorem trimT_cons {r : Bytes} (hr : 0 < r.length) (h : byte r 0 = 9) : trimT r = trimT (r.drop 1) := by
  match r, hr with
  | c :: t, _ => have e : c = 9 := h; show trimT (c :: t) = trimT t; rw [trimT, if_pos e]
theorem trimT_stop {r : Bytes} (h : r = [] ∨ byte r 0 ≠ 9) : trimT r = r := by
  match r with
  | [] => rfl
  | c :: t =>
    have h' : c :: t = [] ∨ c ≠ 9 := h;rw [trimT, if_neg (fun e => h'.elim (fun h => by cases h) (fun h => h e))]
theorem inner_spec (s : Bytes) (w : World) (hs : s.length < 4294967281) : CallR Tryz.prog 54 #[S s] w fun v w' => v = S (innerV s) ∧ Chg [] w w' := by
 refine callR_of_wp (args := [_]) Tryz.func54 rfl (Nat.le_of_ble_eq_true rfl) ?_;have HC : Chg [] w w := .refl _;refine sr rfl <| aS rfl <| en <| sr rfl <| Wp rfl <| st_alloc T.zero98 ?_;intro b3 w1 e2 c3 hb4;have ge_b3 := gB e2 HC.size;replace HC := HC.then c3;clear e2;refine en <| x_seq <| x_block ?_;have hbd := BldP.new hb4;refine x_loop (ι := Bytes × Bytes × Option Addr × Nat) [0, 4, 5, 6, 7, 8, 9, 10, 11, 12, 13, 14, 15, 16, 17, 18, 19, 20, 21, 22, 23, 24, 25, 26, 27, 28, 29, 30, 31, 32, 33, 34] (fun ⟨r, out, A, cap⟩ => [(0, S r)]) (fun ⟨r, out, A, cap⟩ W => (out.length + r.length ≤ s.length ∧ innerV s = out ++ innerV r ∧ (∀ k, k ∈ ob A → w.heap.size ≤ k)) ∧ (Chg [] w W) ∧ (BldP W b3 A cap out [])) (fun ⟨r, out, A, cap⟩ => r.length) (s, [], none, 0) ?_ ?_ ?_
 · exact ⟨rfl, trivial⟩
 ·refine ⟨?_, HC, hbd⟩;exact ⟨by simp, by simp, (fun k hk => by cases hk)⟩
 intro ⟨r, out, A, cap⟩ G6 w5 ⟨⟨hol, htot, hob⟩, HC, hbd⟩
 change wp _ _ _ _ _ (upds (over _ _ G6) [(0, S r)]) _ _
 refine x_seq <| sr rfl <| mS rfl <| Wp rfl <| st_sneq rfl rfl <| en <| x_cond rfl (fun h0 => ?_) (fun h0 => ?_)
 ·try simp only [nm, ne_eq] at h0
  have hr1 := List.length_pos_iff.2 h0;refine x_skip <| then_n <| x_block <| sr rfl <| aI rfl <| en <| x_seq <| sr rfl <| mS rfl <| Wp rfl <| st_slen (ct := #[9]) T.u9 rfl <| Wp rfl <| st_gtr rfl rfl <| mB rfl <| w_split (d := 10) rfl (fun g7 => ?_) (fun g7 => ?_)
  ·try simp only [nm, ne_eq] at g7
   refine w_yes 3 10 true <| st_move (v := S _) rfl <| w_yes 3 10 true <| st_sidx T.u9 rfl rfl (by decide) q0 <| w_yes 3 10 true <| st_eql rfl rfl <| pT rfl rfl <| en <| x_cond rfl (fun h1 => ?_) (fun h1 => ?_)
   ·try simp only [nm, ne_eq] at h1
    have hc0 : byte r 0 = 92 := u8_eq (by assumption) rfl
    have hl1 : 1 < r.length := by omega
    refine sr rfl <| mS rfl <| Wp rfl <| st_sidx T.u9 rfl rfl (by decide) q0 <| en <| x_block <| sr rfl <| Wp rfl <| st_eql rfl rfl <| aB rfl <| en <| x_cond rfl (fun h2 => ?_) (fun h2 => ?_)
    ·try simp only [nm, ne_eq] at h2
     have hun := inner_nl hl1 hc0 (u8_eq h2 rfl);refine sr rfl <| mS rfl <| Wp rfl <| st_sslo (i := 2) T.u9 rfl ⟨_, rfl⟩ q0 <| aS rfl <| en <| x_exit <| block_o rfl <| then_x <| block_x <| then_n <| ⟨((r.drop 2), out, A, cap), ?_, ?_, rfl, ⟨rfl, trivial⟩, ?_⟩
     ·refine ⟨?_, HC, hbd⟩;exact ⟨by simp only [List.length_append, List.length_take, List.length_drop]; omega, by rw [htot, hun]; all_goals simp, hob⟩
     ·show ((r.drop 2)).length < r.length; simp only [List.length_drop]; omega
     exact q9
    try simp only [nm, ne_eq] at h2
    have hn10 : byte r 1 ≠ 10 := fun e => h2 (by rw [e]; rfl)
    refine x_seq <| sr rfl <| Wp rfl <| st_eql rfl rfl <| aB rfl <| en <| x_cond rfl (fun h3 => ?_) (fun h3 => ?_)
    ·try simp only [nm, ne_eq] at h3
     have hsp : byte r 1 = 36 ∨ byte r 1 = 96 ∨ byte r 1 = 34 ∨ byte r 1 = 92 := .inl (u8_eq h3 rfl);refine x_skip <| then_n <| x_cond rfl (fun h6 => ?_) (fun h6 => ?_)
     rotate_left
     · first | (simp only [nm, ne_eq] at h6; exact absurd (by assumption) h6) | (exfalso; simp_all)
     have hsp2 : byte r 1 = 36 ∨ byte r 1 = 96 ∨ byte r 1 = 34 ∨ byte r 1 = 92 := by first | assumption | exact .inr (.inr (.inr (u8_eq h6 rfl)))
     have hun := inner_sp hl1 hc0 hn10 hsp2;refine x_region rfl <| mS rfl <| Wp rfl <| st_sslo (i := 1) T.u9 rfl ⟨_, rfl⟩ q0 <| aS rfl <| wops_nil <| block_n <| then_n <| sr rfl <| mS rfl <| mI rfl <| Wp rfl <| st_sshi (j := 1) T.u9 rfl ⟨_, rfl⟩ (by (first | omega | (simp only [List.length_drop]; omega))) <| Wp rfl <| st_call (ags := [_, _]) rfl rfl T.ent53 rfl (WriteStringP_spec ((r.drop 1).take 1) hbd (by simp only [List.length_take, List.length_drop]; omega)) ?_
     rintro _ w8 ⟨rfl, A10, cap11, hbd12, c9, hgr13⟩;have hszW := HC.size;replace HC := HC.trans c9 (fun k hk => (List.mem_cons.1 hk).elim (fun h => .inr (by rw [h]; exact ge_b3)) (fun h => .inr (hob k h)))
     replace hob : ∀ k, k ∈ ob A10 → w.heap.size ≤ k := fun k hk => (hgr13 k hk).elim (fun h => hob k h) (fun h => by omega)
     refine en <| x_region rfl <| mS rfl <| mI rfl <| Wp rfl <| st_sslo (i := 1) T.u9 rfl ⟨_, rfl⟩ (by (first | omega | (simp only [List.length_drop]; omega))) <| aS rfl <| wops_nil <| block_n <| then_n <| ⟨(((r.drop 1).drop 1), out ++ (r.drop 1).take 1, A10, cap11), ?_, ?_, rfl, ⟨rfl, trivial⟩, ?_⟩
     ·refine ⟨?_, HC, hbd12⟩;exact ⟨by simp only [List.length_append, List.length_take, List.length_drop]; omega, by rw [htot, hun]; all_goals simp, hob⟩
     ·show (((r.drop 1).drop 1)).length < r.length; simp only [List.length_drop]; omega
     exact q9
    try simp only [nm, ne_eq] at h3
    have hn3 : byte r 1 ≠ 36 := fun e => h3 (by rw [e]; rfl)
    refine sr rfl <| Wp rfl <| st_eql rfl rfl <| aB rfl <| en <| x_cond rfl (fun h4 => ?_) (fun h4 => ?_)
    ·try simp only [nm, ne_eq] at h4
     have hsp : byte r 1 = 36 ∨ byte r 1 = 96 ∨ byte r 1 = 34 ∨ byte r 1 = 92 := .inr (.inl (u8_eq h4 rfl));refine x_skip <| then_n <| x_cond rfl (fun h6 => ?_) (fun h6 => ?_)
     rotate_left
     · first | (simp only [nm, ne_eq] at h6; exact absurd (by assumption) h6) | (exfalso; simp_all)
     have hsp2 : byte r 1 = 36 ∨ byte r 1 = 96 ∨ byte r 1 = 34 ∨ byte r 1 = 92 := by first | assumption | exact .inr (.inr (.inr (u8_eq h6 rfl)))
     have hun := inner_sp hl1 hc0 hn10 hsp2;refine x_region rfl <| mS rfl <| Wp rfl <| st_sslo (i := 1) T.u9 rfl ⟨_, rfl⟩ q0 <| aS rfl <| wops_nil <| block_n <| then_n <| sr rfl <| mS rfl <| mI rfl <| Wp rfl <| st_sshi (j := 1) T.u9 rfl ⟨_, rfl⟩ (by (first | omega | (simp only [List.length_drop]; omega))) <| Wp rfl <| st_call (ags := [_, _]) rfl rfl T.ent53 rfl (WriteStringP_spec ((r.drop 1).take 1) hbd (by simp only [List.length_take, List.length_drop]; omega)) ?_
     rintro _ w14 ⟨rfl, A16, cap17, hbd18, c15, hgr19⟩;have hszW := HC.size;replace HC := HC.trans c15 (fun k hk => (List.mem_cons.1 hk).elim (fun h => .inr (by rw [h]; exact ge_b3)) (fun h => .inr (hob k h)))
     replace hob : ∀ k, k ∈ ob A16 → w.heap.size ≤ k := fun k hk => (hgr19 k hk).elim (fun h => hob k h) (fun h => by omega)
     refine en <| x_region rfl <| mS rfl <| mI rfl <| Wp rfl <| st_sslo (i := 1) T.u9 rfl ⟨_, rfl⟩ (by (first | omega | (simp only [List.length_drop]; omega))) <| aS rfl <| wops_nil <| block_n <| then_n <| ⟨(((r.drop 1).drop 1), out ++ (r.drop 1).take 1, A16, cap17), ?_, ?_, rfl, ⟨rfl, trivial⟩, ?_⟩
     ·refine ⟨?_, HC, hbd18⟩;exact ⟨by simp only [List.length_append, List.length_take, List.length_drop]; omega, by rw [htot, hun]; all_goals simp, hob⟩
     ·show (((r.drop 1).drop 1)).length < r.length; simp only [List.length_drop]; omega
     exact q9
    try simp only [nm, ne_eq] at h4
    have hn4 : byte r 1 ≠ 96 := fun e => h4 (by rw [e]; rfl)
    refine sr rfl <| Wp rfl <| st_eql rfl rfl <| aB rfl <| en <| x_cond rfl (fun h5 => ?_) (fun h5 => ?_)
    ·try simp only [nm, ne_eq] at h5
     have hsp : byte r 1 = 36 ∨ byte r 1 = 96 ∨ byte r 1 = 34 ∨ byte r 1 = 92 := .inr (.inr (.inl (u8_eq h5 rfl)));refine x_skip <| then_n <| x_cond rfl (fun h6 => ?_) (fun h6 => ?_)
     rotate_left
     · first | (simp only [nm, ne_eq] at h6; exact absurd (by assumption) h6) | (exfalso; simp_all)
     have hsp2 : byte r 1 = 36 ∨ byte r 1 = 96 ∨ byte r 1 = 34 ∨ byte r 1 = 92 := by first | assumption | exact .inr (.inr (.inr (u8_eq h6 rfl)))
     have hun := inner_sp hl1 hc0 hn10 hsp2;refine x_region rfl <| mS rfl <| Wp rfl <| st_sslo (i := 1) T.u9 rfl ⟨_, rfl⟩ q0 <| aS rfl <| wops_nil <| block_n <| then_n <| sr rfl <| mS rfl <| mI rfl <| Wp rfl <| st_sshi (j := 1) T.u9 rfl ⟨_, rfl⟩ (by (first | omega | (simp only [List.length_drop]; omega))) <| Wp rfl <| st_call (ags := [_, _]) rfl rfl T.ent53 rfl (WriteStringP_spec ((r.drop 1).take 1) hbd (by simp only [List.length_take, List.length_drop]; omega)) ?_
     rintro _ w20 ⟨rfl, A22, cap23, hbd24, c21, hgr25⟩;have hszW := HC.size;replace HC := HC.trans c21 (fun k hk => (List.mem_cons.1 hk).elim (fun h => .inr (by rw [h]; exact ge_b3)) (fun h => .inr (hob k h)))
     replace hob : ∀ k, k ∈ ob A22 → w.heap.size ≤ k := fun k hk => (hgr25 k hk).elim (fun h => hob k h) (fun h => by omega)
     refine en <| x_region rfl <| mS rfl <| mI rfl <| Wp rfl <| st_sslo (i := 1) T.u9 rfl ⟨_, rfl⟩ (by (first | omega | (simp only [List.length_drop]; omega))) <| aS rfl <| wops_nil <| block_n <| then_n <| ⟨(((r.drop 1).drop 1), out ++ (r.drop 1).take 1, A22, cap23), ?_, ?_, rfl, ⟨rfl, trivial⟩, ?_⟩
     ·refine ⟨?_, HC, hbd24⟩;exact ⟨by simp only [List.length_append, List.length_take, List.length_drop]; omega, by rw [htot, hun]; all_goals simp, hob⟩
     ·show (((r.drop 1).drop 1)).length < r.length; simp only [List.length_drop]; omega
     exact q9
    try simp only [nm, ne_eq] at h5
    have hn5 : byte r 1 ≠ 34 := fun e => h5 (by rw [e]; rfl)
    refine x_region rfl <| Wp rfl <| st_eql rfl rfl <| aB rfl <| en <| x_cond rfl (fun h6 => ?_) (fun h6 => ?_)
    ·try simp only [nm, ne_eq] at h6
     have hsp2 : byte r 1 = 36 ∨ byte r 1 = 96 ∨ byte r 1 = 34 ∨ byte r 1 = 92 := by first | assumption | exact .inr (.inr (.inr (u8_eq h6 rfl)))
     have hun := inner_sp hl1 hc0 hn10 hsp2;refine x_region rfl <| mS rfl <| Wp rfl <| st_sslo (i := 1) T.u9 rfl ⟨_, rfl⟩ q0 <| aS rfl <| wops_nil <| block_n <| then_n <| sr rfl <| mS rfl <| mI rfl <| Wp rfl <| st_sshi (j := 1) T.u9 rfl ⟨_, rfl⟩ (by (first | omega | (simp only [List.length_drop]; omega))) <| Wp rfl <| st_call (ags := [_, _]) rfl rfl T.ent53 rfl (WriteStringP_spec ((r.drop 1).take 1) hbd (by simp only [List.length_take, List.length_drop]; omega)) ?_
     rintro _ w26 ⟨rfl, A28, cap29, hbd30, c27, hgr31⟩;have hszW := HC.size;replace HC := HC.trans c27 (fun k hk => (List.mem_cons.1 hk).elim (fun h => .inr (by rw [h]; exact ge_b3)) (fun h => .inr (hob k h)))
     replace hob : ∀ k, k ∈ ob A28 → w.heap.size ≤ k := fun k hk => (hgr31 k hk).elim (fun h => hob k h) (fun h => by omega)
     refine en <| x_region rfl <| mS rfl <| mI rfl <| Wp rfl <| st_sslo (i := 1) T.u9 rfl ⟨_, rfl⟩ (by (first | omega | (simp only [List.length_drop]; omega))) <| aS rfl <| wops_nil <| block_n <| then_n <| ⟨(((r.drop 1).drop 1), out ++ (r.drop 1).take 1, A28, cap29), ?_, ?_, rfl, ⟨rfl, trivial⟩, ?_⟩
     ·refine ⟨?_, HC, hbd30⟩;exact ⟨by simp only [List.length_append, List.length_take, List.length_drop]; omega, by rw [htot, hun]; all_goals simp, hob⟩
     ·show (((r.drop 1).drop 1)).length < r.length; simp only [List.length_drop]; omega
     exact q9
    try simp only [nm, ne_eq] at h6
    have hn6 : byte r 1 ≠ 92 := fun e => h6 (by rw [e]; rfl)
    have hun := inner_on h0 (by rintro ⟨h7, h8, h9⟩; rcases h9 with h9 | h9 | h9 | h9 | h9; exact hn10 h9; exact hn3 h9; exact hn4 h9; exact hn5 h9; exact hn6 h9)
    refine x_skip <| block_n <| then_n <| sr rfl <| mS rfl <| mI rfl <| Wp rfl <| st_sshi (j := 1) T.u9 rfl ⟨_, rfl⟩ (by (first | omega | (simp only [List.length_drop]; omega))) <| Wp rfl <| st_call (ags := [_, _]) rfl rfl T.ent53 rfl (WriteStringP_spec (r.take 1) hbd (by simp only [List.length_take, List.length_drop]; omega)) ?_
    rintro _ w32 ⟨rfl, A34, cap35, hbd36, c33, hgr37⟩;have hszW := HC.size;replace HC := HC.trans c33 (fun k hk => (List.mem_cons.1 hk).elim (fun h => .inr (by rw [h]; exact ge_b3)) (fun h => .inr (hob k h)))
    replace hob : ∀ k, k ∈ ob A34 → w.heap.size ≤ k := fun k hk => (hgr37 k hk).elim (fun h => hob k h) (fun h => by omega)
    refine en <| x_region rfl <| mS rfl <| mI rfl <| Wp rfl <| st_sslo (i := 1) T.u9 rfl ⟨_, rfl⟩ (by (first | omega | (simp only [List.length_drop]; omega))) <| aS rfl <| wops_nil <| block_n <| then_n <| ⟨((r.drop 1), out ++ r.take 1, A34, cap35), ?_, ?_, rfl, ⟨rfl, trivial⟩, ?_⟩
    ·refine ⟨?_, HC, hbd36⟩;exact ⟨by simp only [List.length_append, List.length_take, List.length_drop]; omega, by rw [htot, hun]; all_goals simp, hob⟩
    ·show ((r.drop 1)).length < r.length; simp only [List.length_drop]; omega
    exact q9
   try simp only [nm, ne_eq] at h1
   have hun := inner_on h0 (by rintro ⟨h7, h8, _⟩; have h10 : ((byte r 0).toNat : Int) = 92 := (by rw [h8]; rfl); omega)
   refine x_skip <| then_n <| sr rfl <| mS rfl <| mI rfl <| Wp rfl <| st_sshi (j := 1) T.u9 rfl ⟨_, rfl⟩ (by (first | omega | (simp only [List.length_drop]; omega))) <| Wp rfl <| st_call (ags := [_, _]) rfl rfl T.ent53 rfl (WriteStringP_spec (r.take 1) hbd (by simp only [List.length_take, List.length_drop]; omega)) ?_
   rintro _ w38 ⟨rfl, A40, cap41, hbd42, c39, hgr43⟩;have hszW := HC.size;replace HC := HC.trans c39 (fun k hk => (List.mem_cons.1 hk).elim (fun h => .inr (by rw [h]; exact ge_b3)) (fun h => .inr (hob k h)))
   replace hob : ∀ k, k ∈ ob A40 → w.heap.size ≤ k := fun k hk => (hgr43 k hk).elim (fun h => hob k h) (fun h => by omega)
   refine en <| x_region rfl <| mS rfl <| mI rfl <| Wp rfl <| st_sslo (i := 1) T.u9 rfl ⟨_, rfl⟩ (by (first | omega | (simp only [List.length_drop]; omega))) <| aS rfl <| wops_nil <| block_n <| then_n <| ⟨((r.drop 1), out ++ r.take 1, A40, cap41), ?_, ?_, rfl, ⟨rfl, trivial⟩, ?_⟩
   ·refine ⟨?_, HC, hbd42⟩;exact ⟨by simp only [List.length_append, List.length_take, List.length_drop]; omega, by rw [htot, hun]; all_goals simp, hob⟩
   ·show ((r.drop 1)).length < r.length; simp only [List.length_drop]; omega
   exact q9
  try simp only [nm, ne_eq] at g7
  iterate 3 refine w_no 3 10 true ?_
  refine pF rfl rfl <| en <| x_cond (t := false) rfl (fun h1 => ?_) (fun h1 => ?_)
  · exact absurd h1 (by decide)
  have hun := inner_on h0 (by rintro ⟨h7, h8, _⟩; have h10 : ((byte r 0).toNat : Int) = 92 := (by rw [h8]; rfl); omega)
  refine x_skip <| then_n <| sr rfl <| mS rfl <| mI rfl <| Wp rfl <| st_sshi (j := 1) T.u9 rfl ⟨_, rfl⟩ (by (first | omega | (simp only [List.length_drop]; omega))) <| Wp rfl <| st_call (ags := [_, _]) rfl rfl T.ent53 rfl (WriteStringP_spec (r.take 1) hbd (by simp only [List.length_take, List.length_drop]; omega)) ?_
  rintro _ w44 ⟨rfl, A46, cap47, hbd48, c45, hgr49⟩;have hszW := HC.size;replace HC := HC.trans c45 (fun k hk => (List.mem_cons.1 hk).elim (fun h => .inr (by rw [h]; exact ge_b3)) (fun h => .inr (hob k h)))
  replace hob : ∀ k, k ∈ ob A46 → w.heap.size ≤ k := fun k hk => (hgr49 k hk).elim (fun h => hob k h) (fun h => by omega)
  refine en <| x_region rfl <| mS rfl <| mI rfl <| Wp rfl <| st_sslo (i := 1) T.u9 rfl ⟨_, rfl⟩ (by (first | omega | (simp only [List.length_drop]; omega))) <| aS rfl <| wops_nil <| block_n <| then_n <| ⟨((r.drop 1), out ++ r.take 1, A46, cap47), ?_, ?_, rfl, ⟨rfl, trivial⟩, ?_⟩
  ·refine ⟨?_, HC, hbd48⟩;exact ⟨by simp only [List.length_append, List.length_take, List.length_drop]; omega, by rw [htot, hun]; all_goals simp, hob⟩
  ·show ((r.drop 1)).length < r.length; simp only [List.length_drop]; omega
  exact q9
 try simp only [nm, ne_eq] at h0
 have hr0 : r = [] := by first | assumption | simpa using h0
 have hut : innerV s = out := by rw [htot, hr0]; simp [innerV]
 refine x_exit <| then_x <| then_x <| block_x <| then_n <| sr rfl <| Wp rfl <| st_call (ags := [_]) rfl rfl T.ent56 rfl (StringP_spec hbd) ?_;rintro _ w50 ⟨rfl, hbz, c51⟩;replace HC := HC.trans c51 (fun k hk => .inr (hob k hk))
 refine aS rfl <| en <| x_ret <| ret_tmp (v := S _) rfl rfl ?_;rw [hut];exact ⟨rfl, HC⟩
theorem trimLB_spec (s : Bytes) (w : World) : CallR Tryz.prog 58 #[S s, .int .u8 9] w fun v w' => v = S (trimT s) ∧ Chg [] w w' := by
 refine callR_of_wp (args := [_, _]) Tryz.func58 rfl (Nat.le_of_ble_eq_true rfl) ?_;have HC : Chg [] w w := .refl _;refine sr rfl <| aS rfl <| en <| x_seq <| x_block <| x_loop (ι := Bytes) [0, 5, 6, 7, 8, 9, 10, 11, 12, 13, 14, 15] (fun r => [(0, S r)]) (fun r W => (trimT s = trimT r) ∧ (Chg [] w W)) (fun r => r.length) s ?_ ?_ ?_
 · exact ⟨rfl, trivial⟩
 ·refine ⟨?_, HC⟩;exact rfl
 intro r G2 w1 ⟨htr, HC⟩
 change wp _ _ _ _ _ (upds (over _ _ G2) [(0, S r)]) _ _
 refine x_seq <| sr rfl <| mS rfl <| Wp rfl <| st_slen (ct := #[9]) T.u9 rfl <| Wp rfl <| st_gtr rfl rfl <| mB rfl <| w_split (d := 8) rfl (fun g3 => ?_) (fun g3 => ?_)
 ·try simp only [nm, ne_eq] at g3
  refine w_yes 3 8 true <| st_move (v := S _) rfl <| w_yes 3 8 true <| st_sidx T.u9 rfl rfl (by decide) q0 <| w_yes 3 8 true <| st_move (v := .int _ _) rfl <| w_yes 3 8 true <| st_eql rfl rfl <| pT rfl rfl <| en <| x_cond rfl (fun h0 => ?_) (fun h0 => ?_)
  ·try simp only [nm, ne_eq] at h0
   refine x_skip <| then_n <| x_block <| x_region rfl <| mS rfl <| Wp rfl <| st_sslo (i := 1) T.u9 rfl ⟨_, rfl⟩ q0 <| aS rfl <| wops_nil <| block_n <| then_n <| ⟨(r.drop 1), ?_, ?_, rfl, ⟨rfl, trivial⟩, ?_⟩
   ·refine ⟨?_, HC⟩;exact (htr.trans (trimT_cons q0 (u8_eq (by assumption) rfl)))
   ·show (r.drop 1).length < r.length; rw [List.length_drop]; omega
   exact q9
  try simp only [nm, ne_eq] at h0
  have hst : trimT s = r := by rw [htr]; refine trimT_stop ?_; first | (left; exact List.length_eq_zero_iff.1 q0) | (right; intro e; first | (have h10 : ((byte r 0).toNat : Int) = 9 := (by rw [e]; rfl); omega) | simp_all)
  refine x_exit <| then_x <| then_x <| block_x <| then_n <| sr rfl <| mS rfl <| aS rfl <| en <| x_ret <| ret_tmp (v := S _) rfl rfl ?_;exact ⟨by rw [hst], HC⟩
 try simp only [nm, ne_eq] at g3
 iterate 4 refine w_no 3 8 true ?_
 refine pF rfl rfl <| en <| x_cond (t := false) rfl (fun h0 => ?_) (fun h0 => ?_)
 · exact absurd h0 (by decide)
 have hst : trimT s = r := by rw [htr]; refine trimT_stop ?_; first | (left; exact List.length_eq_zero_iff.1 q0) | (right; intro e; first | (have h10 : ((byte r 0).toNat : Int) = 9 := (by rw [e]; rfl); omega) | simp_all)
 refine x_exit <| then_x <| then_x <| block_x <| then_n <| sr rfl <| mS rfl <| aS rfl <| en <| x_ret <| ret_tmp (v := S _) rfl rfl ?_;exact ⟨by rw [hst], HC⟩
theorem TrimLeft_spec (s : Bytes) (w : World) : CallR Tryz.prog 39 #[S s, S [9]] w fun v w' => v = S (trimT s) ∧ Chg [] w w' := by
 refine callR_of_wp (args := [_, _]) Tryz.func39 rfl (Nat.le_of_ble_eq_true rfl) ?_;have HC : Chg [] w w := .refl _;refine sr rfl <| aS rfl <| en <| x_seq <| sr rfl <| mS rfl <| Wp rfl <| st_seql rfl rfl <| mB rfl <| w_split (d := 9) rfl (fun g1 => ?_) (fun g1 => ?_)
 ·try simp only [nm, ne_eq] at g1
  refine w_no 2 9 false <| w_no 2 9 false <| pT rfl rfl <| en <| x_cond (t := true) rfl (fun h0 => ?_) (fun h0 => ?_)
  rotate_left
  · exact absurd h0 (by decide)
  refine sr rfl <| mS rfl <| aS rfl <| en <| x_ret <| then_r <| ret_tmp (v := S _) rfl rfl ?_;exact ⟨congrArg S (by rw [show s = [] by first | assumption | simp_all]; rfl), HC⟩
 try simp only [nm, ne_eq] at g1
 refine w_yes 2 9 false <| st_move (v := S _) rfl <| w_yes 2 9 false <| st_seql rfl rfl <| pF rfl rfl <| en <| x_cond rfl (fun h0 => ?_) (fun h0 => ?_)
 ·try simp only [nm, ne_eq] at h0
  refine sr rfl <| mS rfl <| aS rfl <| en <| x_ret <| then_r <| ret_tmp (v := S _) rfl rfl ?_;exact ⟨congrArg S (by rw [show s = [] by first | assumption | simp_all]; rfl), HC⟩
 try simp only [nm, ne_eq] at h0
 refine x_skip <| then_n <| x_seq <| sr rfl <| mS rfl <| Wp rfl <| st_slen (ct := #[9]) T.u9 rfl <| Wp rfl <| st_eql rfl rfl <| mB rfl <| w_split (d := 17) rfl (fun g2 => ?_) (fun g2 => ?_)
 ·try simp only [nm, ne_eq] at g2
  refine w_yes 3 17 true <| st_move (v := S _) rfl <| w_yes 3 17 true <| st_sidx T.u9 rfl rfl (by decide) (by decide) <| w_yes 3 17 true <| st_lss rfl rfl <| pT rfl rfl <| en <| x_cond rfl (fun h1 => ?_) (fun h1 => ?_)
  ·try simp only [nm, ne_eq] at h1
   refine sr rfl <| mS rfl <| mS rfl <| Wp rfl <| st_sidx T.u9 rfl rfl (by decide) (by decide) <| Wp rfl <| st_call (ags := [_, _]) rfl rfl T.ent58 rfl (trimLB_spec s _) ?_
   rintro _ w3 ⟨rfl, c4⟩;replace HC := HC.then c4;refine aS rfl <| en <| x_ret <| then_r <| ret_tmp (v := S _) rfl rfl ?_;exact ⟨rfl, HC⟩
  try simp only [nm, ne_eq] at h1
  first | exact absurd rfl h1 | (simp at h1; done) | exact absurd h1 (by decide)
 try simp only [nm, ne_eq] at g2
 first | exact absurd rfl g2 | (simp at g2; done) | exact absurd g2 (by decide)
theorem meta_spec (c : UInt8) (w : World) : CallR Tryz.prog 47 #[.int .u8 (c.toNat : Int)] w fun v w' => v = .bool (metaB c) ∧ Chg [] w w' := by
 refine callR_of_wp (args := [_]) Tryz.func47 rfl (Nat.le_of_ble_eq_true rfl) ?_;have HC : Chg [] w w := .refl _;refine sr rfl <| aB rfl <| en <| sr rfl <| mI rfl <| Wp rfl <| st_call (ags := [_, _]) rfl rfl T.ent46 rfl (IndexByte_spec metas c _) ?_;rintro _ w1 ⟨rfl, c2⟩;replace HC := HC.then c2;refine Wp rfl <| st_geq rfl rfl <| aB rfl <| en <| x_ret <| ret_tmp (v := .bool _) rfl rfl ?_;exact ⟨rfl, HC⟩
theorem operators_spec (w : World) (ht : Tab w) : CallR Tryz.prog 48 #[] w fun v w' => ∃ b, v = .slice (some ⟨b, 0, none⟩) opsT.length opsT.length ∧ w.heap.size ≤ b ∧ Sl sE w' (fun k => k = b) (some ⟨b, 0, none⟩) opsT ∧ Chg [] w w' := by
 refine callR_of_wp (args := []) Tryz.func48 rfl (Nat.le_of_ble_eq_true rfl) ?_;have HC : Chg [] w w := .refl _;have ht1 := ht.lt;refine sr rfl <| aL rfl <| en <| sr rfl <| Wp rfl <| st_call (ags := [_]) rfl rfl T.ent62 rfl (Fields_spec [60, 60, 45, 32, 38, 38, 32, 124, 124, 32, 59, 59, 32, 60, 60, 32, 62, 62, 32, 60, 38, 32, 62, 38, 32, 60, 62, 32, 62, 124, 32, 59, 32, 38, 32, 124, 32, 60, 32, 62, 32, 40, 32, 41] _ (by decide) (all128 _ rfl) ht) ?_
 rintro _ w1 ⟨bf, rfl, hgf, hsf, c2⟩;rw [fields_opsT] at hsf ⊢;replace HC := HC.then c2;refine aL rfl <| en <| x_ret <| ret_tmp (v := .slice _ _ _) rfl rfl ?_;exact ⟨bf, rfl, hgf, hsf, HC⟩
theorem tnext1_spec {bs : Nat} {s : Bytes} {w : World} (o : Bytes) (hb : Blk w bs [S s] 9) : CallR Tryz.prog 50 #[S o, .pointer (some ⟨bs, 0, none⟩)] w fun v w' => v = .bool (preO s o) ∧ Chg [] w w' := by
 refine callR_of_wp (args := [_, _]) Tryz.func50 rfl (Nat.le_of_ble_eq_true rfl) ?_;have HC : Chg [] w w := .refl _;refine sr rfl <| aB rfl <| en <| sr rfl <| lS T.one9 rfl (hb.cell rfl) <| mS rfl <| Wp rfl <| st_call (ags := [_, _]) rfl rfl T.ent27 rfl (HasPrefix_spec _ _ _) ?_;rintro _ w1 ⟨rfl, c2⟩;replace HC := HC.then c2;refine aB rfl <| en <| x_ret <| ret_tmp (v := .bool _) rfl rfl ?_;exact ⟨rfl, HC⟩
open Go Go.Proofs Go.RowKit
theorem innerV_le : ∀ (n : Nat) (s : Bytes), s.length ≤ n → (innerV s).length ≤ s.length
  | 0, s, h => by rw [show s = [] from List.length_eq_zero_iff.1 q0]; simp [innerV]
  | n + 1, [], _ => by simp [innerV]
  | n + 1, [c], _ => by simp [innerV]
  | n + 1, c :: d :: t, h => by
    simp only [List.length_cons] at h
    have h1 := innerV_le n t q0;have h2 := innerV_le n (d :: t) (by simp only [List.length_cons]; omega)
    simp only [List.length_cons] at h2
    rw [innerV]
    split
    · split
      · simp only [List.length_cons]; omega
      split
      · simp only [List.length_cons]; omega
      simp only [List.length_cons]; omega
    simp only [List.length_cons]; omega
theorem trimP_le (s p : Bytes) : (trimP s p).length ≤ s.length := by unfold trimP; split <;> simp
theorem partW_le (w : Bytes) {n : Nat} (hn : n ≤ w.length) : (partW w n).length ≤ n := by
  unfold partW
  split
  · simp only [List.length_drop, List.length_take]; omega
  split
  · have := innerV_le _ ((w.take (n - 1)).drop 1) (Nat.le_refl _);simp only [List.length_drop, List.length_take] at this; omega
  split
  · have := trimP_le ((w.take n).drop 1) [10];simp only [List.length_drop, List.length_take] at this; omega
  simp only [List.length_take]; omega
theorem quo_eq (c : UInt8) : decide (0 ≤ idx [39, 34, 92] c) = quoB c := by
  rw [Bool.eq_iff_iff, decide_eq_true_eq, in3a]; simp only [quoB, Bool.or_eq_true, beq_iff_eq]
  constructor
  · rintro (h | h | h) <;> simp [h]
  rintro ((h | h) | h) <;> simp [h]
theorem plainF_ok {k : Nat} {r : Bytes} {n : Nat} (hr : r ≠ []) (hn : skipL 64 r = .ok n) : plainF (k + 1) r = (partW r n ++ (plainF k (r.drop n)).1, quoB (byte r 0) || (plainF k (r.drop n)).2) := by
  rw [plainF, if_neg hr, hn]
theorem plainF_err {k : Nat} {r : Bytes} {e : Nat} (hr : r ≠ []) (he : skipL 64 r = .error e) : plainF (k + 1) r = (r, quoB (byte r 0)) := by
  rw [plainF, if_neg hr, he]
theorem take_take' {r : Bytes} {n : Nat} : (r.take n).take (n - 1) = r.take (n - 1) := by rw [List.take_take, Nat.min_eq_left q0]
theorem trimP_eq (s p : Bytes) : Lib.trimPrefix s p = trimP s p := rfl
theorem Plain_spec (s : Bytes) (w : World) (hs : s.length < 4294967281) : CallR Tryz.prog 37 #[S s] w fun v w' => v = .tuple ⟨[S (plainV s).1, .bool (plainV s).2]⟩ ∧ Chg [] w w' := by
 refine callR_of_wp (args := [_]) Tryz.func37 rfl (Nat.le_of_ble_eq_true rfl) ?_;have HC : Chg [] w w := .refl _;refine sr rfl <| aS rfl <| aB rfl <| en <| sr rfl <| Wp rfl <| st_alloc T.zero98 ?_;intro b4 w1 e2 c3 hb4;have ge_b4 := gB e2 HC.size;replace HC := HC.then c3;clear e2;refine en <| sr rfl <| aB rfl <| en <| x_seq <| x_block ?_;have hbd := BldP.new hb4;refine x_loop (ι := Bytes × Nat × Bytes × Bool × Option Addr × Nat) [0, 5, 6, 7, 8, 9, 10, 11, 12, 13, 14, 15, 16, 17, 18, 19, 20, 21, 22, 23, 24, 25, 26, 27, 28, 29, 30, 31, 32, 33, 34, 35, 36, 37, 38, 39, 40, 41, 42, 43, 44, 45, 46, 47, 48, 49, 50, 51, 52, 53, 54] (fun ⟨r, k, out, q, A, cap⟩ => [(0, S r), (5, .bool q)]) (fun ⟨r, k, out, q, A, cap⟩ W => (r.length ≤ k ∧ out.length + r.length ≤ s.length ∧ plainV s = (out ++ (plainF k r).1, q || (plainF k r).2) ∧ (∀ k, k ∈ ob A → w.heap.size ≤ k)) ∧ (Chg [] w W) ∧ (BldP W b4 A cap out [])) (fun ⟨r, k, out, q, A, cap⟩ => r.length) (s, s.length, [], false, none, 0) ?_ ?_ ?_
 · exact ⟨rfl, rfl, trivial⟩
 ·refine ⟨?_, HC, hbd⟩;exact ⟨Nat.le_refl _, by simp, by simp [plainV], (fun k hk => by cases hk)⟩
 intro ⟨r, k, out, q, A, cap⟩ G6 w5 ⟨⟨hrk, hol, htot, hob⟩, HC, hbd⟩
 change wp _ _ _ _ _ (upds (over _ _ G6) [(0, S r), (5, .bool q)]) _ _
 refine x_seq <| sr rfl <| mS rfl <| Wp rfl <| st_sneq rfl rfl <| en <| x_cond rfl (fun h0 => ?_) (fun h0 => ?_)
 ·try simp only [nm, ne_eq] at h0
  have hr1 := List.length_pos_iff.2 h0;obtain ⟨k, rfl⟩ : ∃ j, k = j + 1 := ⟨k - 1, by omega⟩
  refine x_skip <| then_n <| x_block <| sr rfl <| mB rfl <| mB rfl <| w_split (d := 12) rfl (fun g7 => ?_) (fun g7 => ?_)
  ·try simp only [nm, ne_eq] at g7
   iterate 4 refine w_no 1 12 false ?_
   refine pT rfl rfl <| aB rfl <| en <| x_seq ?_
   rcases skip_cases r h0 with ⟨n, hn, hn1, hn2⟩ | ⟨e, he, he0⟩
   ·refine x_region rfl <| mS rfl <| Wp rfl <| st_call (ags := [_, _]) rfl rfl T.ent51 rfl (Skip_ok r _ q0 h0 hn) ?_;rintro _ w8 ⟨rfl, c9⟩;replace HC := HC.then c9;replace hbd := hbd.tr0 c9;refine mv (v := .tuple ⟨[_, _]⟩) rfl <| Wp rfl <| st_extract (vs := [_, _]) (v := .int _ _) rfl rfl <| Wp rfl <| st_extract (vs := [_, _]) (v := .int _ _) rfl rfl <| aI rfl <| aI rfl <| en <| x_seq <| sr rfl <| mI rfl <| Wp rfl <| st_neq rfl rfl <| en <| x_cond rfl (fun h1 => ?_) (fun h1 => ?_)
    ·try simp only [nm, ne_eq] at h1
     first | exact absurd rfl h1 | exact absurd trivial h1 | (simp at h1; done)
    try simp only [nm, ne_eq] at h1
    refine x_skip <| then_n <| sr rfl <| mS rfl <| mI rfl <| Wp rfl <| st_sshi (j := n) T.u9 rfl ⟨_, rfl⟩ q0 <| aS rfl <| en <| x_seq <| sr rfl <| mS rfl <| Wp rfl <| st_sidx T.u9 rfl rfl (by decide) q0 <| en <| x_block <| sr rfl <| Wp rfl <| st_eql rfl rfl <| aB rfl <| en <| x_cond rfl (fun h2 => ?_) (fun h2 => ?_)
    ·try simp only [nm, ne_eq] at h2
     have hc0 : byte r 0 = 39 := u8_eq h2 rfl;have hn3 := two_le h0 hn (.inl hc0);have hs1 : IntKind.i64.wrap ((n : Int) - 1) = ((n - 1 : Nat) : Int) := by rw [wrap64_id q0 q0]; omega
     have hpw : ((r.take n).take (n - 1)).drop 1 = partW r n := by rw [take_take', partW, if_pos hc0]
     refine x_region rfl <| mS rfl <| mI rfl <| Wp rfl <| st_subk rfl rfl (by exact hs1) <| Wp rfl <| st_sslice (i := 1) (j := n - 1) T.u9 rfl ⟨_, rfl⟩ ⟨_, rfl⟩ q0 (by (simp only [List.length_take]; omega)) <| aS rfl <| wops_nil <| block_n <| then_n <| x_seq ?_
     rw [hpw]
     refine x_region rfl <| mS rfl <| Wp rfl <| st_call (ags := [_, _]) rfl rfl T.ent53 rfl (WriteStringP_spec (partW r n) hbd (by have := partW_le r hn2; omega)) ?_
     rintro _ w10 ⟨rfl, A12, cap13, hbd14, c11, hgr15⟩;have hszW := HC.size;replace HC := HC.trans c11 (fun k hk => (List.mem_cons.1 hk).elim (fun h => .inr (by rw [h]; exact ge_b4)) (fun h => .inr (hob k h)))
     replace hob : ∀ k, k ∈ ob A12 → w.heap.size ≤ k := fun k hk => (hgr15 k hk).elim (fun h => hob k h) (fun h => by omega)
     refine en <| x_region rfl <| mS rfl <| mI rfl <| Wp rfl <| st_sslo (i := n) T.u9 rfl ⟨_, rfl⟩ q0 <| aS rfl <| wops_nil <| block_n <| then_n <| ⟨(r.drop n, k, out ++ (partW r n), q || quoB (byte r 0), A12, cap13), ?_, ?_, rfl, ⟨rfl, (congrArg Value.bool (by rw [show q = true by first | assumption | simp_all]; rfl)), trivial⟩, ?_⟩
     ·refine ⟨?_, HC, hbd14⟩;exact ⟨by rw [List.length_drop]; omega, by have := partW_le r hn2; simp only [List.length_append, List.length_drop]; omega, by rw [htot, plainF_ok h0 hn]; simp [Bool.or_assoc], hob⟩
     ·show (r.drop n).length < r.length; rw [List.length_drop]; omega
     exact q9
    try simp only [nm, ne_eq] at h2
    have hc2 : byte r 0 ≠ 39 := fun e => h2 (by rw [e]; rfl)
    refine sr rfl <| Wp rfl <| st_eql rfl rfl <| aB rfl <| en <| x_cond rfl (fun h3 => ?_) (fun h3 => ?_)
    ·try simp only [nm, ne_eq] at h3
     have hc0 : byte r 0 = 34 := u8_eq h3 rfl;have hn3 := two_le h0 hn (.inr (.inl hc0));have hs1 : IntKind.i64.wrap ((n : Int) - 1) = ((n - 1 : Nat) : Int) := by rw [wrap64_id q0 q0]; omega
     have hpw : innerV (((r.take n).take (n - 1)).drop 1) = partW r n := by rw [take_take', partW, if_neg hc2, if_pos hc0]
     refine x_region rfl <| mS rfl <| mI rfl <| Wp rfl <| st_subk rfl rfl (by exact hs1) <| Wp rfl <| st_sslice (i := 1) (j := n - 1) T.u9 rfl ⟨_, rfl⟩ ⟨_, rfl⟩ q0 (by (simp only [List.length_take]; omega)) <| Wp rfl <| st_call (ags := [_]) rfl rfl T.ent54 rfl (inner_spec (((r.take n).take (n - 1)).drop 1) _ (by simp only [List.length_drop, List.length_take]; omega)) ?_
     rintro _ w16 ⟨rfl, c17⟩;replace HC := HC.then c17;replace hbd := hbd.tr0 c17;refine aS rfl <| wops_nil <| block_n <| then_n <| x_seq ?_;rw [hpw];refine x_region rfl <| mS rfl <| Wp rfl <| st_call (ags := [_, _]) rfl rfl T.ent53 rfl (WriteStringP_spec (partW r n) hbd (by have := partW_le r hn2; omega)) ?_
     rintro _ w18 ⟨rfl, A20, cap21, hbd22, c19, hgr23⟩;have hszW := HC.size;replace HC := HC.trans c19 (fun k hk => (List.mem_cons.1 hk).elim (fun h => .inr (by rw [h]; exact ge_b4)) (fun h => .inr (hob k h)))
     replace hob : ∀ k, k ∈ ob A20 → w.heap.size ≤ k := fun k hk => (hgr23 k hk).elim (fun h => hob k h) (fun h => by omega)
     refine en <| x_region rfl <| mS rfl <| mI rfl <| Wp rfl <| st_sslo (i := n) T.u9 rfl ⟨_, rfl⟩ q0 <| aS rfl <| wops_nil <| block_n <| then_n <| ⟨(r.drop n, k, out ++ (partW r n), q || quoB (byte r 0), A20, cap21), ?_, ?_, rfl, ⟨rfl, (congrArg Value.bool (by rw [show q = true by first | assumption | simp_all]; rfl)), trivial⟩, ?_⟩
     ·refine ⟨?_, HC, hbd22⟩;exact ⟨by rw [List.length_drop]; omega, by have := partW_le r hn2; simp only [List.length_append, List.length_drop]; omega, by rw [htot, plainF_ok h0 hn]; simp [Bool.or_assoc], hob⟩
     ·show (r.drop n).length < r.length; rw [List.length_drop]; omega
     exact q9
    try simp only [nm, ne_eq] at h3
    have hc3 : byte r 0 ≠ 34 := fun e => h3 (by rw [e]; rfl)
    refine sr rfl <| Wp rfl <| st_eql rfl rfl <| aB rfl <| en <| x_cond rfl (fun h4 => ?_) (fun h4 => ?_)
    ·try simp only [nm, ne_eq] at h4
     have hc0 : byte r 0 = 92 := u8_eq h4 rfl;have hpw : trimP ((r.take n).drop 1) [10] = partW r n := by rw [partW, if_neg hc2, if_neg hc3, if_pos hc0]
     refine x_region rfl <| mS rfl <| Wp rfl <| st_sslo (i := 1) T.u9 rfl ⟨_, rfl⟩ (by (simp only [List.length_take]; omega)) <| Wp rfl <| st_call (ags := [_, _]) rfl rfl T.ent55 rfl (TrimPrefix_spec ((r.take n).drop 1) [10] _) ?_
     rintro _ w24 ⟨rfl, c25⟩;replace HC := HC.then c25;replace hbd := hbd.tr0 c25;rw [trimP_eq];refine aS rfl <| wops_nil <| block_n <| then_n <| x_seq ?_;rw [hpw];refine x_region rfl <| mS rfl <| Wp rfl <| st_call (ags := [_, _]) rfl rfl T.ent53 rfl (WriteStringP_spec (partW r n) hbd (by have := partW_le r hn2; omega)) ?_
     rintro _ w26 ⟨rfl, A28, cap29, hbd30, c27, hgr31⟩;have hszW := HC.size;replace HC := HC.trans c27 (fun k hk => (List.mem_cons.1 hk).elim (fun h => .inr (by rw [h]; exact ge_b4)) (fun h => .inr (hob k h)))
     replace hob : ∀ k, k ∈ ob A28 → w.heap.size ≤ k := fun k hk => (hgr31 k hk).elim (fun h => hob k h) (fun h => by omega)
     refine en <| x_region rfl <| mS rfl <| mI rfl <| Wp rfl <| st_sslo (i := n) T.u9 rfl ⟨_, rfl⟩ q0 <| aS rfl <| wops_nil <| block_n <| then_n <| ⟨(r.drop n, k, out ++ (partW r n), q || quoB (byte r 0), A28, cap29), ?_, ?_, rfl, ⟨rfl, (congrArg Value.bool (by rw [show q = true by first | assumption | simp_all]; rfl)), trivial⟩, ?_⟩
     ·refine ⟨?_, HC, hbd30⟩;exact ⟨by rw [List.length_drop]; omega, by have := partW_le r hn2; simp only [List.length_append, List.length_drop]; omega, by rw [htot, plainF_ok h0 hn]; simp [Bool.or_assoc], hob⟩
     ·show (r.drop n).length < r.length; rw [List.length_drop]; omega
     exact q9
    try simp only [nm, ne_eq] at h4
    have hc4 : byte r 0 ≠ 92 := fun e => h4 (by rw [e]; rfl)
    have hpw : r.take n = partW r n := by rw [partW, if_neg hc2, if_neg hc3, if_neg hc4]
    refine x_skip <| block_n <| then_n <| x_seq ?_;rw [hpw];refine x_region rfl <| mS rfl <| Wp rfl <| st_call (ags := [_, _]) rfl rfl T.ent53 rfl (WriteStringP_spec (partW r n) hbd (by have := partW_le r hn2; omega)) ?_
    rintro _ w32 ⟨rfl, A34, cap35, hbd36, c33, hgr37⟩;have hszW := HC.size;replace HC := HC.trans c33 (fun k hk => (List.mem_cons.1 hk).elim (fun h => .inr (by rw [h]; exact ge_b4)) (fun h => .inr (hob k h)))
    replace hob : ∀ k, k ∈ ob A34 → w.heap.size ≤ k := fun k hk => (hgr37 k hk).elim (fun h => hob k h) (fun h => by omega)
    refine en <| x_region rfl <| mS rfl <| mI rfl <| Wp rfl <| st_sslo (i := n) T.u9 rfl ⟨_, rfl⟩ q0 <| aS rfl <| wops_nil <| block_n <| then_n <| ⟨(r.drop n, k, out ++ (partW r n), q || quoB (byte r 0), A34, cap35), ?_, ?_, rfl, ⟨rfl, (congrArg Value.bool (by rw [show q = true by first | assumption | simp_all]; rfl)), trivial⟩, ?_⟩
    ·refine ⟨?_, HC, hbd36⟩;exact ⟨by rw [List.length_drop]; omega, by have := partW_le r hn2; simp only [List.length_append, List.length_drop]; omega, by rw [htot, plainF_ok h0 hn]; simp [Bool.or_assoc], hob⟩
    ·show (r.drop n).length < r.length; rw [List.length_drop]; omega
    exact q9
   refine x_region rfl <| mS rfl <| Wp rfl <| st_call (ags := [_, _]) rfl rfl T.ent51 rfl (Skip_err r _ q0 h0 he) ?_;rintro _ w38 ⟨rfl, c39⟩;replace HC := HC.then c39;replace hbd := hbd.tr0 c39;refine mv (v := .tuple ⟨[_, _]⟩) rfl <| Wp rfl <| st_extract (vs := [_, _]) (v := .int _ _) rfl rfl <| Wp rfl <| st_extract (vs := [_, _]) (v := .int _ _) rfl rfl <| aI rfl <| aI rfl <| en <| x_seq <| sr rfl <| mI rfl <| Wp rfl <| st_neq rfl rfl <| en <| x_cond rfl (fun h1 => ?_) (fun h1 => ?_)
   ·try simp only [nm, ne_eq] at h1
    have hut : plainV s = (out ++ r, q || quoB (byte r 0)) := by rw [htot, plainF_err h0 he]
    refine sr rfl <| mS rfl <| Wp rfl <| st_call (ags := [_, _]) rfl rfl T.ent53 rfl (WriteStringP_spec r hbd q0) ?_;rintro _ w40 ⟨rfl, A42, cap43, hbd44, c41, hgr45⟩;have hszW := HC.size;replace HC := HC.trans c41 (fun k hk => (List.mem_cons.1 hk).elim (fun h => .inr (by rw [h]; exact ge_b4)) (fun h => .inr (hob k h)))
    replace hob : ∀ k, k ∈ ob A42 → w.heap.size ≤ k := fun k hk => (hgr45 k hk).elim (fun h => hob k h) (fun h => by omega)
    refine en <| x_exit <| then_x <| block_o rfl <| then_x <| block_x <| then_n <| sr rfl <| Wp rfl <| st_call (ags := [_]) rfl rfl T.ent56 rfl (StringP_spec hbd44) ?_;rintro _ w46 ⟨rfl, hbz, c47⟩;replace HC := HC.trans c47 (fun k hk => .inr (hob k hk))
    refine mB rfl <| aS rfl <| aB rfl <| en <| x_ret <| ret_tmp2 (v := S _) (v2 := .bool _) rfl rfl rfl ?_;rw [hut];exact ⟨by rw [show true = (q || quoB (byte r 0)) from by rw [show q = true by first | assumption | simp_all]; rfl], HC⟩
   try simp only [nm, ne_eq] at h1
   exfalso; first | omega | simp_all
  try simp only [nm, ne_eq] at g7
  refine w_yes 1 12 false <| st_move (v := S _) rfl <| w_yes 1 12 false <| st_sidx T.u9 rfl rfl (by decide) q0 <| w_yes 1 12 false <| st_call (ags := [_, _]) rfl rfl T.ent46 rfl (IndexByte_spec [39, 34, 92] (byte r 0) _) ?_
  rintro _ w48 ⟨rfl, c49⟩;replace HC := HC.then c49;replace hbd := hbd.tr0 c49;refine w_yes 1 12 false <| st_geq rfl rfl <| pF rfl rfl <| aB rfl <| en <| x_seq ?_
  rcases skip_cases r h0 with ⟨n, hn, hn1, hn2⟩ | ⟨e, he, he0⟩
  ·refine x_region rfl <| mS rfl <| Wp rfl <| st_call (ags := [_, _]) rfl rfl T.ent51 rfl (Skip_ok r _ q0 h0 hn) ?_;rintro _ w50 ⟨rfl, c51⟩;replace HC := HC.then c51;replace hbd := hbd.tr0 c51;refine mv (v := .tuple ⟨[_, _]⟩) rfl <| Wp rfl <| st_extract (vs := [_, _]) (v := .int _ _) rfl rfl <| Wp rfl <| st_extract (vs := [_, _]) (v := .int _ _) rfl rfl <| aI rfl <| aI rfl <| en <| x_seq <| sr rfl <| mI rfl <| Wp rfl <| st_neq rfl rfl <| en <| x_cond rfl (fun h1 => ?_) (fun h1 => ?_)
   ·try simp only [nm, ne_eq] at h1
    first | exact absurd rfl h1 | exact absurd trivial h1 | (simp at h1; done)
   try simp only [nm, ne_eq] at h1
   refine x_skip <| then_n <| sr rfl <| mS rfl <| mI rfl <| Wp rfl <| st_sshi (j := n) T.u9 rfl ⟨_, rfl⟩ q0 <| aS rfl <| en <| x_seq <| sr rfl <| mS rfl <| Wp rfl <| st_sidx T.u9 rfl rfl (by decide) q0 <| en <| x_block <| sr rfl <| Wp rfl <| st_eql rfl rfl <| aB rfl <| en <| x_cond rfl (fun h2 => ?_) (fun h2 => ?_)
   ·try simp only [nm, ne_eq] at h2
    have hc0 : byte r 0 = 39 := u8_eq h2 rfl;have hn3 := two_le h0 hn (.inl hc0);have hs1 : IntKind.i64.wrap ((n : Int) - 1) = ((n - 1 : Nat) : Int) := by rw [wrap64_id q0 q0]; omega
    have hpw : ((r.take n).take (n - 1)).drop 1 = partW r n := by rw [take_take', partW, if_pos hc0]
    refine x_region rfl <| mS rfl <| mI rfl <| Wp rfl <| st_subk rfl rfl (by exact hs1) <| Wp rfl <| st_sslice (i := 1) (j := n - 1) T.u9 rfl ⟨_, rfl⟩ ⟨_, rfl⟩ q0 (by (simp only [List.length_take]; omega)) <| aS rfl <| wops_nil <| block_n <| then_n <| x_seq ?_
    rw [hpw]
    refine x_region rfl <| mS rfl <| Wp rfl <| st_call (ags := [_, _]) rfl rfl T.ent53 rfl (WriteStringP_spec (partW r n) hbd (by have := partW_le r hn2; omega)) ?_
    rintro _ w52 ⟨rfl, A54, cap55, hbd56, c53, hgr57⟩;have hszW := HC.size;replace HC := HC.trans c53 (fun k hk => (List.mem_cons.1 hk).elim (fun h => .inr (by rw [h]; exact ge_b4)) (fun h => .inr (hob k h)))
    replace hob : ∀ k, k ∈ ob A54 → w.heap.size ≤ k := fun k hk => (hgr57 k hk).elim (fun h => hob k h) (fun h => by omega)
    refine en <| x_region rfl <| mS rfl <| mI rfl <| Wp rfl <| st_sslo (i := n) T.u9 rfl ⟨_, rfl⟩ q0 <| aS rfl <| wops_nil <| block_n <| then_n <| ⟨(r.drop n, k, out ++ (partW r n), q || quoB (byte r 0), A54, cap55), ?_, ?_, rfl, ⟨rfl, (congrArg Value.bool (by rw [show q = false by first | assumption | simp_all, Bool.false_or]; exact quo_eq _)), trivial⟩, ?_⟩
    ·refine ⟨?_, HC, hbd56⟩;exact ⟨by rw [List.length_drop]; omega, by have := partW_le r hn2; simp only [List.length_append, List.length_drop]; omega, by rw [htot, plainF_ok h0 hn]; simp [Bool.or_assoc], hob⟩
    ·show (r.drop n).length < r.length; rw [List.length_drop]; omega
    exact q9
   try simp only [nm, ne_eq] at h2
   have hc2 : byte r 0 ≠ 39 := fun e => h2 (by rw [e]; rfl)
   refine sr rfl <| Wp rfl <| st_eql rfl rfl <| aB rfl <| en <| x_cond rfl (fun h3 => ?_) (fun h3 => ?_)
   ·try simp only [nm, ne_eq] at h3
    have hc0 : byte r 0 = 34 := u8_eq h3 rfl;have hn3 := two_le h0 hn (.inr (.inl hc0));have hs1 : IntKind.i64.wrap ((n : Int) - 1) = ((n - 1 : Nat) : Int) := by rw [wrap64_id q0 q0]; omega
    have hpw : innerV (((r.take n).take (n - 1)).drop 1) = partW r n := by rw [take_take', partW, if_neg hc2, if_pos hc0]
    refine x_region rfl <| mS rfl <| mI rfl <| Wp rfl <| st_subk rfl rfl (by exact hs1) <| Wp rfl <| st_sslice (i := 1) (j := n - 1) T.u9 rfl ⟨_, rfl⟩ ⟨_, rfl⟩ q0 (by (simp only [List.length_take]; omega)) <| Wp rfl <| st_call (ags := [_]) rfl rfl T.ent54 rfl (inner_spec (((r.take n).take (n - 1)).drop 1) _ (by simp only [List.length_drop, List.length_take]; omega)) ?_
    rintro _ w58 ⟨rfl, c59⟩;replace HC := HC.then c59;replace hbd := hbd.tr0 c59;refine aS rfl <| wops_nil <| block_n <| then_n <| x_seq ?_;rw [hpw];refine x_region rfl <| mS rfl <| Wp rfl <| st_call (ags := [_, _]) rfl rfl T.ent53 rfl (WriteStringP_spec (partW r n) hbd (by have := partW_le r hn2; omega)) ?_
    rintro _ w60 ⟨rfl, A62, cap63, hbd64, c61, hgr65⟩;have hszW := HC.size;replace HC := HC.trans c61 (fun k hk => (List.mem_cons.1 hk).elim (fun h => .inr (by rw [h]; exact ge_b4)) (fun h => .inr (hob k h)))
    replace hob : ∀ k, k ∈ ob A62 → w.heap.size ≤ k := fun k hk => (hgr65 k hk).elim (fun h => hob k h) (fun h => by omega)
    refine en <| x_region rfl <| mS rfl <| mI rfl <| Wp rfl <| st_sslo (i := n) T.u9 rfl ⟨_, rfl⟩ q0 <| aS rfl <| wops_nil <| block_n <| then_n <| ⟨(r.drop n, k, out ++ (partW r n), q || quoB (byte r 0), A62, cap63), ?_, ?_, rfl, ⟨rfl, (congrArg Value.bool (by rw [show q = false by first | assumption | simp_all, Bool.false_or]; exact quo_eq _)), trivial⟩, ?_⟩
    ·refine ⟨?_, HC, hbd64⟩;exact ⟨by rw [List.length_drop]; omega, by have := partW_le r hn2; simp only [List.length_append, List.length_drop]; omega, by rw [htot, plainF_ok h0 hn]; simp [Bool.or_assoc], hob⟩
    ·show (r.drop n).length < r.length; rw [List.length_drop]; omega
    exact q9
   try simp only [nm, ne_eq] at h3
   have hc3 : byte r 0 ≠ 34 := fun e => h3 (by rw [e]; rfl)
   refine sr rfl <| Wp rfl <| st_eql rfl rfl <| aB rfl <| en <| x_cond rfl (fun h4 => ?_) (fun h4 => ?_)
   ·try simp only [nm, ne_eq] at h4
    have hc0 : byte r 0 = 92 := u8_eq h4 rfl;have hpw : trimP ((r.take n).drop 1) [10] = partW r n := by rw [partW, if_neg hc2, if_neg hc3, if_pos hc0]
    refine x_region rfl <| mS rfl <| Wp rfl <| st_sslo (i := 1) T.u9 rfl ⟨_, rfl⟩ (by (simp only [List.length_take]; omega)) <| Wp rfl <| st_call (ags := [_, _]) rfl rfl T.ent55 rfl (TrimPrefix_spec ((r.take n).drop 1) [10] _) ?_
    rintro _ w66 ⟨rfl, c67⟩;replace HC := HC.then c67;replace hbd := hbd.tr0 c67;rw [trimP_eq];refine aS rfl <| wops_nil <| block_n <| then_n <| x_seq ?_;rw [hpw];refine x_region rfl <| mS rfl <| Wp rfl <| st_call (ags := [_, _]) rfl rfl T.ent53 rfl (WriteStringP_spec (partW r n) hbd (by have := partW_le r hn2; omega)) ?_
    rintro _ w68 ⟨rfl, A70, cap71, hbd72, c69, hgr73⟩;have hszW := HC.size;replace HC := HC.trans c69 (fun k hk => (List.mem_cons.1 hk).elim (fun h => .inr (by rw [h]; exact ge_b4)) (fun h => .inr (hob k h)))
    replace hob : ∀ k, k ∈ ob A70 → w.heap.size ≤ k := fun k hk => (hgr73 k hk).elim (fun h => hob k h) (fun h => by omega)
    refine en <| x_region rfl <| mS rfl <| mI rfl <| Wp rfl <| st_sslo (i := n) T.u9 rfl ⟨_, rfl⟩ q0 <| aS rfl <| wops_nil <| block_n <| then_n <| ⟨(r.drop n, k, out ++ (partW r n), q || quoB (byte r 0), A70, cap71), ?_, ?_, rfl, ⟨rfl, (congrArg Value.bool (by rw [show q = false by first | assumption | simp_all, Bool.false_or]; exact quo_eq _)), trivial⟩, ?_⟩
    ·refine ⟨?_, HC, hbd72⟩;exact ⟨by rw [List.length_drop]; omega, by have := partW_le r hn2; simp only [List.length_append, List.length_drop]; omega, by rw [htot, plainF_ok h0 hn]; simp [Bool.or_assoc], hob⟩
    ·show (r.drop n).length < r.length; rw [List.length_drop]; omega
    exact q9
   try simp only [nm, ne_eq] at h4
   have hc4 : byte r 0 ≠ 92 := fun e => h4 (by rw [e]; rfl)
   have hpw : r.take n = partW r n := by rw [partW, if_neg hc2, if_neg hc3, if_neg hc4]
   refine x_skip <| block_n <| then_n <| x_seq ?_;rw [hpw];refine x_region rfl <| mS rfl <| Wp rfl <| st_call (ags := [_, _]) rfl rfl T.ent53 rfl (WriteStringP_spec (partW r n) hbd (by have := partW_le r hn2; omega)) ?_
   rintro _ w74 ⟨rfl, A76, cap77, hbd78, c75, hgr79⟩;have hszW := HC.size;replace HC := HC.trans c75 (fun k hk => (List.mem_cons.1 hk).elim (fun h => .inr (by rw [h]; exact ge_b4)) (fun h => .inr (hob k h)))
   replace hob : ∀ k, k ∈ ob A76 → w.heap.size ≤ k := fun k hk => (hgr79 k hk).elim (fun h => hob k h) (fun h => by omega)
   refine en <| x_region rfl <| mS rfl <| mI rfl <| Wp rfl <| st_sslo (i := n) T.u9 rfl ⟨_, rfl⟩ q0 <| aS rfl <| wops_nil <| block_n <| then_n <| ⟨(r.drop n, k, out ++ (partW r n), q || quoB (byte r 0), A76, cap77), ?_, ?_, rfl, ⟨rfl, (congrArg Value.bool (by rw [show q = false by first | assumption | simp_all, Bool.false_or]; exact quo_eq _)), trivial⟩, ?_⟩
   ·refine ⟨?_, HC, hbd78⟩;exact ⟨by rw [List.length_drop]; omega, by have := partW_le r hn2; simp only [List.length_append, List.length_drop]; omega, by rw [htot, plainF_ok h0 hn]; simp [Bool.or_assoc], hob⟩
   ·show (r.drop n).length < r.length; rw [List.length_drop]; omega
   exact q9
  refine x_region rfl <| mS rfl <| Wp rfl <| st_call (ags := [_, _]) rfl rfl T.ent51 rfl (Skip_err r _ q0 h0 he) ?_;rintro _ w80 ⟨rfl, c81⟩;replace HC := HC.then c81;replace hbd := hbd.tr0 c81;refine mv (v := .tuple ⟨[_, _]⟩) rfl <| Wp rfl <| st_extract (vs := [_, _]) (v := .int _ _) rfl rfl <| Wp rfl <| st_extract (vs := [_, _]) (v := .int _ _) rfl rfl <| aI rfl <| aI rfl <| en <| x_seq <| sr rfl <| mI rfl <| Wp rfl <| st_neq rfl rfl <| en <| x_cond rfl (fun h1 => ?_) (fun h1 => ?_)
  ·try simp only [nm, ne_eq] at h1
   have hut : plainV s = (out ++ r, q || quoB (byte r 0)) := by rw [htot, plainF_err h0 he]
   refine sr rfl <| mS rfl <| Wp rfl <| st_call (ags := [_, _]) rfl rfl T.ent53 rfl (WriteStringP_spec r hbd q0) ?_;rintro _ w82 ⟨rfl, A84, cap85, hbd86, c83, hgr87⟩;have hszW := HC.size;replace HC := HC.trans c83 (fun k hk => (List.mem_cons.1 hk).elim (fun h => .inr (by rw [h]; exact ge_b4)) (fun h => .inr (hob k h)))
   replace hob : ∀ k, k ∈ ob A84 → w.heap.size ≤ k := fun k hk => (hgr87 k hk).elim (fun h => hob k h) (fun h => by omega)
   refine en <| x_exit <| then_x <| block_o rfl <| then_x <| block_x <| then_n <| sr rfl <| Wp rfl <| st_call (ags := [_]) rfl rfl T.ent56 rfl (StringP_spec hbd86) ?_;rintro _ w88 ⟨rfl, hbz, c89⟩;replace HC := HC.trans c89 (fun k hk => .inr (hob k hk))
   refine mB rfl <| aS rfl <| aB rfl <| en <| x_ret <| ret_tmp2 (v := S _) (v2 := .bool _) rfl rfl rfl ?_;rw [hut];exact ⟨by rw [show decide (0 ≤ idx [39, 34, 92] (byte r 0)) = (q || quoB (byte r 0)) from by rw [show q = false by first | assumption | simp_all, Bool.false_or]; exact quo_eq _], HC⟩
  try simp only [nm, ne_eq] at h1
  exfalso; first | omega | simp_all
 try simp only [nm, ne_eq] at h0
 have hr0 : r = [] := by first | assumption | simpa using h0
 have hut : plainV s = (out, q) := by rw [htot, hr0]; cases k <;> simp [plainF]
 refine x_exit <| then_x <| then_x <| block_x <| then_n <| sr rfl <| Wp rfl <| st_call (ags := [_]) rfl rfl T.ent56 rfl (StringP_spec hbd) ?_;rintro _ w90 ⟨rfl, hbz, c91⟩;replace HC := HC.trans c91 (fun k hk => .inr (hob k hk))
 refine mB rfl <| aS rfl <| aB rfl <| en <| x_ret <| ret_tmp2 (v := S _) (v2 := .bool _) rfl rfl rfl ?_;rw [hut];exact ⟨rfl, HC⟩
end Go.Proofs.YtghjmiggobpmoaaGreatDoor.K
