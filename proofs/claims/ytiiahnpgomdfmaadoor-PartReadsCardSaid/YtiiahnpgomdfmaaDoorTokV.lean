import Derived.Test.YtiiahnpgomdfmaaDoorQa
import Derived.Test.YtiiahnpgomdfmaaDoorKitS
set_option linter.unusedVariables false
set_option linter.unusedSimpArgs false
set_option autoImplicit false
set_option maxRecDepth 20000
namespace Go.Proofs.YtiiahnpgomdfmaaDoor.K
open Go Go.Proofs Go.RowKit

theorem r1_begins (c : UInt8) (w : World) : CallR Tryd.prog 44 #[.int .u8 (c.toNat : Int)] w fun v w' => v = .bool (begB c) ∧ Chg [] w w' := by
 refine callR_of_wp (args := [_]) Tryd.func44 rfl (Nat.le_of_ble_eq_true rfl) ?_
 have HC : Chg [] w w := .refl _
 refine sr rfl <| aB rfl <| en <| sr rfl <| mI rfl <| Wp rfl <| st_geq rfl rfl <| mB rfl <| w_split (d := 5) rfl (fun g1 => ?_) (fun g1 => ?_)
 ·try simp only [nm, ne_eq] at g1
  refine w_yes 2 5 true <| st_move (v := .int _ _) rfl <| w_yes 2 5 true <| st_leq rfl rfl <| pT rfl rfl <| mB rfl <| w_split (d := 9) rfl (fun g2 => ?_) (fun g2 => ?_)
  ·try simp only [nm, ne_eq] at g2
   iterate 3 refine w_no 6 9 false ?_
   refine w_no 9 12 true <| w_no 9 12 true <| w_no 6 9 false <| pT rfl rfl <| mB rfl <| w_no 14 17 false <| w_no 14 17 false <| pT rfl rfl <| aB rfl <| en <| x_ret <| ret_tmp (v := .bool _) rfl rfl ?_
   have hc := c.toNat_lt
   refine ⟨congrArg Value.bool ?_, HC⟩
   rw [Bool.eq_iff_iff]
   (try simp only [upB, loB, digB, alphaB, begB, wordB, wrap_u8, Bool.or_eq_true, Bool.and_eq_true, Bool.or_eq_false_iff, Bool.and_eq_false_imp, decide_eq_true_eq, decide_eq_false_iff_not] at *)
   (try simp only [true_iff, false_iff, iff_true, iff_false, Bool.false_eq_true])
   omega
  ·try simp only [nm, ne_eq] at g2
   refine w_yes 6 9 false <| st_move (v := .int _ _) rfl <| w_yes 6 9 false <| st_geq rfl rfl <| w_yes 6 9 false <| st_move (v := .bool _) rfl <| w_split (d := 12) rfl (fun g3 => ?_) (fun g3 => ?_)
   ·try simp only [nm, ne_eq] at g3
    refine w_yes 9 12 true <| st_move (v := .int _ _) rfl <| w_yes 9 12 true <| st_leq rfl rfl <| w_yes 6 9 false <| st_pick (b := true) (v := .bool _) rfl rfl <| pF rfl rfl <| mB rfl <| w_split (d := 17) rfl (fun g4 => ?_) (fun g4 => ?_)
    ·try simp only [nm, ne_eq] at g4
     refine w_no 14 17 false <| w_no 14 17 false <| pT rfl rfl <| aB rfl <| en <| x_ret <| ret_tmp (v := .bool _) rfl rfl ?_
     have hc := c.toNat_lt
     refine ⟨congrArg Value.bool ?_, HC⟩
     rw [Bool.eq_iff_iff]
     (try simp only [upB, loB, digB, alphaB, begB, wordB, wrap_u8, Bool.or_eq_true, Bool.and_eq_true, Bool.or_eq_false_iff, Bool.and_eq_false_imp, decide_eq_true_eq, decide_eq_false_iff_not] at *)
     (try simp only [true_iff, false_iff, iff_true, iff_false, Bool.false_eq_true])
     omega
    ·try simp only [nm, ne_eq] at g4
     refine w_yes 14 17 false <| st_move (v := .int _ _) rfl <| w_yes 14 17 false <| st_eql rfl rfl <| pF rfl rfl <| aB rfl <| en <| x_ret <| ret_tmp (v := .bool _) rfl rfl ?_
     have hc := c.toNat_lt
     refine ⟨congrArg Value.bool ?_, HC⟩
     rw [Bool.eq_iff_iff]
     (try simp only [upB, loB, digB, alphaB, begB, wordB, wrap_u8, Bool.or_eq_true, Bool.and_eq_true, Bool.or_eq_false_iff, Bool.and_eq_false_imp, decide_eq_true_eq, decide_eq_false_iff_not] at *)
     (try simp only [true_iff, false_iff, iff_true, iff_false, Bool.false_eq_true])
     omega
   ·try simp only [nm, ne_eq] at g3
    refine w_no 9 12 true <| w_no 9 12 true <| w_yes 6 9 false <| st_pick (b := false) (v := .bool _) rfl rfl <| pF rfl rfl <| mB rfl <| w_yes 14 17 false <| st_move (v := .int _ _) rfl <| w_yes 14 17 false <| st_eql rfl rfl <| pF rfl rfl <| aB rfl <| en <| x_ret <| ret_tmp (v := .bool _) rfl rfl ?_
    have hc := c.toNat_lt
    refine ⟨congrArg Value.bool ?_, HC⟩
    rw [Bool.eq_iff_iff]
    (try simp only [upB, loB, digB, alphaB, begB, wordB, wrap_u8, Bool.or_eq_true, Bool.and_eq_true, Bool.or_eq_false_iff, Bool.and_eq_false_imp, decide_eq_true_eq, decide_eq_false_iff_not] at *)
    (try simp only [true_iff, false_iff, iff_true, iff_false, Bool.false_eq_true])
    omega
 ·try simp only [nm, ne_eq] at g1
  refine w_no 2 5 true <| w_no 2 5 true <| pF rfl rfl <| mB rfl <| w_yes 6 9 false <| st_move (v := .int _ _) rfl <| w_yes 6 9 false <| st_geq rfl rfl <| w_yes 6 9 false <| st_move (v := .bool _) rfl <| w_split (d := 12) rfl (fun g5 => ?_) (fun g5 => ?_)
  ·try simp only [nm, ne_eq] at g5
   refine w_yes 9 12 true <| st_move (v := .int _ _) rfl <| w_yes 9 12 true <| st_leq rfl rfl <| w_yes 6 9 false <| st_pick (b := true) (v := .bool _) rfl rfl <| pF rfl rfl <| mB rfl <| w_split (d := 17) rfl (fun g6 => ?_) (fun g6 => ?_)
   ·try simp only [nm, ne_eq] at g6
    refine w_no 14 17 false <| w_no 14 17 false <| pT rfl rfl <| aB rfl <| en <| x_ret <| ret_tmp (v := .bool _) rfl rfl ?_
    have hc := c.toNat_lt
    refine ⟨congrArg Value.bool ?_, HC⟩
    rw [Bool.eq_iff_iff]
    (try simp only [upB, loB, digB, alphaB, begB, wordB, wrap_u8, Bool.or_eq_true, Bool.and_eq_true, Bool.or_eq_false_iff, Bool.and_eq_false_imp, decide_eq_true_eq, decide_eq_false_iff_not] at *)
    (try simp only [true_iff, false_iff, iff_true, iff_false, Bool.false_eq_true])
    omega
   ·try simp only [nm, ne_eq] at g6
    refine w_yes 14 17 false <| st_move (v := .int _ _) rfl <| w_yes 14 17 false <| st_eql rfl rfl <| pF rfl rfl <| aB rfl <| en <| x_ret <| ret_tmp (v := .bool _) rfl rfl ?_
    have hc := c.toNat_lt
    refine ⟨congrArg Value.bool ?_, HC⟩
    rw [Bool.eq_iff_iff]
    (try simp only [upB, loB, digB, alphaB, begB, wordB, wrap_u8, Bool.or_eq_true, Bool.and_eq_true, Bool.or_eq_false_iff, Bool.and_eq_false_imp, decide_eq_true_eq, decide_eq_false_iff_not] at *)
    (try simp only [true_iff, false_iff, iff_true, iff_false, Bool.false_eq_true])
    omega
  ·try simp only [nm, ne_eq] at g5
   refine w_no 9 12 true <| w_no 9 12 true <| w_yes 6 9 false <| st_pick (b := false) (v := .bool _) rfl rfl <| pF rfl rfl <| mB rfl <| w_yes 14 17 false <| st_move (v := .int _ _) rfl <| w_yes 14 17 false <| st_eql rfl rfl <| pF rfl rfl <| aB rfl <| en <| x_ret <| ret_tmp (v := .bool _) rfl rfl ?_
   have hc := c.toNat_lt
   refine ⟨congrArg Value.bool ?_, HC⟩
   rw [Bool.eq_iff_iff]
   (try simp only [upB, loB, digB, alphaB, begB, wordB, wrap_u8, Bool.or_eq_true, Bool.and_eq_true, Bool.or_eq_false_iff, Bool.and_eq_false_imp, decide_eq_true_eq, decide_eq_false_iff_not] at *)
   (try simp only [true_iff, false_iff, iff_true, iff_false, Bool.false_eq_true])
   omega

theorem r1_digit (c : UInt8) (w : World) : CallR Tryd.prog 45 #[.int .u8 (c.toNat : Int)] w fun v w' => v = .bool (digB c) ∧ Chg [] w w' := by
 refine callR_of_wp (args := [_]) Tryd.func45 rfl (Nat.le_of_ble_eq_true rfl) ?_
 have HC : Chg [] w w := .refl _
 refine sr rfl <| aB rfl <| en <| sr rfl <| mI rfl <| Wp rfl <| st_geq rfl rfl <| mB rfl <| w_split (d := 5) rfl (fun g1 => ?_) (fun g1 => ?_)
 ·try simp only [nm, ne_eq] at g1
  refine w_yes 2 5 true <| st_move (v := .int _ _) rfl <| w_yes 2 5 true <| st_leq rfl rfl <| pT rfl rfl <| aB rfl <| en <| x_ret <| ret_tmp (v := .bool _) rfl rfl ?_
  have hc := c.toNat_lt
  refine ⟨congrArg Value.bool ?_, HC⟩
  rw [Bool.eq_iff_iff]
  (try simp only [upB, loB, digB, alphaB, begB, wordB, wrap_u8, Bool.or_eq_true, Bool.and_eq_true, Bool.or_eq_false_iff, Bool.and_eq_false_imp, decide_eq_true_eq, decide_eq_false_iff_not] at *)
  (try simp only [true_iff, false_iff, iff_true, iff_false, Bool.false_eq_true])
  omega
 ·try simp only [nm, ne_eq] at g1
  refine w_no 2 5 true <| w_no 2 5 true <| pF rfl rfl <| aB rfl <| en <| x_ret <| ret_tmp (v := .bool _) rfl rfl ?_
  have hc := c.toNat_lt
  refine ⟨congrArg Value.bool ?_, HC⟩
  rw [Bool.eq_iff_iff]
  (try simp only [upB, loB, digB, alphaB, begB, wordB, wrap_u8, Bool.or_eq_true, Bool.and_eq_true, Bool.or_eq_false_iff, Bool.and_eq_false_imp, decide_eq_true_eq, decide_eq_false_iff_not] at *)
  (try simp only [true_iff, false_iff, iff_true, iff_false, Bool.false_eq_true])
  omega

theorem r16_special (c : UInt8) (w : World) : CallR Tryd.prog 46 #[.int .u8 (c.toNat : Int)] w fun v w' => v = .bool (decide (0 ≤ idx spcs c)) ∧ Chg [] w w' := by
 refine callR_of_wp (args := [_]) Tryd.func46 rfl (Nat.le_of_ble_eq_true rfl) ?_
 have HC : Chg [] w w := .refl _
 refine sr rfl <| aB rfl <| en <| x_seq <| sr rfl <| mI rfl <| en <| x_block <| x_seq <| sr rfl <| Wp rfl <| st_eql rfl rfl <| aB rfl <| en <| x_cond rfl (fun h0 => ?_) (fun h0 => ?_)
 ·try simp only [nm, ne_eq] at h0
  refine x_skip <| then_n <| x_cond rfl (fun h6 => ?_) (fun h6 => ?_)
  rotate_left
  · first | (simp only [nm, ne_eq] at h6; exact absurd (by assumption) h6) | (exfalso; simp_all)
  refine sr rfl <| aB rfl <| en <| x_ret <| block_r <| then_r <| ret_tmp (v := .bool _) rfl rfl <| ⟨congrArg Value.bool ?_, HC⟩
  have hc := c.toNat_lt
  rw [Bool.eq_iff_iff, decide_eq_true_eq, idx_mem]; simp only [spcs, List.mem_cons, List.mem_nil_iff, or_false, ← UInt8.toNat_inj]
  simp only [show (64 : UInt8).toNat = 64 from rfl, show (42 : UInt8).toNat = 42 from rfl, show (35 : UInt8).toNat = 35 from rfl, show (63 : UInt8).toNat = 63 from rfl, show (45 : UInt8).toNat = 45 from rfl, show (36 : UInt8).toNat = 36 from rfl, show (33 : UInt8).toNat = 33 from rfl]
  (try simp only [decide_eq_true_eq, true_iff, Bool.false_eq_true, false_iff] at *)
  omega
 ·try simp only [nm, ne_eq] at h0
  refine sr rfl <| Wp rfl <| st_eql rfl rfl <| aB rfl <| en <| x_cond rfl (fun h1 => ?_) (fun h1 => ?_)
  ·try simp only [nm, ne_eq] at h1
   refine x_skip <| then_n <| x_cond rfl (fun h6 => ?_) (fun h6 => ?_)
   rotate_left
   · first | (simp only [nm, ne_eq] at h6; exact absurd (by assumption) h6) | (exfalso; simp_all)
   refine sr rfl <| aB rfl <| en <| x_ret <| block_r <| then_r <| ret_tmp (v := .bool _) rfl rfl <| ⟨congrArg Value.bool ?_, HC⟩
   have hc := c.toNat_lt
   rw [Bool.eq_iff_iff, decide_eq_true_eq, idx_mem]; simp only [spcs, List.mem_cons, List.mem_nil_iff, or_false, ← UInt8.toNat_inj]
   simp only [show (64 : UInt8).toNat = 64 from rfl, show (42 : UInt8).toNat = 42 from rfl, show (35 : UInt8).toNat = 35 from rfl, show (63 : UInt8).toNat = 63 from rfl, show (45 : UInt8).toNat = 45 from rfl, show (36 : UInt8).toNat = 36 from rfl, show (33 : UInt8).toNat = 33 from rfl]
   (try simp only [decide_eq_true_eq, true_iff, Bool.false_eq_true, false_iff] at *)
   omega
  ·try simp only [nm, ne_eq] at h1
   refine sr rfl <| Wp rfl <| st_eql rfl rfl <| aB rfl <| en <| x_cond rfl (fun h2 => ?_) (fun h2 => ?_)
   ·try simp only [nm, ne_eq] at h2
    refine x_skip <| then_n <| x_cond rfl (fun h6 => ?_) (fun h6 => ?_)
    rotate_left
    · first | (simp only [nm, ne_eq] at h6; exact absurd (by assumption) h6) | (exfalso; simp_all)
    refine sr rfl <| aB rfl <| en <| x_ret <| block_r <| then_r <| ret_tmp (v := .bool _) rfl rfl <| ⟨congrArg Value.bool ?_, HC⟩
    have hc := c.toNat_lt
    rw [Bool.eq_iff_iff, decide_eq_true_eq, idx_mem]; simp only [spcs, List.mem_cons, List.mem_nil_iff, or_false, ← UInt8.toNat_inj]
    simp only [show (64 : UInt8).toNat = 64 from rfl, show (42 : UInt8).toNat = 42 from rfl, show (35 : UInt8).toNat = 35 from rfl, show (63 : UInt8).toNat = 63 from rfl, show (45 : UInt8).toNat = 45 from rfl, show (36 : UInt8).toNat = 36 from rfl, show (33 : UInt8).toNat = 33 from rfl]
    (try simp only [decide_eq_true_eq, true_iff, Bool.false_eq_true, false_iff] at *)
    omega
   ·try simp only [nm, ne_eq] at h2
    refine sr rfl <| Wp rfl <| st_eql rfl rfl <| aB rfl <| en <| x_cond rfl (fun h3 => ?_) (fun h3 => ?_)
    ·try simp only [nm, ne_eq] at h3
     refine x_skip <| then_n <| x_cond rfl (fun h6 => ?_) (fun h6 => ?_)
     rotate_left
     · first | (simp only [nm, ne_eq] at h6; exact absurd (by assumption) h6) | (exfalso; simp_all)
     refine sr rfl <| aB rfl <| en <| x_ret <| block_r <| then_r <| ret_tmp (v := .bool _) rfl rfl <| ⟨congrArg Value.bool ?_, HC⟩
     have hc := c.toNat_lt
     rw [Bool.eq_iff_iff, decide_eq_true_eq, idx_mem]; simp only [spcs, List.mem_cons, List.mem_nil_iff, or_false, ← UInt8.toNat_inj]
     simp only [show (64 : UInt8).toNat = 64 from rfl, show (42 : UInt8).toNat = 42 from rfl, show (35 : UInt8).toNat = 35 from rfl, show (63 : UInt8).toNat = 63 from rfl, show (45 : UInt8).toNat = 45 from rfl, show (36 : UInt8).toNat = 36 from rfl, show (33 : UInt8).toNat = 33 from rfl]
     (try simp only [decide_eq_true_eq, true_iff, Bool.false_eq_true, false_iff] at *)
     omega
    ·try simp only [nm, ne_eq] at h3
     refine sr rfl <| Wp rfl <| st_eql rfl rfl <| aB rfl <| en <| x_cond rfl (fun h4 => ?_) (fun h4 => ?_)
     ·try simp only [nm, ne_eq] at h4
      refine x_skip <| then_n <| x_cond rfl (fun h6 => ?_) (fun h6 => ?_)
      rotate_left
      · first | (simp only [nm, ne_eq] at h6; exact absurd (by assumption) h6) | (exfalso; simp_all)
      refine sr rfl <| aB rfl <| en <| x_ret <| block_r <| then_r <| ret_tmp (v := .bool _) rfl rfl <| ⟨congrArg Value.bool ?_, HC⟩
      have hc := c.toNat_lt
      rw [Bool.eq_iff_iff, decide_eq_true_eq, idx_mem]; simp only [spcs, List.mem_cons, List.mem_nil_iff, or_false, ← UInt8.toNat_inj]
      simp only [show (64 : UInt8).toNat = 64 from rfl, show (42 : UInt8).toNat = 42 from rfl, show (35 : UInt8).toNat = 35 from rfl, show (63 : UInt8).toNat = 63 from rfl, show (45 : UInt8).toNat = 45 from rfl, show (36 : UInt8).toNat = 36 from rfl, show (33 : UInt8).toNat = 33 from rfl]
      (try simp only [decide_eq_true_eq, true_iff, Bool.false_eq_true, false_iff] at *)
      omega
     ·try simp only [nm, ne_eq] at h4
      refine sr rfl <| Wp rfl <| st_eql rfl rfl <| aB rfl <| en <| x_cond rfl (fun h5 => ?_) (fun h5 => ?_)
      ·try simp only [nm, ne_eq] at h5
       refine x_skip <| then_n <| x_cond rfl (fun h6 => ?_) (fun h6 => ?_)
       rotate_left
       · first | (simp only [nm, ne_eq] at h6; exact absurd (by assumption) h6) | (exfalso; simp_all)
       refine sr rfl <| aB rfl <| en <| x_ret <| block_r <| then_r <| ret_tmp (v := .bool _) rfl rfl <| ⟨congrArg Value.bool ?_, HC⟩
       have hc := c.toNat_lt
       rw [Bool.eq_iff_iff, decide_eq_true_eq, idx_mem]; simp only [spcs, List.mem_cons, List.mem_nil_iff, or_false, ← UInt8.toNat_inj]
       simp only [show (64 : UInt8).toNat = 64 from rfl, show (42 : UInt8).toNat = 42 from rfl, show (35 : UInt8).toNat = 35 from rfl, show (63 : UInt8).toNat = 63 from rfl, show (45 : UInt8).toNat = 45 from rfl, show (36 : UInt8).toNat = 36 from rfl, show (33 : UInt8).toNat = 33 from rfl]
       (try simp only [decide_eq_true_eq, true_iff, Bool.false_eq_true, false_iff] at *)
       omega
      ·try simp only [nm, ne_eq] at h5
       refine x_region rfl <| Wp rfl <| st_eql rfl rfl <| aB rfl <| en <| x_cond rfl (fun h6 => ?_) (fun h6 => ?_)
       ·try simp only [nm, ne_eq] at h6
        refine sr rfl <| aB rfl <| en <| x_ret <| block_r <| then_r <| ret_tmp (v := .bool _) rfl rfl <| ⟨congrArg Value.bool ?_, HC⟩
        have hc := c.toNat_lt
        rw [Bool.eq_iff_iff, decide_eq_true_eq, idx_mem]; simp only [spcs, List.mem_cons, List.mem_nil_iff, or_false, ← UInt8.toNat_inj]
        simp only [show (64 : UInt8).toNat = 64 from rfl, show (42 : UInt8).toNat = 42 from rfl, show (35 : UInt8).toNat = 35 from rfl, show (63 : UInt8).toNat = 63 from rfl, show (45 : UInt8).toNat = 45 from rfl, show (36 : UInt8).toNat = 36 from rfl, show (33 : UInt8).toNat = 33 from rfl]
        (try simp only [decide_eq_true_eq, true_iff, Bool.false_eq_true, false_iff] at *)
        omega
       ·try simp only [nm, ne_eq] at h6
        refine x_skip <| block_n <| then_n <| sr rfl <| aB rfl <| en <| x_ret <| ret_tmp (v := .bool _) rfl rfl <| ⟨congrArg Value.bool ?_, HC⟩
        have hc := c.toNat_lt
        rw [Bool.eq_iff_iff, decide_eq_true_eq, idx_mem]; simp only [spcs, List.mem_cons, List.mem_nil_iff, or_false, ← UInt8.toNat_inj]
        simp only [show (64 : UInt8).toNat = 64 from rfl, show (42 : UInt8).toNat = 42 from rfl, show (35 : UInt8).toNat = 35 from rfl, show (63 : UInt8).toNat = 63 from rfl, show (45 : UInt8).toNat = 45 from rfl, show (36 : UInt8).toNat = 36 from rfl, show (33 : UInt8).toNat = 33 from rfl]
        (try simp only [decide_eq_true_eq, true_iff, Bool.false_eq_true, false_iff] at *)
        omega

theorem spc_dig {c : UInt8} (h : 0 ≤ idx spcs c) : digB c = false := by
  have := idx_mem.1 h
  simp only [spcs, List.mem_cons, List.mem_nil_iff, or_false] at this
  rcases this with rfl | rfl | rfl | rfl | rfl | rfl | rfl <;> rfl
theorem runN_off0 {p : UInt8 → Bool} {s : Bytes} (h0 : s ≠ []) (h : p (byte s 0) = false) : runN p s = 0 := by
  have := runN_off (p := p) (s := s) (n := 0) (List.length_pos_iff.2 h0) h
  simpa using this
theorem rnamed_spec (s : Bytes) (w : World) (hs : s.length < 4294967281) : CallR Tryd.prog 22 #[S s] w fun v w' => v = .int .i64 (namedV s : Int) ∧ Chg [] w w' := by
 refine callR_of_wp (args := [_]) Tryd.func22 rfl (Nat.le_of_ble_eq_true rfl) ?_
 have HC : Chg [] w w := .refl _
 refine sr rfl <| aI rfl <| en <| x_seq <| sr rfl <| mS rfl <| Wp rfl <| st_seql rfl rfl <| en <| x_cond rfl (fun h0 => ?_) (fun h0 => ?_)
 ·try simp only [nm, ne_eq] at h0
  refine sr rfl <| aI rfl <| en <| x_ret <| then_r <| ret_tmp (v := .int _ _) rfl rfl ?_
  exact ⟨congrArg (Value.int .i64) (congrArg Int.ofNat (by symm; rw [h0]; rfl)), HC⟩
 ·try simp only [nm, ne_eq] at h0
  refine x_skip <| then_n <| sr rfl <| aI rfl <| en <| x_seq <| sr rfl <| mS rfl <| Wp rfl <| st_sidx T.u9 rfl rfl (by decide) (by (have := List.length_pos_iff.2 h0; omega)) <| Wp rfl <| st_call (ags := [_]) rfl rfl T.ent44 rfl (r1_begins (byte s 0) _) ?_
  rintro _ w1 ⟨rfl, c2⟩
  replace HC := HC.then c2
  refine en <| x_cond rfl (fun h1 => ?_) (fun h1 => ?_)
  ·try simp only [nm, ne_eq] at h1
   refine x_seq <| x_block <| x_loop (ι := Nat) [3, 9, 10, 11, 12, 13, 14, 15, 16, 17, 18, 19, 20, 21, 22, 23, 24, 25, 26] (fun n => [(3, .int .i64 (n : Int))]) (fun n W => (n ≤ s.length ∧ runN (fun c => begB c || digB c) s = n + runN (fun c => begB c || digB c) (s.drop n)) ∧ (Chg [] w W)) (fun n => s.length - n) 0 ?_ ?_ ?_
   · exact ⟨rfl, trivial⟩
   ·refine ⟨?_, HC⟩
    exact ⟨Nat.zero_le _, by simp⟩
   intro n G4 w3 ⟨⟨hn, hr⟩, HC⟩
   change wp _ _ _ _ _ (upds (over _ _ G4) [(3, .int .i64 (n : Int))]) _ _
   refine x_seq <| sr rfl <| mI rfl <| mS rfl <| Wp rfl <| st_slen (ct := #[9]) T.u9 rfl <| Wp rfl <| st_lss rfl rfl <| mB rfl <| w_split (d := 13) rfl (fun g5 => ?_) (fun g5 => ?_)
   ·try simp only [nm, ne_eq] at g5
    refine w_yes 4 13 true <| st_move (v := S _) rfl <| w_yes 4 13 true <| st_move (v := .int _ _) rfl <| w_yes 4 13 true <| st_sidx T.u9 rfl rfl (by omega) (by omega) <| w_yes 4 13 true <| st_call (ags := [_]) rfl rfl T.ent44 rfl (r1_begins (byte s n) _) ?_
    rintro _ w6 ⟨rfl, c7⟩
    replace HC := HC.then c7
    refine w_yes 4 13 true <| st_move (v := .bool _) rfl <| w_split (d := 18) rfl (fun g8 => ?_) (fun g8 => ?_)
    ·try simp only [nm, ne_eq] at g8
     iterate 4 refine w_no 9 18 false ?_
     refine w_yes 4 13 true <| st_pick (b := true) (v := .bool _) rfl rfl <| pT rfl rfl <| en <| x_cond (t := true) rfl (fun h2 => ?_) (fun h2 => ?_)
     rotate_left
     · exact absurd h2 (by decide)
     have hpt : (fun c => begB c || digB c) (byte s n) = true := by show (begB (byte s n) || digB (byte s n)) = true; first | (have h9 : begB (byte s n) = true := (by assumption); rw [h9]; rfl) | (have h9 : digB (byte s n) = true := (by first | assumption | simp_all); rw [h9]; simp)
     refine x_skip <| then_n <| x_block <| x_region rfl <| mI rfl <| Wp rfl <| st_addn rfl rfl (by constructor <;> omega) <| aI rfl <| wops_nil <| block_n <| then_n <| ⟨n + 1, ?_, ?_, rfl, ⟨rfl, trivial⟩, ?_⟩
     ·refine ⟨?_, HC⟩
      exact ⟨by omega, by rw [hr, runN_on (by omega) hpt]; omega⟩
     ·show s.length - (n + 1) < s.length - n; omega
     repeat (first | exact agree_upds agree_over rfl | refine agree_upd ?_ rfl | refine agree_upds ?_ rfl | refine agree_over_sub ?_ rfl)
    ·try simp only [nm, ne_eq] at g8
     refine w_yes 9 18 false <| st_move (v := S _) rfl <| w_yes 9 18 false <| st_move (v := .int _ _) rfl <| w_yes 9 18 false <| st_sidx T.u9 rfl rfl (by omega) (by omega) <| w_yes 9 18 false <| st_call (ags := [_]) rfl rfl T.ent45 rfl (r1_digit (byte s n) _) ?_
     rintro _ w9 ⟨rfl, c10⟩
     replace HC := HC.then c10
     refine w_yes 4 13 true <| st_pick (b := false) (v := .bool _) rfl rfl <| pT rfl rfl <| en <| x_cond rfl (fun h2 => ?_) (fun h2 => ?_)
     ·try simp only [nm, ne_eq] at h2
      have hpt : (fun c => begB c || digB c) (byte s n) = true := by show (begB (byte s n) || digB (byte s n)) = true; first | (have h9 : begB (byte s n) = true := (by assumption); rw [h9]; rfl) | (have h9 : digB (byte s n) = true := (by first | assumption | simp_all); rw [h9]; simp)
      refine x_skip <| then_n <| x_block <| x_region rfl <| mI rfl <| Wp rfl <| st_addn rfl rfl (by constructor <;> omega) <| aI rfl <| wops_nil <| block_n <| then_n <| ⟨n + 1, ?_, ?_, rfl, ⟨rfl, trivial⟩, ?_⟩
      ·refine ⟨?_, HC⟩
       exact ⟨by omega, by rw [hr, runN_on (by omega) hpt]; omega⟩
      ·show s.length - (n + 1) < s.length - n; omega
      repeat (first | exact agree_upds agree_over rfl | refine agree_upd ?_ rfl | refine agree_upds ?_ rfl | refine agree_over_sub ?_ rfl)
     ·try simp only [nm, ne_eq] at h2
      have hpf : (fun c => begB c || digB c) (byte s n) = false := by show (begB (byte s n) || digB (byte s n)) = false; rw [show begB (byte s n) = false by first | assumption | simp_all, show digB (byte s n) = false by first | assumption | simp_all]; rfl
      refine x_exit <| then_x <| then_x <| block_x <| then_n <| sr rfl <| mI rfl <| aI rfl <| en <| x_ret <| then_r <| ret_tmp (v := .int _ _) rfl rfl ?_
      exact ⟨congrArg (Value.int .i64) (congrArg Int.ofNat (by symm; rw [namedV_of h0, if_pos h1, hr, runN_off (by omega) hpf]; rfl)), HC⟩
   ·try simp only [nm, ne_eq] at g5
    iterate 5 refine w_no 4 13 true ?_
    iterate 4 refine w_no 9 18 false ?_
    refine w_no 4 13 true <| pF rfl rfl <| en <| x_cond (t := false) rfl (fun h2 => ?_) (fun h2 => ?_)
    · exact absurd h2 (by decide)
    refine x_exit <| then_x <| then_x <| block_x <| then_n <| sr rfl <| mI rfl <| aI rfl <| en <| x_ret <| then_r <| ret_tmp (v := .int _ _) rfl rfl ?_
    exact ⟨congrArg (Value.int .i64) (congrArg Int.ofNat (by symm; rw [namedV_of h0, if_pos h1, hr, runN_end (by omega)]; rfl)), HC⟩
  ·try simp only [nm, ne_eq] at h1
   refine x_skip <| then_n <| x_seq <| x_block <| x_loop (ι := Nat) [3, 28, 29, 30, 31, 32, 33, 34, 35, 36, 37, 38, 39] (fun n => [(3, .int .i64 (n : Int))]) (fun n W => (n ≤ s.length ∧ runN digB s = n + runN digB (s.drop n)) ∧ (Chg [] w W)) (fun n => s.length - n) 0 ?_ ?_ ?_
   · exact ⟨rfl, trivial⟩
   ·refine ⟨?_, HC⟩
    exact ⟨Nat.zero_le _, by simp⟩
   intro n G12 w11 ⟨⟨hn, hr⟩, HC⟩
   change wp _ _ _ _ _ (upds (over _ _ G12) [(3, .int .i64 (n : Int))]) _ _
   refine x_seq <| sr rfl <| mI rfl <| mS rfl <| Wp rfl <| st_slen (ct := #[9]) T.u9 rfl <| Wp rfl <| st_lss rfl rfl <| mB rfl <| w_split (d := 32) rfl (fun g13 => ?_) (fun g13 => ?_)
   ·try simp only [nm, ne_eq] at g13
    refine w_yes 4 32 true <| st_move (v := S _) rfl <| w_yes 4 32 true <| st_move (v := .int _ _) rfl <| w_yes 4 32 true <| st_sidx T.u9 rfl rfl (by omega) (by omega) <| w_yes 4 32 true <| st_call (ags := [_]) rfl rfl T.ent45 rfl (r1_digit (byte s n) _) ?_
    rintro _ w14 ⟨rfl, c15⟩
    replace HC := HC.then c15
    refine pT rfl rfl <| en <| x_cond rfl (fun h3 => ?_) (fun h3 => ?_)
    ·try simp only [nm, ne_eq] at h3
     have hpt : digB (byte s n) = true := by first | assumption | simp_all
     refine x_skip <| then_n <| x_block <| x_region rfl <| mI rfl <| Wp rfl <| st_addn rfl rfl (by constructor <;> omega) <| aI rfl <| wops_nil <| block_n <| then_n <| ⟨n + 1, ?_, ?_, rfl, ⟨rfl, trivial⟩, ?_⟩
     ·refine ⟨?_, HC⟩
      exact ⟨by omega, by rw [hr, runN_on (by omega) hpt]; omega⟩
     ·show s.length - (n + 1) < s.length - n; omega
     repeat (first | exact agree_upds agree_over rfl | refine agree_upd ?_ rfl | refine agree_upds ?_ rfl | refine agree_over_sub ?_ rfl)
    ·try simp only [nm, ne_eq] at h3
     have hrn : runN digB s = n := by rw [hr, runN_off (by omega) (by first | assumption | simp_all)]; rfl
     have hb1 : begB (byte s 0) = false := by first | assumption | simp_all
     refine x_exit <| then_x <| then_x <| block_x <| then_n <| x_seq <| sr rfl <| mI rfl <| Wp rfl <| st_eql rfl rfl <| mB rfl <| w_split (d := 42) rfl (fun g16 => ?_) (fun g16 => ?_)
     ·try simp only [nm, ne_eq] at g16
      refine w_yes 2 42 true <| st_move (v := S _) rfl <| w_yes 2 42 true <| st_sidx T.u9 rfl rfl (by decide) (by (have := List.length_pos_iff.2 h0; omega)) <| w_yes 2 42 true <| st_call (ags := [_]) rfl rfl T.ent46 rfl (r16_special (byte s 0) _) ?_
      rintro _ w17 ⟨rfl, c18⟩
      replace HC := HC.then c18
      refine pT rfl rfl <| en <| x_cond rfl (fun h4 => ?_) (fun h4 => ?_)
      ·try simp only [nm, ne_eq] at h4
       refine sr rfl <| aI rfl <| en <| x_ret <| then_r <| ret_tmp (v := .int _ _) rfl rfl ?_
       exact ⟨congrArg (Value.int .i64) (congrArg Int.ofNat (by symm; rw [namedV_of h0, if_neg (by rw [hb1]; simp), if_pos (by first | assumption | simp_all)])), HC⟩
      ·try simp only [nm, ne_eq] at h4
       have hnq : namedV s = n := by rw [namedV_of h0, if_neg (by rw [hb1]; simp)]; split; (rename_i h9; exfalso; have hd0 : digB (byte s 0) = false := spc_dig h9; have hr0 : runN digB s = 0 := runN_off0 h0 hd0; first | omega | simp_all); exact hrn
       refine x_skip <| then_n <| sr rfl <| mI rfl <| aI rfl <| en <| x_ret <| ret_tmp (v := .int _ _) rfl rfl ?_
       exact ⟨congrArg (Value.int .i64) (congrArg Int.ofNat (by symm; rw [hnq])), HC⟩
     ·try simp only [nm, ne_eq] at g16
      iterate 3 refine w_no 2 42 true ?_
      refine pF rfl rfl <| en <| x_cond (t := false) rfl (fun h4 => ?_) (fun h4 => ?_)
      · exact absurd h4 (by decide)
      have hnq : namedV s = n := by rw [namedV_of h0, if_neg (by rw [hb1]; simp)]; split; (rename_i h9; exfalso; have hd0 : digB (byte s 0) = false := spc_dig h9; have hr0 : runN digB s = 0 := runN_off0 h0 hd0; first | omega | simp_all); exact hrn
      refine x_skip <| then_n <| sr rfl <| mI rfl <| aI rfl <| en <| x_ret <| ret_tmp (v := .int _ _) rfl rfl ?_
      exact ⟨congrArg (Value.int .i64) (congrArg Int.ofNat (by symm; rw [hnq])), HC⟩
   ·try simp only [nm, ne_eq] at g13
    iterate 4 refine w_no 4 32 true ?_
    refine pF rfl rfl <| en <| x_cond (t := false) rfl (fun h3 => ?_) (fun h3 => ?_)
    · exact absurd h3 (by decide)
    have hrn : runN digB s = n := by rw [hr, runN_end (by omega)]; rfl
    have hb1 : begB (byte s 0) = false := by first | assumption | simp_all
    refine x_exit <| then_x <| then_x <| block_x <| then_n <| x_seq <| sr rfl <| mI rfl <| Wp rfl <| st_eql rfl rfl <| mB rfl <| w_split (d := 42) rfl (fun g19 => ?_) (fun g19 => ?_)
    ·try simp only [nm, ne_eq] at g19
     refine w_yes 2 42 true <| st_move (v := S _) rfl <| w_yes 2 42 true <| st_sidx T.u9 rfl rfl (by decide) (by (have := List.length_pos_iff.2 h0; omega)) <| w_yes 2 42 true <| st_call (ags := [_]) rfl rfl T.ent46 rfl (r16_special (byte s 0) _) ?_
     rintro _ w20 ⟨rfl, c21⟩
     replace HC := HC.then c21
     refine pT rfl rfl <| en <| x_cond rfl (fun h4 => ?_) (fun h4 => ?_)
     ·try simp only [nm, ne_eq] at h4
      refine sr rfl <| aI rfl <| en <| x_ret <| then_r <| ret_tmp (v := .int _ _) rfl rfl ?_
      exact ⟨congrArg (Value.int .i64) (congrArg Int.ofNat (by symm; rw [namedV_of h0, if_neg (by rw [hb1]; simp), if_pos (by first | assumption | simp_all)])), HC⟩
     ·try simp only [nm, ne_eq] at h4
      have hnq : namedV s = n := by rw [namedV_of h0, if_neg (by rw [hb1]; simp)]; split; (rename_i h9; exfalso; have hd0 : digB (byte s 0) = false := spc_dig h9; have hr0 : runN digB s = 0 := runN_off0 h0 hd0; first | omega | simp_all); exact hrn
      refine x_skip <| then_n <| sr rfl <| mI rfl <| aI rfl <| en <| x_ret <| ret_tmp (v := .int _ _) rfl rfl ?_
      exact ⟨congrArg (Value.int .i64) (congrArg Int.ofNat (by symm; rw [hnq])), HC⟩
    ·try simp only [nm, ne_eq] at g19
     iterate 3 refine w_no 2 42 true ?_
     refine pF rfl rfl <| en <| x_cond (t := false) rfl (fun h4 => ?_) (fun h4 => ?_)
     · exact absurd h4 (by decide)
     have hnq : namedV s = n := by rw [namedV_of h0, if_neg (by rw [hb1]; simp)]; split; (rename_i h9; exfalso; have hd0 : digB (byte s 0) = false := spc_dig h9; have hr0 : runN digB s = 0 := runN_off0 h0 hd0; first | omega | simp_all); exact hrn
     refine x_skip <| then_n <| sr rfl <| mI rfl <| aI rfl <| en <| x_ret <| ret_tmp (v := .int _ _) rfl rfl ?_
     exact ⟨congrArg (Value.int .i64) (congrArg Int.ofNat (by symm; rw [hnq])), HC⟩

theorem RParam_spec (s : Bytes) (w : World) (hs : s.length < 4294967281) : CallR Tryd.prog 13 #[S s] w fun v w' => v = .bool (isParam s) ∧ Chg [] w w' := by
 refine callR_of_wp (args := [_]) Tryd.func13 rfl (Nat.le_of_ble_eq_true rfl) ?_
 have HC : Chg [] w w := .refl _
 refine sr rfl <| aB rfl <| en <| sr rfl <| mS rfl <| Wp rfl <| st_sneq rfl rfl <| mB rfl <| w_split (d := 5) rfl (fun g1 => ?_) (fun g1 => ?_)
 ·try simp only [nm, ne_eq] at g1
  refine w_yes 2 5 true <| st_move (v := S _) rfl <| w_yes 2 5 true <| st_call (ags := [_]) rfl rfl T.ent22 rfl (rnamed_spec s _ hs) ?_
  rintro _ w2 ⟨rfl, c3⟩
  replace HC := HC.then c3
  refine w_yes 2 5 true <| st_move (v := S _) rfl <| w_yes 2 5 true <| st_slen (ct := #[9]) T.u9 rfl <| w_yes 2 5 true <| st_eql rfl rfl <| pT rfl rfl <| aB rfl <| en <| x_ret <| ret_tmp (v := .bool _) rfl rfl <| ⟨congrArg Value.bool ?_, HC⟩
  first | exact (by rw [isParam]; simp [show s ≠ [] by first | assumption | simp_all]; omega) | (rw [isParam]; simp_all)
 ·try simp only [nm, ne_eq] at g1
  iterate 5 refine w_no 2 5 true ?_
  refine pF rfl rfl <| aB rfl <| en <| x_ret <| ret_tmp (v := .bool _) rfl rfl <| ⟨congrArg Value.bool ?_, HC⟩
  first | exact (by rw [isParam]; simp [show s = [] by first | assumption | simp_all]) | (rw [isParam]; simp_all)

theorem hasP_take (s p : Bytes) : Lib.hasPrefix s p = (decide (p.length ≤ s.length) && decide (s.take p.length = p)) := by
  rw [Bool.eq_iff_iff, Bool.and_eq_true, decide_eq_true_eq, decide_eq_true_eq]
  unfold Lib.hasPrefix
  rw [List.isPrefixOf_iff_prefix]
  constructor
  · intro h; exact ⟨h.length_le, (List.prefix_iff_eq_take.1 h).symm⟩
  · rintro ⟨_, h⟩; exact List.prefix_iff_eq_take.2 h.symm
theorem rbegins_spec (s p : Bytes) (w : World) (hs : s.length < 4294967281) : CallR Tryd.prog 63 #[S s, S p] w fun v w' => v = .bool (Lib.hasPrefix s p) ∧ Chg [] w w' := by
 refine callR_of_wp (args := [_, _]) Tryd.func63 rfl (Nat.le_of_ble_eq_true rfl) ?_
 have HC : Chg [] w w := .refl _
 refine sr rfl <| aB rfl <| en <| sr rfl <| mS rfl <| Wp rfl <| st_slen (ct := #[9]) T.u9 rfl <| mS rfl <| Wp rfl <| st_slen (ct := #[9]) T.u9 rfl <| Wp rfl <| st_geq rfl rfl <| mB rfl <| w_split (d := 10) rfl (fun g1 => ?_) (fun g1 => ?_)
 ·try simp only [nm, ne_eq] at g1
  refine w_yes 5 10 true <| st_move (v := S _) rfl <| w_yes 5 10 true <| st_move (v := S _) rfl <| w_yes 5 10 true <| st_slen (ct := #[9]) T.u9 rfl <| w_yes 5 10 true <| st_sshi (j := p.length) T.u9 rfl ⟨_, rfl⟩ (by omega) <| w_yes 5 10 true <| st_move (v := S _) rfl <| w_yes 5 10 true <| st_seql rfl rfl <| pT rfl rfl <| aB rfl <| en <| x_ret <| ret_tmp (v := .bool _) rfl rfl <| ⟨congrArg Value.bool ?_, HC⟩
  rw [hasP_take]; first | (rw [decide_eq_true (by omega)]; simp; done) | (rw [decide_eq_false (by omega)]; rfl) | simp_all
 ·try simp only [nm, ne_eq] at g1
  iterate 6 refine w_no 5 10 true ?_
  refine pF rfl rfl <| aB rfl <| en <| x_ret <| ret_tmp (v := .bool _) rfl rfl <| ⟨congrArg Value.bool ?_, HC⟩
  rw [hasP_take]; first | (rw [decide_eq_true (by omega)]; simp; done) | (rw [decide_eq_false (by omega)]; rfl) | simp_all

end Go.Proofs.YtiiahnpgomdfmaaDoor.K
set_option linter.unusedVariables false
set_option linter.unusedSimpArgs false
set_option autoImplicit false
set_option maxRecDepth 20000
namespace Go.Proofs.YtiiahnpgomdfmaaDoor.K
open Go Go.RowKit

/-- A token. -/
structure Tok where
  kind : Int
  text : Bytes
  at_ : Int
  here : Bytes
  raw : Bool
deriving DecidableEq
end Go.Proofs.YtiiahnpgomdfmaaDoor.K
