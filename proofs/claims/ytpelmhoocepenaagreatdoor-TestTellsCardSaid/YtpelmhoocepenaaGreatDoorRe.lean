/- The document's test, first part. -/
import Derived.Test.YtpelmhoocepenaaGreatDoorRd
set_option linter.unusedVariables false
set_option linter.unusedSimpArgs false
set_option autoImplicit false
set_option maxRecDepth 20000
namespace Go.Proofs.YtpelmhoocepenaaGreatDoor.K
open Go Go.Proofs Go.RowKit

theorem un_n {Z : Tre} {cwd : Int} {s : Bytes} : unV Z cwd [45, 110] s = truN (!decide (s = [])) := rfl
theorem un_z {Z : Tre} {cwd : Int} {s : Bytes} : unV Z cwd [45, 122] s = truN (decide (s = [])) := rfl
theorem un_e {Z : Tre} {cwd : Int} {s : Bytes} : unV Z cwd [45, 101] s = inodeV Z cwd s true (fun _ => true) := rfl
theorem un_f {Z : Tre} {cwd : Int} {s : Bytes} : unV Z cwd [45, 102] s = inodeV Z cwd s true (fun k => decide (kindV Z k = 1)) := rfl
theorem un_d {Z : Tre} {cwd : Int} {s : Bytes} : unV Z cwd [45, 100] s = inodeV Z cwd s true (fun k => decide (kindV Z k = 2)) := rfl
theorem un_h {Z : Tre} {cwd : Int} {s : Bytes} : unV Z cwd [45, 104] s = inodeV Z cwd s false (fun k => decide (kindV Z k = 3)) := rfl
theorem un_L {Z : Tre} {cwd : Int} {s : Bytes} : unV Z cwd [45, 76] s = inodeV Z cwd s false (fun k => decide (kindV Z k = 3)) := rfl
theorem un_s {Z : Tre} {cwd : Int} {s : Bytes} : unV Z cwd [45, 115] s = inodeV Z cwd s true (fun k => decide (kindV Z k = 2) || !decide (dataV Z k = [])) := rfl
theorem un_r {Z : Tre} {cwd : Int} {s : Bytes} : unV Z cwd [45, 114] s = inodeV Z cwd s true (fun k => mayV Z k 4) := rfl
theorem un_w {Z : Tre} {cwd : Int} {s : Bytes} : unV Z cwd [45, 119] s = inodeV Z cwd s true (fun k => mayV Z k 2) := rfl
theorem un_x {Z : Tre} {cwd : Int} {s : Bytes} : unV Z cwd [45, 120] s = inodeV Z cwd s true (fun k => mayV Z k 1) := rfl
theorem un_no {Z : Tre} {cwd : Int} {op s : Bytes} (h : op ≠ [45, 110] ∧ op ≠ [45, 122] ∧ op ≠ [45, 101] ∧ op ≠ [45, 102] ∧ op ≠ [45, 100] ∧ op ≠ [45, 104] ∧ op ≠ [45, 76] ∧ op ≠ [45, 115] ∧ op ≠ [45, 114] ∧ op ≠ [45, 119] ∧ op ≠ [45, 120]) : unV Z cwd op s = 2 := by
  obtain ⟨h0, h1, h2, h3, h4, h5, h6, h7, h8, h9, h10⟩ := h
  unfold unV; rw [if_neg h0, if_neg h1, if_neg h2, if_neg h3, if_neg h4, if_neg h5, if_neg h6, if_neg h7, if_neg h8, if_neg h9, if_neg h10]
theorem inode_err {Z : Tre} {cwd : Int} {p : Bytes} {fo : Bool} {g : Int → Bool} (h : ¬ (walkV Z cwd p fo).2 = 0) : inodeV Z cwd p fo g = 1 := by
  unfold inodeV; rw [decide_eq_false h]; rfl
theorem inode_ok {Z : Tre} {cwd : Int} {p : Bytes} {fo : Bool} {g : Int → Bool} (h : (walkV Z cwd p fo).2 = 0) : inodeV Z cwd p fo g = truN (g (walkV Z cwd p fo).1) := by
  unfold inodeV; rw [decide_eq_true h]; rfl
theorem cmp_eq2 (n m : Int) : truN (bmapV (Lib.compareInt n m) [45, 101, 113]) = truN (decide (n = m)) := by rw [tell_eq]; unfold truN; simp
theorem cmp_ne2 (n m : Int) : truN (bmapV (Lib.compareInt n m) [45, 110, 101]) = truN (!decide (n = m)) := by rw [tell_ne]; unfold truN; by_cases h : n = m <;> simp [h]
theorem cmp_lt2 (n m : Int) : truN (bmapV (Lib.compareInt n m) [45, 108, 116]) = truN (decide (n < m)) := by rw [tell_lt]; unfold truN; simp
theorem cmp_le2 (n m : Int) : truN (bmapV (Lib.compareInt n m) [45, 108, 101]) = truN (decide (n ≤ m)) := by rw [tell_le]; unfold truN; simp
theorem cmp_gt2 (n m : Int) : truN (bmapV (Lib.compareInt n m) [45, 103, 116]) = truN (decide (m < n)) := by rw [tell_gt]; unfold truN; simp
theorem cmp_ge2 (n m : Int) : truN (bmapV (Lib.compareInt n m) [45, 103, 101]) = truN (decide (m ≤ n)) := by rw [tell_ge]; unfold truN; simp

theorem Rtruth_spec (b : Bool) (w : World) : CallR Tryz.prog 17 #[.bool b] w fun v w' => v = .int .i64 (truN b) ∧ Chg [] w w' := by
 refine callR_of_wp (args := [_]) Tryz.func17 rfl (Nat.le_of_ble_eq_true rfl) ?_
 have HC : Chg [] w w := .refl _
 refine sr rfl <| aI rfl <| en <| x_seq <| sr rfl <| mB rfl <| en <| x_cond rfl (fun h0 => ?_) (fun h0 => ?_)
 ·try simp only [nm, ne_eq] at h0
  refine sr rfl <| aI rfl <| en <| x_ret <| then_r <| ret_tmp (v := .int _ _) rfl rfl ?_
  rw [show b = true by simpa using h0]
  exact ⟨rfl, HC⟩
 ·try simp only [nm, ne_eq] at h0
  refine x_skip <| then_n <| sr rfl <| aI rfl <| en <| x_ret <| ret_tmp (v := .int _ _) rfl rfl ?_
  rw [show b = false by simpa using h0]
  exact ⟨rfl, HC⟩

theorem Rturned_spec (n : Int) (hn : n = 0 ∨ n = 1 ∨ n = 2) (w : World) : CallR Tryz.prog 20 #[.int .i64 n] w fun v w' => v = .int .i64 (turnN n) ∧ Chg [] w w' := by
 refine callR_of_wp (args := [_]) Tryz.func20 rfl (Nat.le_of_ble_eq_true rfl) ?_
 have HC : Chg [] w w := .refl _
 refine sr rfl <| aI rfl <| en <| x_seq <| sr rfl <| mI rfl <| Wp rfl <| st_eql rfl rfl <| en <| x_cond rfl (fun h0 => ?_) (fun h0 => ?_)
 ·try simp only [nm, ne_eq] at h0
  refine sr rfl <| aI rfl <| en <| x_ret <| then_r <| ret_tmp (v := .int _ _) rfl rfl <| ⟨congrArg (Value.int .i64) ?_, HC⟩
  unfold turnN; rw [if_pos h0]
 ·try simp only [nm, ne_eq] at h0
  refine x_skip <| then_n <| sr rfl <| mI rfl <| Wp rfl <| st_subn rfl rfl (by constructor <;> omega) <| aI rfl <| en <| x_ret <| ret_tmp (v := .int _ _) rfl rfl <| ⟨congrArg (Value.int .i64) ?_, HC⟩
  unfold turnN; rw [if_neg h0]

theorem Rsize_spec (x : Ino) (K : Option Addr) (c : Nat) (w : World) : CallR Tryz.prog 33 #[.agg ⟨[.int .i64 x.kind, .int .i64 x.mode, .int .i64 x.links, S x.data, .slice K x.kids.length c, .int .i64 x.up]⟩] w fun v w' => v = .bool (decide (x.kind = 2) || !decide (x.data = [])) ∧ Chg [] w w' := by
 refine callR_of_wp (args := [_]) Tryz.func33 rfl (Nat.le_of_ble_eq_true rfl) ?_
 have HC : Chg [] w w := .refl _
 refine sr rfl <| Wp rfl <| st_box (v := .agg ⟨[.int _ _, .int _ _, .int _ _, S _, .slice _ _ _, .int _ _]⟩) (vs := [_, _, _, _, _, _]) rfl rfl ?_
 intro b1 w1 e2 c3 hb4
 have ge_b1 : w.heap.size ≤ b1 := by rw [e2]; exact HC.size
 replace HC := HC.then c3
 clear e2
 refine aB rfl <| en <| sr rfl <| fa T.fld44_0 rfl <| lI T.one3 rfl (hb4.cell rfl) <| Wp rfl <| st_eql rfl rfl <| mB rfl <| w_split (d := 6) rfl (fun g5 => ?_) (fun g5 => ?_)
 ·try simp only [nm, ne_eq] at g5
  iterate 3 refine w_no 3 6 false ?_
  refine pT rfl rfl <| aB rfl <| en <| x_ret <| ret_tmp (v := .bool _) rfl rfl <| ⟨congrArg Value.bool ?_, HC⟩
  rw [decide_eq_true (show x.kind = 2 by assumption)]; rfl
 ·try simp only [nm, ne_eq] at g5
  refine w_yes 3 6 false <| st_fieldAddr T.fld44_3 rfl <| w_yes 3 6 false <| st_load1 (v := S _) T.one9 rfl (hb4.cell rfl) <| w_yes 3 6 false <| st_sneq rfl rfl <| pF rfl rfl <| aB rfl <| en <| x_ret <| ret_tmp (v := .bool _) rfl rfl <| ⟨congrArg Value.bool ?_, HC⟩
  rw [decide_eq_false (show ¬ x.kind = 2 by assumption)]; first | rfl | simp

theorem RisBin_spec (op : Bytes) (w : World) : CallR Tryz.prog 18 #[S op] w fun v w' => v = .bool (decide (op ∈ binL)) ∧ Chg [] w w' := by
 refine callR_of_wp (args := [_]) Tryz.func18 rfl (Nat.le_of_ble_eq_true rfl) ?_
 have HC : Chg [] w w := .refl _
 refine sr rfl <| aB rfl <| en <| x_seq <| sr rfl <| mS rfl <| en <| x_block <| x_seq <| sr rfl <| Wp rfl <| st_seql rfl rfl <| aB rfl <| en <| x_cond rfl (fun h0 => ?_) (fun h0 => ?_)
 ·try simp only [nm, ne_eq] at h0
  refine x_skip <| then_n <| x_cond rfl (fun h7 => ?_) (fun h7 => ?_)
  rotate_left
  · exfalso; simp_all
  refine sr rfl <| aB rfl <| en <| x_ret <| block_r <| then_r <| ret_tmp (v := .bool _) rfl rfl <| ⟨congrArg Value.bool ?_, HC⟩
  rw [Bool.eq_iff_iff, decide_eq_true_eq]; unfold binL; simp only [List.mem_cons, List.mem_nil_iff, or_false]
  simp_all
 ·try simp only [nm, ne_eq] at h0
  refine sr rfl <| Wp rfl <| st_seql rfl rfl <| aB rfl <| en <| x_cond rfl (fun h1 => ?_) (fun h1 => ?_)
  ·try simp only [nm, ne_eq] at h1
   refine x_skip <| then_n <| x_cond rfl (fun h7 => ?_) (fun h7 => ?_)
   rotate_left
   · exfalso; simp_all
   refine sr rfl <| aB rfl <| en <| x_ret <| block_r <| then_r <| ret_tmp (v := .bool _) rfl rfl <| ⟨congrArg Value.bool ?_, HC⟩
   rw [Bool.eq_iff_iff, decide_eq_true_eq]; unfold binL; simp only [List.mem_cons, List.mem_nil_iff, or_false]
   simp_all
  ·try simp only [nm, ne_eq] at h1
   refine sr rfl <| Wp rfl <| st_seql rfl rfl <| aB rfl <| en <| x_cond rfl (fun h2 => ?_) (fun h2 => ?_)
   ·try simp only [nm, ne_eq] at h2
    refine x_skip <| then_n <| x_cond rfl (fun h7 => ?_) (fun h7 => ?_)
    rotate_left
    · exfalso; simp_all
    refine sr rfl <| aB rfl <| en <| x_ret <| block_r <| then_r <| ret_tmp (v := .bool _) rfl rfl <| ⟨congrArg Value.bool ?_, HC⟩
    rw [Bool.eq_iff_iff, decide_eq_true_eq]; unfold binL; simp only [List.mem_cons, List.mem_nil_iff, or_false]
    simp_all
   ·try simp only [nm, ne_eq] at h2
    refine sr rfl <| Wp rfl <| st_seql rfl rfl <| aB rfl <| en <| x_cond rfl (fun h3 => ?_) (fun h3 => ?_)
    ·try simp only [nm, ne_eq] at h3
     refine x_skip <| then_n <| x_cond rfl (fun h7 => ?_) (fun h7 => ?_)
     rotate_left
     · exfalso; simp_all
     refine sr rfl <| aB rfl <| en <| x_ret <| block_r <| then_r <| ret_tmp (v := .bool _) rfl rfl <| ⟨congrArg Value.bool ?_, HC⟩
     rw [Bool.eq_iff_iff, decide_eq_true_eq]; unfold binL; simp only [List.mem_cons, List.mem_nil_iff, or_false]
     simp_all
    ·try simp only [nm, ne_eq] at h3
     refine sr rfl <| Wp rfl <| st_seql rfl rfl <| aB rfl <| en <| x_cond rfl (fun h4 => ?_) (fun h4 => ?_)
     ·try simp only [nm, ne_eq] at h4
      refine x_skip <| then_n <| x_cond rfl (fun h7 => ?_) (fun h7 => ?_)
      rotate_left
      · exfalso; simp_all
      refine sr rfl <| aB rfl <| en <| x_ret <| block_r <| then_r <| ret_tmp (v := .bool _) rfl rfl <| ⟨congrArg Value.bool ?_, HC⟩
      rw [Bool.eq_iff_iff, decide_eq_true_eq]; unfold binL; simp only [List.mem_cons, List.mem_nil_iff, or_false]
      simp_all
     ·try simp only [nm, ne_eq] at h4
      refine sr rfl <| Wp rfl <| st_seql rfl rfl <| aB rfl <| en <| x_cond rfl (fun h5 => ?_) (fun h5 => ?_)
      ·try simp only [nm, ne_eq] at h5
       refine x_skip <| then_n <| x_cond rfl (fun h7 => ?_) (fun h7 => ?_)
       rotate_left
       · exfalso; simp_all
       refine sr rfl <| aB rfl <| en <| x_ret <| block_r <| then_r <| ret_tmp (v := .bool _) rfl rfl <| ⟨congrArg Value.bool ?_, HC⟩
       rw [Bool.eq_iff_iff, decide_eq_true_eq]; unfold binL; simp only [List.mem_cons, List.mem_nil_iff, or_false]
       simp_all
      ·try simp only [nm, ne_eq] at h5
       refine sr rfl <| Wp rfl <| st_seql rfl rfl <| aB rfl <| en <| x_cond rfl (fun h6 => ?_) (fun h6 => ?_)
       ·try simp only [nm, ne_eq] at h6
        refine x_skip <| then_n <| x_cond rfl (fun h7 => ?_) (fun h7 => ?_)
        rotate_left
        · exfalso; simp_all
        refine sr rfl <| aB rfl <| en <| x_ret <| block_r <| then_r <| ret_tmp (v := .bool _) rfl rfl <| ⟨congrArg Value.bool ?_, HC⟩
        rw [Bool.eq_iff_iff, decide_eq_true_eq]; unfold binL; simp only [List.mem_cons, List.mem_nil_iff, or_false]
        simp_all
       ·try simp only [nm, ne_eq] at h6
        refine x_region rfl <| Wp rfl <| st_seql rfl rfl <| aB rfl <| en <| x_cond rfl (fun h7 => ?_) (fun h7 => ?_)
        ·try simp only [nm, ne_eq] at h7
         refine sr rfl <| aB rfl <| en <| x_ret <| block_r <| then_r <| ret_tmp (v := .bool _) rfl rfl <| ⟨congrArg Value.bool ?_, HC⟩
         rw [Bool.eq_iff_iff, decide_eq_true_eq]; unfold binL; simp only [List.mem_cons, List.mem_nil_iff, or_false]
         simp_all
        ·try simp only [nm, ne_eq] at h7
         refine x_skip <| block_n <| then_n <| sr rfl <| aB rfl <| en <| x_ret <| ret_tmp (v := .bool _) rfl rfl <| ⟨congrArg Value.bool ?_, HC⟩
         rw [Bool.eq_iff_iff, decide_eq_true_eq]; unfold binL; simp only [List.mem_cons, List.mem_nil_iff, or_false]
         simp_all

set_option maxHeartbeats 800000 in
theorem Runary_spec {Z : Tre} {An : Option Addr} {capn : Nat} {mx my : Int} {D : Nat → Prop} {w : World} (hT : Sl inE w D An Z) (hTl : Z.length ≤ 1000000000) (hF : FitT Z) (cwd : Int) (op s : Bytes) (hp : s.length ≤ 140737488351232) : CallR Tryz.prog 21 #[.agg ⟨[.slice An Z.length capn, .int .i64 mx, .int .i64 my]⟩, .int .i64 cwd, S op, S s] w fun v w' => v = .int .i64 (unV Z cwd op s) ∧ Chg [] w w' := by
 replace hT := hT.mono (D' := fun k => k < w.heap.size) (fun k hk _ => hk)
 refine callR_of_wp (args := [_, _, _, _]) Tryz.func21 rfl (Nat.le_of_ble_eq_true rfl) ?_
 have HC : Chg [] w w := .refl _
 refine sr rfl <| Wp rfl <| st_box (v := .agg ⟨[.slice _ _ _, .int _ _, .int _ _]⟩) (vs := [_, _, _]) rfl rfl ?_
 intro b4 w1 e2 c3 hb4
 have ge_b4 : w.heap.size ≤ b4 := by rw [e2]; exact HC.size
 replace HC := HC.then c3
 replace hT := hT.tr0 c3
 clear e2
 refine aI rfl <| en <| x_seq <| sr rfl <| mS rfl <| en <| x_block <| sr rfl <| Wp rfl <| st_seql rfl rfl <| aB rfl <| en <| x_cond rfl (fun h0 => ?_) (fun h0 => ?_)
 ·try simp only [nm, ne_eq] at h0
  obtain rfl : op = [45, 110] := h0
  refine sr rfl <| mS rfl <| Wp rfl <| st_sneq rfl rfl <| Wp rfl <| st_call (ags := [_]) rfl rfl T.ent17 rfl (Rtruth_spec _ _) ?_
  rintro _ w5 ⟨rfl, c6⟩
  replace HC := HC.then c6
  replace hT := hT.tr0 c6
  replace hb4 := hb4.tr0 c6
  refine aI rfl <| en <| x_ret <| block_r <| then_r <| ret_tmp (v := .int _ _) rfl rfl ?_
  rw [un_n]
  exact ⟨rfl, HC⟩
 ·try simp only [nm, ne_eq] at h0
  refine sr rfl <| Wp rfl <| st_seql rfl rfl <| aB rfl <| en <| x_cond rfl (fun h1 => ?_) (fun h1 => ?_)
  ·try simp only [nm, ne_eq] at h1
   obtain rfl : op = [45, 122] := h1
   refine sr rfl <| mS rfl <| Wp rfl <| st_seql rfl rfl <| Wp rfl <| st_call (ags := [_]) rfl rfl T.ent17 rfl (Rtruth_spec _ _) ?_
   rintro _ w7 ⟨rfl, c8⟩
   replace HC := HC.then c8
   replace hT := hT.tr0 c8
   replace hb4 := hb4.tr0 c8
   refine aI rfl <| en <| x_ret <| block_r <| then_r <| ret_tmp (v := .int _ _) rfl rfl ?_
   rw [un_z]
   exact ⟨rfl, HC⟩
  ·try simp only [nm, ne_eq] at h1
   refine x_seq <| sr rfl <| Wp rfl <| st_seql rfl rfl <| aB rfl <| en <| x_cond rfl (fun h2 => ?_) (fun h2 => ?_)
   ·try simp only [nm, ne_eq] at h2
    obtain rfl : op = [45, 104] := h2
    refine x_skip <| then_n <| x_cond rfl (fun h3 => ?_) (fun h3 => ?_)
    rotate_left
    · exfalso; simp_all
    refine sr rfl <| Wp rfl <| st_loadA (vs := [_, _, _]) T.agg24 rfl (hb4.cells (n := 3) (vs := [_, _, _]) rfl) rfl <| mI rfl <| mS rfl <| Wp rfl <| st_call (ags := [_, _, _, _]) rfl rfl T.ent32 rfl (RWalk_spec hT hTl hF cwd s false hp) ?_
    rintro _ w9 ⟨rfl, c10⟩
    replace HC := HC.then c10
    replace hT := hT.tr0 c10
    replace hb4 := hb4.tr0 c10
    refine mv (v := .tuple ⟨[_, _]⟩) rfl <| Wp rfl <| st_extract (vs := [_, _]) (v := .int _ _) rfl rfl <| Wp rfl <| st_extract (vs := [_, _]) (v := .int _ _) rfl rfl <| aI rfl <| aI rfl <| en <| sr rfl <| mI rfl <| Wp rfl <| st_eql rfl rfl <| mB rfl <| w_split (d := 36) rfl (fun g11 => ?_) (fun g11 => ?_)
    ·try simp only [nm, ne_eq] at g11
     have he : (walkV Z cwd s false).2 = 0 := by assumption
     obtain ⟨hw0, hw1⟩ := walk_inT hF he
     obtain ⟨x, hx, hxk, hxd, _⟩ := kind_dir ⟨hw0, hw1⟩
     refine w_yes 2 36 true <| st_fieldAddr T.fld24_0 rfl <| w_yes 2 36 true <| st_load1 (v := .slice _ _ _) T.one22 rfl (hb4.cell rfl) <| w_yes 2 36 true <| st_move (v := .int _ _) rfl ?_
     obtain ⟨lb16, _, vs15, hA12, hR14, hC13⟩ := hT.at (i := ((walkV Z cwd s false).1.toNat)) (x := x) (hx)
     obtain ⟨K17, cK17, rfl, hk1_17, hk2_17, hk3_17⟩ := hR14
     refine w_yes 2 36 true <| st_indexAddr T.u22 T.size44 (congrArg (fun z => Value.slice z _ _) hA12) rfl (by omega) (by omega) <| w_yes 2 36 true <| st_fieldAddr T.fld44_0 rfl <| w_yes 2 36 true <| st_load1 (v := .int _ _) T.one3 rfl (hC13.at (j := 0) rfl) <| w_yes 2 36 true <| st_eql rfl rfl <| pT rfl rfl <| Wp rfl <| st_call (ags := [_]) rfl rfl T.ent17 rfl (Rtruth_spec _ _) ?_
     rintro _ w18 ⟨rfl, c19⟩
     replace HC := HC.then c19
     replace hT := hT.tr0 c19
     replace hb4 := hb4.tr0 c19
     replace hk3_17 := hk3_17.tr0 c19
     refine aI rfl <| en <| x_ret <| block_r <| then_r <| ret_tmp (v := .int _ _) rfl rfl ?_
     rw [un_h]
     rw [inode_ok he]
     rw [hxk]
     exact ⟨rfl, HC⟩
    ·try simp only [nm, ne_eq] at g11
     iterate 7 refine w_no 2 36 true ?_
     refine pF rfl rfl <| Wp rfl <| st_call (ags := [_]) rfl rfl T.ent17 rfl (Rtruth_spec _ _) ?_
     rintro _ w20 ⟨rfl, c21⟩
     replace HC := HC.then c21
     replace hT := hT.tr0 c21
     replace hb4 := hb4.tr0 c21
     refine aI rfl <| en <| x_ret <| block_r <| then_r <| ret_tmp (v := .int _ _) rfl rfl ?_
     rw [un_h]
     rw [inode_err (by assumption)]
     exact ⟨rfl, HC⟩
   ·try simp only [nm, ne_eq] at h2
    refine x_region rfl <| Wp rfl <| st_seql rfl rfl <| aB rfl <| en <| x_cond rfl (fun h3 => ?_) (fun h3 => ?_)
    ·try simp only [nm, ne_eq] at h3
     obtain rfl : op = [45, 76] := h3
     refine sr rfl <| Wp rfl <| st_loadA (vs := [_, _, _]) T.agg24 rfl (hb4.cells (n := 3) (vs := [_, _, _]) rfl) rfl <| mI rfl <| mS rfl <| Wp rfl <| st_call (ags := [_, _, _, _]) rfl rfl T.ent32 rfl (RWalk_spec hT hTl hF cwd s false hp) ?_
     rintro _ w22 ⟨rfl, c23⟩
     replace HC := HC.then c23
     replace hT := hT.tr0 c23
     replace hb4 := hb4.tr0 c23
     refine mv (v := .tuple ⟨[_, _]⟩) rfl <| Wp rfl <| st_extract (vs := [_, _]) (v := .int _ _) rfl rfl <| Wp rfl <| st_extract (vs := [_, _]) (v := .int _ _) rfl rfl <| aI rfl <| aI rfl <| en <| sr rfl <| mI rfl <| Wp rfl <| st_eql rfl rfl <| mB rfl <| w_split (d := 36) rfl (fun g24 => ?_) (fun g24 => ?_)
     ·try simp only [nm, ne_eq] at g24
      have he : (walkV Z cwd s false).2 = 0 := by assumption
      obtain ⟨hw0, hw1⟩ := walk_inT hF he
      obtain ⟨x, hx, hxk, hxd, _⟩ := kind_dir ⟨hw0, hw1⟩
      refine w_yes 2 36 true <| st_fieldAddr T.fld24_0 rfl <| w_yes 2 36 true <| st_load1 (v := .slice _ _ _) T.one22 rfl (hb4.cell rfl) <| w_yes 2 36 true <| st_move (v := .int _ _) rfl ?_
      obtain ⟨lb29, _, vs28, hA25, hR27, hC26⟩ := hT.at (i := ((walkV Z cwd s false).1.toNat)) (x := x) (hx)
      obtain ⟨K30, cK30, rfl, hk1_30, hk2_30, hk3_30⟩ := hR27
      refine w_yes 2 36 true <| st_indexAddr T.u22 T.size44 (congrArg (fun z => Value.slice z _ _) hA25) rfl (by omega) (by omega) <| w_yes 2 36 true <| st_fieldAddr T.fld44_0 rfl <| w_yes 2 36 true <| st_load1 (v := .int _ _) T.one3 rfl (hC26.at (j := 0) rfl) <| w_yes 2 36 true <| st_eql rfl rfl <| pT rfl rfl <| Wp rfl <| st_call (ags := [_]) rfl rfl T.ent17 rfl (Rtruth_spec _ _) ?_
      rintro _ w31 ⟨rfl, c32⟩
      replace HC := HC.then c32
      replace hT := hT.tr0 c32
      replace hb4 := hb4.tr0 c32
      replace hk3_30 := hk3_30.tr0 c32
      refine aI rfl <| en <| x_ret <| block_r <| then_r <| ret_tmp (v := .int _ _) rfl rfl ?_
      rw [un_L]
      rw [inode_ok he]
      rw [hxk]
      exact ⟨rfl, HC⟩
     ·try simp only [nm, ne_eq] at g24
      iterate 7 refine w_no 2 36 true ?_
      refine pF rfl rfl <| Wp rfl <| st_call (ags := [_]) rfl rfl T.ent17 rfl (Rtruth_spec _ _) ?_
      rintro _ w33 ⟨rfl, c34⟩
      replace HC := HC.then c34
      replace hT := hT.tr0 c34
      replace hb4 := hb4.tr0 c34
      refine aI rfl <| en <| x_ret <| block_r <| then_r <| ret_tmp (v := .int _ _) rfl rfl ?_
      rw [un_L]
      rw [inode_err (by assumption)]
      exact ⟨rfl, HC⟩
    ·try simp only [nm, ne_eq] at h3
     refine x_seq <| sr rfl <| Wp rfl <| st_seql rfl rfl <| aB rfl <| en <| x_cond rfl (fun h4 => ?_) (fun h4 => ?_)
     ·try simp only [nm, ne_eq] at h4
      obtain rfl : op = [45, 101] := h4
      refine x_skip <| then_n <| x_cond rfl (fun h10 => ?_) (fun h10 => ?_)
      rotate_left
      · exfalso; simp_all
      refine x_skip <| block_n <| then_n <| sr rfl <| Wp rfl <| st_loadA (vs := [_, _, _]) T.agg24 rfl (hb4.cells (n := 3) (vs := [_, _, _]) rfl) rfl <| mI rfl <| mS rfl <| Wp rfl <| st_call (ags := [_, _, _, _]) rfl rfl T.ent32 rfl (RWalk_spec hT hTl hF cwd s true hp) ?_
      rintro _ w35 ⟨rfl, c36⟩
      replace HC := HC.then c36
      replace hT := hT.tr0 c36
      replace hb4 := hb4.tr0 c36
      refine mv (v := .tuple ⟨[_, _]⟩) rfl <| Wp rfl <| st_extract (vs := [_, _]) (v := .int _ _) rfl rfl <| Wp rfl <| st_extract (vs := [_, _]) (v := .int _ _) rfl rfl <| aI rfl <| aI rfl <| en <| x_seq <| sr rfl <| mI rfl <| Wp rfl <| st_neq rfl rfl <| en <| x_cond rfl (fun h11 => ?_) (fun h11 => ?_)
      ·try simp only [nm, ne_eq] at h11
       refine sr rfl <| aI rfl <| en <| x_ret <| then_r <| ret_tmp (v := .int _ _) rfl rfl ?_
       rw [un_e]
       rw [inode_err (by assumption)]
       exact ⟨rfl, HC⟩
      ·try simp only [nm, ne_eq] at h11
       have he : (walkV Z cwd s true).2 = 0 := by first | assumption | simp_all
       obtain ⟨hw0, hw1⟩ := walk_inT hF he
       obtain ⟨x, hx, hxk, hxd, _⟩ := kind_dir ⟨hw0, hw1⟩
       refine x_skip <| then_n <| x_seq <| sr rfl <| mS rfl <| en <| x_block <| sr rfl <| Wp rfl <| st_seql rfl rfl <| aB rfl <| en <| x_cond rfl (fun h12 => ?_) (fun h12 => ?_)
       ·try simp only [nm, ne_eq] at h12
        first | exact absurd rfl h12 | exact absurd trivial h12 | (simp at h12; done)
       ·try simp only [nm, ne_eq] at h12
        refine sr rfl <| Wp rfl <| st_seql rfl rfl <| aB rfl <| en <| x_cond rfl (fun h13 => ?_) (fun h13 => ?_)
        ·try simp only [nm, ne_eq] at h13
         first | exact absurd rfl h13 | exact absurd trivial h13 | (simp at h13; done)
        ·try simp only [nm, ne_eq] at h13
         refine sr rfl <| Wp rfl <| st_seql rfl rfl <| aB rfl <| en <| x_cond rfl (fun h14 => ?_) (fun h14 => ?_)
         ·try simp only [nm, ne_eq] at h14
          first | exact absurd rfl h14 | exact absurd trivial h14 | (simp at h14; done)
         ·try simp only [nm, ne_eq] at h14
          refine sr rfl <| Wp rfl <| st_seql rfl rfl <| aB rfl <| en <| x_cond rfl (fun h15 => ?_) (fun h15 => ?_)
          ·try simp only [nm, ne_eq] at h15
           first | exact absurd rfl h15 | exact absurd trivial h15 | (simp at h15; done)
          ·try simp only [nm, ne_eq] at h15
           refine sr rfl <| Wp rfl <| st_seql rfl rfl <| aB rfl <| en <| x_cond rfl (fun h16 => ?_) (fun h16 => ?_)
           ·try simp only [nm, ne_eq] at h16
            first | exact absurd rfl h16 | exact absurd trivial h16 | (simp at h16; done)
           ·try simp only [nm, ne_eq] at h16
            refine sr rfl <| Wp rfl <| st_seql rfl rfl <| aB rfl <| en <| x_cond rfl (fun h17 => ?_) (fun h17 => ?_)
            ·try simp only [nm, ne_eq] at h17
             first | exact absurd rfl h17 | exact absurd trivial h17 | (simp at h17; done)
            ·try simp only [nm, ne_eq] at h17
             refine x_skip <| block_n <| then_n <| sr rfl <| aI rfl <| en <| x_ret <| ret_tmp (v := .int _ _) rfl rfl ?_
             rw [un_e]
             rw [inode_ok he]
             exact ⟨rfl, HC⟩
     ·try simp only [nm, ne_eq] at h4
      refine sr rfl <| Wp rfl <| st_seql rfl rfl <| aB rfl <| en <| x_cond rfl (fun h5 => ?_) (fun h5 => ?_)
      ·try simp only [nm, ne_eq] at h5
       obtain rfl : op = [45, 102] := h5
       refine x_skip <| then_n <| x_cond rfl (fun h10 => ?_) (fun h10 => ?_)
       rotate_left
       · exfalso; simp_all
       refine x_skip <| block_n <| then_n <| sr rfl <| Wp rfl <| st_loadA (vs := [_, _, _]) T.agg24 rfl (hb4.cells (n := 3) (vs := [_, _, _]) rfl) rfl <| mI rfl <| mS rfl <| Wp rfl <| st_call (ags := [_, _, _, _]) rfl rfl T.ent32 rfl (RWalk_spec hT hTl hF cwd s true hp) ?_
       rintro _ w37 ⟨rfl, c38⟩
       replace HC := HC.then c38
       replace hT := hT.tr0 c38
       replace hb4 := hb4.tr0 c38
       refine mv (v := .tuple ⟨[_, _]⟩) rfl <| Wp rfl <| st_extract (vs := [_, _]) (v := .int _ _) rfl rfl <| Wp rfl <| st_extract (vs := [_, _]) (v := .int _ _) rfl rfl <| aI rfl <| aI rfl <| en <| x_seq <| sr rfl <| mI rfl <| Wp rfl <| st_neq rfl rfl <| en <| x_cond rfl (fun h11 => ?_) (fun h11 => ?_)
       ·try simp only [nm, ne_eq] at h11
        refine sr rfl <| aI rfl <| en <| x_ret <| then_r <| ret_tmp (v := .int _ _) rfl rfl ?_
        rw [un_f]
        rw [inode_err (by assumption)]
        exact ⟨rfl, HC⟩
       ·try simp only [nm, ne_eq] at h11
        have he : (walkV Z cwd s true).2 = 0 := by first | assumption | simp_all
        obtain ⟨hw0, hw1⟩ := walk_inT hF he
        obtain ⟨x, hx, hxk, hxd, _⟩ := kind_dir ⟨hw0, hw1⟩
        refine x_skip <| then_n <| x_seq <| sr rfl <| mS rfl <| en <| x_block <| sr rfl <| Wp rfl <| st_seql rfl rfl <| aB rfl <| en <| x_cond rfl (fun h12 => ?_) (fun h12 => ?_)
        ·try simp only [nm, ne_eq] at h12
         refine sr rfl <| fa T.fld24_0 rfl <| lL T.one22 rfl (hb4.cell rfl) <| mI rfl ?_
         obtain ⟨lb43, _, vs42, hA39, hR41, hC40⟩ := hT.at (i := ((walkV Z cwd s true).1.toNat)) (x := x) (hx)
         obtain ⟨K44, cK44, rfl, hk1_44, hk2_44, hk3_44⟩ := hR41
         refine Wp rfl <| st_indexAddr T.u22 T.size44 (congrArg (fun z => Value.slice z _ _) hA39) rfl (by omega) (by omega) <| fa T.fld44_0 rfl <| lI T.one3 rfl (hC40.at (j := 0) rfl) <| Wp rfl <| st_eql rfl rfl <| Wp rfl <| st_call (ags := [_]) rfl rfl T.ent17 rfl (Rtruth_spec _ _) ?_
         rintro _ w45 ⟨rfl, c46⟩
         replace HC := HC.then c46
         replace hT := hT.tr0 c46
         replace hb4 := hb4.tr0 c46
         replace hk3_44 := hk3_44.tr0 c46
         refine aI rfl <| en <| x_ret <| block_r <| then_r <| ret_tmp (v := .int _ _) rfl rfl ?_
         rw [un_f]
         rw [inode_ok he]
         rw [hxk]
         exact ⟨rfl, HC⟩
        ·try simp only [nm, ne_eq] at h12
         first | exact absurd rfl h12 | exact absurd trivial h12 | (simp at h12; done)
      ·try simp only [nm, ne_eq] at h5
       refine sr rfl <| Wp rfl <| st_seql rfl rfl <| aB rfl <| en <| x_cond rfl (fun h6 => ?_) (fun h6 => ?_)
       ·try simp only [nm, ne_eq] at h6
        obtain rfl : op = [45, 100] := h6
        refine x_skip <| then_n <| x_cond rfl (fun h10 => ?_) (fun h10 => ?_)
        rotate_left
        · exfalso; simp_all
        refine x_skip <| block_n <| then_n <| sr rfl <| Wp rfl <| st_loadA (vs := [_, _, _]) T.agg24 rfl (hb4.cells (n := 3) (vs := [_, _, _]) rfl) rfl <| mI rfl <| mS rfl <| Wp rfl <| st_call (ags := [_, _, _, _]) rfl rfl T.ent32 rfl (RWalk_spec hT hTl hF cwd s true hp) ?_
        rintro _ w47 ⟨rfl, c48⟩
        replace HC := HC.then c48
        replace hT := hT.tr0 c48
        replace hb4 := hb4.tr0 c48
        refine mv (v := .tuple ⟨[_, _]⟩) rfl <| Wp rfl <| st_extract (vs := [_, _]) (v := .int _ _) rfl rfl <| Wp rfl <| st_extract (vs := [_, _]) (v := .int _ _) rfl rfl <| aI rfl <| aI rfl <| en <| x_seq <| sr rfl <| mI rfl <| Wp rfl <| st_neq rfl rfl <| en <| x_cond rfl (fun h11 => ?_) (fun h11 => ?_)
        ·try simp only [nm, ne_eq] at h11
         refine sr rfl <| aI rfl <| en <| x_ret <| then_r <| ret_tmp (v := .int _ _) rfl rfl ?_
         rw [un_d]
         rw [inode_err (by assumption)]
         exact ⟨rfl, HC⟩
        ·try simp only [nm, ne_eq] at h11
         have he : (walkV Z cwd s true).2 = 0 := by first | assumption | simp_all
         obtain ⟨hw0, hw1⟩ := walk_inT hF he
         obtain ⟨x, hx, hxk, hxd, _⟩ := kind_dir ⟨hw0, hw1⟩
         refine x_skip <| then_n <| x_seq <| sr rfl <| mS rfl <| en <| x_block <| sr rfl <| Wp rfl <| st_seql rfl rfl <| aB rfl <| en <| x_cond rfl (fun h12 => ?_) (fun h12 => ?_)
         ·try simp only [nm, ne_eq] at h12
          first | exact absurd rfl h12 | exact absurd trivial h12 | (simp at h12; done)
         ·try simp only [nm, ne_eq] at h12
          refine sr rfl <| Wp rfl <| st_seql rfl rfl <| aB rfl <| en <| x_cond rfl (fun h13 => ?_) (fun h13 => ?_)
          ·try simp only [nm, ne_eq] at h13
           refine sr rfl <| fa T.fld24_0 rfl <| lL T.one22 rfl (hb4.cell rfl) <| mI rfl ?_
           obtain ⟨lb53, _, vs52, hA49, hR51, hC50⟩ := hT.at (i := ((walkV Z cwd s true).1.toNat)) (x := x) (hx)
           obtain ⟨K54, cK54, rfl, hk1_54, hk2_54, hk3_54⟩ := hR51
           refine Wp rfl <| st_indexAddr T.u22 T.size44 (congrArg (fun z => Value.slice z _ _) hA49) rfl (by omega) (by omega) <| fa T.fld44_0 rfl <| lI T.one3 rfl (hC50.at (j := 0) rfl) <| Wp rfl <| st_eql rfl rfl <| Wp rfl <| st_call (ags := [_]) rfl rfl T.ent17 rfl (Rtruth_spec _ _) ?_
           rintro _ w55 ⟨rfl, c56⟩
           replace HC := HC.then c56
           replace hT := hT.tr0 c56
           replace hb4 := hb4.tr0 c56
           replace hk3_54 := hk3_54.tr0 c56
           refine aI rfl <| en <| x_ret <| block_r <| then_r <| ret_tmp (v := .int _ _) rfl rfl ?_
           rw [un_d]
           rw [inode_ok he]
           rw [hxk]
           exact ⟨rfl, HC⟩
          ·try simp only [nm, ne_eq] at h13
           first | exact absurd rfl h13 | exact absurd trivial h13 | (simp at h13; done)
       ·try simp only [nm, ne_eq] at h6
        refine sr rfl <| Wp rfl <| st_seql rfl rfl <| aB rfl <| en <| x_cond rfl (fun h7 => ?_) (fun h7 => ?_)
        ·try simp only [nm, ne_eq] at h7
         obtain rfl : op = [45, 115] := h7
         refine x_skip <| then_n <| x_cond rfl (fun h10 => ?_) (fun h10 => ?_)
         rotate_left
         · exfalso; simp_all
         refine x_skip <| block_n <| then_n <| sr rfl <| Wp rfl <| st_loadA (vs := [_, _, _]) T.agg24 rfl (hb4.cells (n := 3) (vs := [_, _, _]) rfl) rfl <| mI rfl <| mS rfl <| Wp rfl <| st_call (ags := [_, _, _, _]) rfl rfl T.ent32 rfl (RWalk_spec hT hTl hF cwd s true hp) ?_
         rintro _ w57 ⟨rfl, c58⟩
         replace HC := HC.then c58
         replace hT := hT.tr0 c58
         replace hb4 := hb4.tr0 c58
         refine mv (v := .tuple ⟨[_, _]⟩) rfl <| Wp rfl <| st_extract (vs := [_, _]) (v := .int _ _) rfl rfl <| Wp rfl <| st_extract (vs := [_, _]) (v := .int _ _) rfl rfl <| aI rfl <| aI rfl <| en <| x_seq <| sr rfl <| mI rfl <| Wp rfl <| st_neq rfl rfl <| en <| x_cond rfl (fun h11 => ?_) (fun h11 => ?_)
         ·try simp only [nm, ne_eq] at h11
          refine sr rfl <| aI rfl <| en <| x_ret <| then_r <| ret_tmp (v := .int _ _) rfl rfl ?_
          rw [un_s]
          rw [inode_err (by assumption)]
          exact ⟨rfl, HC⟩
         ·try simp only [nm, ne_eq] at h11
          have he : (walkV Z cwd s true).2 = 0 := by first | assumption | simp_all
          obtain ⟨hw0, hw1⟩ := walk_inT hF he
          obtain ⟨x, hx, hxk, hxd, _⟩ := kind_dir ⟨hw0, hw1⟩
          refine x_skip <| then_n <| x_seq <| sr rfl <| mS rfl <| en <| x_block <| sr rfl <| Wp rfl <| st_seql rfl rfl <| aB rfl <| en <| x_cond rfl (fun h12 => ?_) (fun h12 => ?_)
          ·try simp only [nm, ne_eq] at h12
           first | exact absurd rfl h12 | exact absurd trivial h12 | (simp at h12; done)
          ·try simp only [nm, ne_eq] at h12
           refine sr rfl <| Wp rfl <| st_seql rfl rfl <| aB rfl <| en <| x_cond rfl (fun h13 => ?_) (fun h13 => ?_)
           ·try simp only [nm, ne_eq] at h13
            first | exact absurd rfl h13 | exact absurd trivial h13 | (simp at h13; done)
           ·try simp only [nm, ne_eq] at h13
            refine sr rfl <| Wp rfl <| st_seql rfl rfl <| aB rfl <| en <| x_cond rfl (fun h14 => ?_) (fun h14 => ?_)
            ·try simp only [nm, ne_eq] at h14
             refine sr rfl <| fa T.fld24_0 rfl <| lL T.one22 rfl (hb4.cell rfl) <| mI rfl ?_
             obtain ⟨lb63, _, vs62, hA59, hR61, hC60⟩ := hT.at (i := ((walkV Z cwd s true).1.toNat)) (x := x) (hx)
             obtain ⟨K64, cK64, rfl, hk1_64, hk2_64, hk3_64⟩ := hR61
             refine Wp rfl <| st_indexAddr T.u22 T.size44 (congrArg (fun z => Value.slice z _ _) hA59) rfl (by omega) (by omega) <| Wp rfl <| st_loadA (vs := [_, _, _, _, _, _]) T.agg44 rfl hC60 rfl <| Wp rfl <| st_call (ags := [_]) rfl rfl T.ent33 rfl (Rsize_spec x _ _ _) ?_
             rintro _ w65 ⟨rfl, c66⟩
             replace HC := HC.then c66
             replace hT := hT.tr0 c66
             replace hb4 := hb4.tr0 c66
             replace hk3_64 := hk3_64.tr0 c66
             refine Wp rfl <| st_call (ags := [_]) rfl rfl T.ent17 rfl (Rtruth_spec _ _) ?_
             rintro _ w67 ⟨rfl, c68⟩
             replace HC := HC.then c68
             replace hT := hT.tr0 c68
             replace hb4 := hb4.tr0 c68
             replace hk3_64 := hk3_64.tr0 c68
             refine aI rfl <| en <| x_ret <| block_r <| then_r <| ret_tmp (v := .int _ _) rfl rfl ?_
             rw [un_s]
             rw [inode_ok he]
             rw [hxk]
             rw [hxd]
             exact ⟨rfl, HC⟩
            ·try simp only [nm, ne_eq] at h14
             first | exact absurd rfl h14 | exact absurd trivial h14 | (simp at h14; done)
        ·try simp only [nm, ne_eq] at h7
         refine sr rfl <| Wp rfl <| st_seql rfl rfl <| aB rfl <| en <| x_cond rfl (fun h8 => ?_) (fun h8 => ?_)
         ·try simp only [nm, ne_eq] at h8
          obtain rfl : op = [45, 114] := h8
          refine x_skip <| then_n <| x_cond rfl (fun h10 => ?_) (fun h10 => ?_)
          rotate_left
          · exfalso; simp_all
          refine x_skip <| block_n <| then_n <| sr rfl <| Wp rfl <| st_loadA (vs := [_, _, _]) T.agg24 rfl (hb4.cells (n := 3) (vs := [_, _, _]) rfl) rfl <| mI rfl <| mS rfl <| Wp rfl <| st_call (ags := [_, _, _, _]) rfl rfl T.ent32 rfl (RWalk_spec hT hTl hF cwd s true hp) ?_
          rintro _ w69 ⟨rfl, c70⟩
          replace HC := HC.then c70
          replace hT := hT.tr0 c70
          replace hb4 := hb4.tr0 c70
          refine mv (v := .tuple ⟨[_, _]⟩) rfl <| Wp rfl <| st_extract (vs := [_, _]) (v := .int _ _) rfl rfl <| Wp rfl <| st_extract (vs := [_, _]) (v := .int _ _) rfl rfl <| aI rfl <| aI rfl <| en <| x_seq <| sr rfl <| mI rfl <| Wp rfl <| st_neq rfl rfl <| en <| x_cond rfl (fun h11 => ?_) (fun h11 => ?_)
          ·try simp only [nm, ne_eq] at h11
           refine sr rfl <| aI rfl <| en <| x_ret <| then_r <| ret_tmp (v := .int _ _) rfl rfl ?_
           rw [un_r]
           rw [inode_err (by assumption)]
           exact ⟨rfl, HC⟩
          ·try simp only [nm, ne_eq] at h11
           have he : (walkV Z cwd s true).2 = 0 := by first | assumption | simp_all
           obtain ⟨hw0, hw1⟩ := walk_inT hF he
           obtain ⟨x, hx, hxk, hxd, _⟩ := kind_dir ⟨hw0, hw1⟩
           refine x_skip <| then_n <| x_seq <| sr rfl <| mS rfl <| en <| x_block <| sr rfl <| Wp rfl <| st_seql rfl rfl <| aB rfl <| en <| x_cond rfl (fun h12 => ?_) (fun h12 => ?_)
           ·try simp only [nm, ne_eq] at h12
            first | exact absurd rfl h12 | exact absurd trivial h12 | (simp at h12; done)
           ·try simp only [nm, ne_eq] at h12
            refine sr rfl <| Wp rfl <| st_seql rfl rfl <| aB rfl <| en <| x_cond rfl (fun h13 => ?_) (fun h13 => ?_)
            ·try simp only [nm, ne_eq] at h13
             first | exact absurd rfl h13 | exact absurd trivial h13 | (simp at h13; done)
            ·try simp only [nm, ne_eq] at h13
             refine sr rfl <| Wp rfl <| st_seql rfl rfl <| aB rfl <| en <| x_cond rfl (fun h14 => ?_) (fun h14 => ?_)
             ·try simp only [nm, ne_eq] at h14
              first | exact absurd rfl h14 | exact absurd trivial h14 | (simp at h14; done)
             ·try simp only [nm, ne_eq] at h14
              refine sr rfl <| Wp rfl <| st_seql rfl rfl <| aB rfl <| en <| x_cond rfl (fun h15 => ?_) (fun h15 => ?_)
              ·try simp only [nm, ne_eq] at h15
               refine sr rfl <| Wp rfl <| st_loadA (vs := [_, _, _]) T.agg24 rfl (hb4.cells (n := 3) (vs := [_, _, _]) rfl) rfl <| mI rfl <| Wp rfl <| st_call (ags := [_, _, _]) rfl rfl T.ent34 rfl (RMay_spec hT hTl hF _ 4 (by simp)) ?_
               rintro _ w71 ⟨rfl, c72⟩
               replace HC := HC.then c72
               replace hT := hT.tr0 c72
               replace hb4 := hb4.tr0 c72
               refine Wp rfl <| st_call (ags := [_]) rfl rfl T.ent17 rfl (Rtruth_spec _ _) ?_
               rintro _ w73 ⟨rfl, c74⟩
               replace HC := HC.then c74
               replace hT := hT.tr0 c74
               replace hb4 := hb4.tr0 c74
               refine aI rfl <| en <| x_ret <| block_r <| then_r <| ret_tmp (v := .int _ _) rfl rfl ?_
               rw [un_r]
               rw [inode_ok he]
               exact ⟨rfl, HC⟩
              ·try simp only [nm, ne_eq] at h15
               first | exact absurd rfl h15 | exact absurd trivial h15 | (simp at h15; done)
         ·try simp only [nm, ne_eq] at h8
          refine sr rfl <| Wp rfl <| st_seql rfl rfl <| aB rfl <| en <| x_cond rfl (fun h9 => ?_) (fun h9 => ?_)
          ·try simp only [nm, ne_eq] at h9
           obtain rfl : op = [45, 119] := h9
           refine x_skip <| then_n <| x_cond rfl (fun h10 => ?_) (fun h10 => ?_)
           rotate_left
           · exfalso; simp_all
           refine x_skip <| block_n <| then_n <| sr rfl <| Wp rfl <| st_loadA (vs := [_, _, _]) T.agg24 rfl (hb4.cells (n := 3) (vs := [_, _, _]) rfl) rfl <| mI rfl <| mS rfl <| Wp rfl <| st_call (ags := [_, _, _, _]) rfl rfl T.ent32 rfl (RWalk_spec hT hTl hF cwd s true hp) ?_
           rintro _ w75 ⟨rfl, c76⟩
           replace HC := HC.then c76
           replace hT := hT.tr0 c76
           replace hb4 := hb4.tr0 c76
           refine mv (v := .tuple ⟨[_, _]⟩) rfl <| Wp rfl <| st_extract (vs := [_, _]) (v := .int _ _) rfl rfl <| Wp rfl <| st_extract (vs := [_, _]) (v := .int _ _) rfl rfl <| aI rfl <| aI rfl <| en <| x_seq <| sr rfl <| mI rfl <| Wp rfl <| st_neq rfl rfl <| en <| x_cond rfl (fun h11 => ?_) (fun h11 => ?_)
           ·try simp only [nm, ne_eq] at h11
            refine sr rfl <| aI rfl <| en <| x_ret <| then_r <| ret_tmp (v := .int _ _) rfl rfl ?_
            rw [un_w]
            rw [inode_err (by assumption)]
            exact ⟨rfl, HC⟩
           ·try simp only [nm, ne_eq] at h11
            have he : (walkV Z cwd s true).2 = 0 := by first | assumption | simp_all
            obtain ⟨hw0, hw1⟩ := walk_inT hF he
            obtain ⟨x, hx, hxk, hxd, _⟩ := kind_dir ⟨hw0, hw1⟩
            refine x_skip <| then_n <| x_seq <| sr rfl <| mS rfl <| en <| x_block <| sr rfl <| Wp rfl <| st_seql rfl rfl <| aB rfl <| en <| x_cond rfl (fun h12 => ?_) (fun h12 => ?_)
            ·try simp only [nm, ne_eq] at h12
             first | exact absurd rfl h12 | exact absurd trivial h12 | (simp at h12; done)
            ·try simp only [nm, ne_eq] at h12
             refine sr rfl <| Wp rfl <| st_seql rfl rfl <| aB rfl <| en <| x_cond rfl (fun h13 => ?_) (fun h13 => ?_)
             ·try simp only [nm, ne_eq] at h13
              first | exact absurd rfl h13 | exact absurd trivial h13 | (simp at h13; done)
             ·try simp only [nm, ne_eq] at h13
              refine sr rfl <| Wp rfl <| st_seql rfl rfl <| aB rfl <| en <| x_cond rfl (fun h14 => ?_) (fun h14 => ?_)
              ·try simp only [nm, ne_eq] at h14
               first | exact absurd rfl h14 | exact absurd trivial h14 | (simp at h14; done)
              ·try simp only [nm, ne_eq] at h14
               refine sr rfl <| Wp rfl <| st_seql rfl rfl <| aB rfl <| en <| x_cond rfl (fun h15 => ?_) (fun h15 => ?_)
               ·try simp only [nm, ne_eq] at h15
                first | exact absurd rfl h15 | exact absurd trivial h15 | (simp at h15; done)
               ·try simp only [nm, ne_eq] at h15
                refine sr rfl <| Wp rfl <| st_seql rfl rfl <| aB rfl <| en <| x_cond rfl (fun h16 => ?_) (fun h16 => ?_)
                ·try simp only [nm, ne_eq] at h16
                 refine sr rfl <| Wp rfl <| st_loadA (vs := [_, _, _]) T.agg24 rfl (hb4.cells (n := 3) (vs := [_, _, _]) rfl) rfl <| mI rfl <| Wp rfl <| st_call (ags := [_, _, _]) rfl rfl T.ent34 rfl (RMay_spec hT hTl hF _ 2 (by simp)) ?_
                 rintro _ w77 ⟨rfl, c78⟩
                 replace HC := HC.then c78
                 replace hT := hT.tr0 c78
                 replace hb4 := hb4.tr0 c78
                 refine Wp rfl <| st_call (ags := [_]) rfl rfl T.ent17 rfl (Rtruth_spec _ _) ?_
                 rintro _ w79 ⟨rfl, c80⟩
                 replace HC := HC.then c80
                 replace hT := hT.tr0 c80
                 replace hb4 := hb4.tr0 c80
                 refine aI rfl <| en <| x_ret <| block_r <| then_r <| ret_tmp (v := .int _ _) rfl rfl ?_
                 rw [un_w]
                 rw [inode_ok he]
                 exact ⟨rfl, HC⟩
                ·try simp only [nm, ne_eq] at h16
                 first | exact absurd rfl h16 | exact absurd trivial h16 | (simp at h16; done)
          ·try simp only [nm, ne_eq] at h9
           refine x_region rfl <| Wp rfl <| st_seql rfl rfl <| aB rfl <| en <| x_cond rfl (fun h10 => ?_) (fun h10 => ?_)
           ·try simp only [nm, ne_eq] at h10
            obtain rfl : op = [45, 120] := h10
            refine x_skip <| block_n <| then_n <| sr rfl <| Wp rfl <| st_loadA (vs := [_, _, _]) T.agg24 rfl (hb4.cells (n := 3) (vs := [_, _, _]) rfl) rfl <| mI rfl <| mS rfl <| Wp rfl <| st_call (ags := [_, _, _, _]) rfl rfl T.ent32 rfl (RWalk_spec hT hTl hF cwd s true hp) ?_
            rintro _ w81 ⟨rfl, c82⟩
            replace HC := HC.then c82
            replace hT := hT.tr0 c82
            replace hb4 := hb4.tr0 c82
            refine mv (v := .tuple ⟨[_, _]⟩) rfl <| Wp rfl <| st_extract (vs := [_, _]) (v := .int _ _) rfl rfl <| Wp rfl <| st_extract (vs := [_, _]) (v := .int _ _) rfl rfl <| aI rfl <| aI rfl <| en <| x_seq <| sr rfl <| mI rfl <| Wp rfl <| st_neq rfl rfl <| en <| x_cond rfl (fun h11 => ?_) (fun h11 => ?_)
            ·try simp only [nm, ne_eq] at h11
             refine sr rfl <| aI rfl <| en <| x_ret <| then_r <| ret_tmp (v := .int _ _) rfl rfl ?_
             rw [un_x]
             rw [inode_err (by assumption)]
             exact ⟨rfl, HC⟩
            ·try simp only [nm, ne_eq] at h11
             have he : (walkV Z cwd s true).2 = 0 := by first | assumption | simp_all
             obtain ⟨hw0, hw1⟩ := walk_inT hF he
             obtain ⟨x, hx, hxk, hxd, _⟩ := kind_dir ⟨hw0, hw1⟩
             refine x_skip <| then_n <| x_seq <| sr rfl <| mS rfl <| en <| x_block <| sr rfl <| Wp rfl <| st_seql rfl rfl <| aB rfl <| en <| x_cond rfl (fun h12 => ?_) (fun h12 => ?_)
             ·try simp only [nm, ne_eq] at h12
              first | exact absurd rfl h12 | exact absurd trivial h12 | (simp at h12; done)
             ·try simp only [nm, ne_eq] at h12
              refine sr rfl <| Wp rfl <| st_seql rfl rfl <| aB rfl <| en <| x_cond rfl (fun h13 => ?_) (fun h13 => ?_)
              ·try simp only [nm, ne_eq] at h13
               first | exact absurd rfl h13 | exact absurd trivial h13 | (simp at h13; done)
              ·try simp only [nm, ne_eq] at h13
               refine sr rfl <| Wp rfl <| st_seql rfl rfl <| aB rfl <| en <| x_cond rfl (fun h14 => ?_) (fun h14 => ?_)
               ·try simp only [nm, ne_eq] at h14
                first | exact absurd rfl h14 | exact absurd trivial h14 | (simp at h14; done)
               ·try simp only [nm, ne_eq] at h14
                refine sr rfl <| Wp rfl <| st_seql rfl rfl <| aB rfl <| en <| x_cond rfl (fun h15 => ?_) (fun h15 => ?_)
                ·try simp only [nm, ne_eq] at h15
                 first | exact absurd rfl h15 | exact absurd trivial h15 | (simp at h15; done)
                ·try simp only [nm, ne_eq] at h15
                 refine sr rfl <| Wp rfl <| st_seql rfl rfl <| aB rfl <| en <| x_cond rfl (fun h16 => ?_) (fun h16 => ?_)
                 ·try simp only [nm, ne_eq] at h16
                  first | exact absurd rfl h16 | exact absurd trivial h16 | (simp at h16; done)
                 ·try simp only [nm, ne_eq] at h16
                  refine sr rfl <| Wp rfl <| st_seql rfl rfl <| aB rfl <| en <| x_cond rfl (fun h17 => ?_) (fun h17 => ?_)
                  ·try simp only [nm, ne_eq] at h17
                   refine sr rfl <| Wp rfl <| st_loadA (vs := [_, _, _]) T.agg24 rfl (hb4.cells (n := 3) (vs := [_, _, _]) rfl) rfl <| mI rfl <| Wp rfl <| st_call (ags := [_, _, _]) rfl rfl T.ent34 rfl (RMay_spec hT hTl hF _ 1 (by simp)) ?_
                   rintro _ w83 ⟨rfl, c84⟩
                   replace HC := HC.then c84
                   replace hT := hT.tr0 c84
                   replace hb4 := hb4.tr0 c84
                   refine Wp rfl <| st_call (ags := [_]) rfl rfl T.ent17 rfl (Rtruth_spec _ _) ?_
                   rintro _ w85 ⟨rfl, c86⟩
                   replace HC := HC.then c86
                   replace hT := hT.tr0 c86
                   replace hb4 := hb4.tr0 c86
                   refine aI rfl <| en <| x_ret <| block_r <| then_r <| ret_tmp (v := .int _ _) rfl rfl ?_
                   rw [un_x]
                   rw [inode_ok he]
                   exact ⟨rfl, HC⟩
                  ·try simp only [nm, ne_eq] at h17
                   first | exact absurd rfl h17 | exact absurd trivial h17 | (simp at h17; done)
           ·try simp only [nm, ne_eq] at h10
            refine sr rfl <| aI rfl <| en <| x_ret <| block_r <| then_r <| ret_tmp (v := .int _ _) rfl rfl ?_
            rw [un_no ⟨by assumption, by assumption, by assumption, by assumption, by assumption, by assumption, by assumption, by assumption, by assumption, by assumption, by assumption⟩]
            exact ⟨rfl, HC⟩

theorem bin_num {a op b : Bytes} (h0 : ¬ op = [61]) (h1 : ¬ op = [33, 61]) (ha : (numV a).2 = true) (hb : (numV b).2 = true) : binV a op b = truN (bmapV (Lib.compareInt (numV a).1 (numV b).1) op) := by unfold binV; rw [if_neg h0, if_neg h1, if_neg (by rw [ha]; decide), if_neg (by rw [hb]; decide)]
theorem bin_bad {a op b : Bytes} (h0 : ¬ op = [61]) (h1 : ¬ op = [33, 61]) (h : (numV a).2 = false ∨ (numV b).2 = false) : binV a op b = 2 := by
  unfold binV; rw [if_neg h0, if_neg h1]
  by_cases ha : (numV a).2 = false
  · rw [if_pos ha]
  · rw [if_neg ha, if_pos (h.resolve_left ha)]

theorem Rbinary_spec (a op b : Bytes) (w : World) (ha : a.length ≤ 9223372036854775807) (hb : b.length ≤ 9223372036854775807) (hop : op ∈ binL) : CallR Tryz.prog 19 #[S a, S op, S b] w fun v w' => v = .int .i64 (binV a op b) ∧ Chg [] w w' := by
 refine callR_of_wp (args := [_, _, _]) Tryz.func19 rfl (Nat.le_of_ble_eq_true rfl) ?_
 have HC : Chg [] w w := .refl _
 refine sr rfl <| aI rfl <| en <| x_seq <| sr rfl <| mS rfl <| Wp rfl <| st_seql rfl rfl <| en <| x_cond rfl (fun h0 => ?_) (fun h0 => ?_)
 ·try simp only [nm, ne_eq] at h0
  refine sr rfl <| mS rfl <| mS rfl <| Wp rfl <| st_seql rfl rfl <| Wp rfl <| st_call (ags := [_]) rfl rfl T.ent17 rfl (Rtruth_spec _ _) ?_
  rintro _ w1 ⟨rfl, c2⟩
  replace HC := HC.then c2
  refine aI rfl <| en <| x_ret <| then_r <| ret_tmp (v := .int _ _) rfl rfl <| ⟨congrArg (Value.int .i64) ?_, HC⟩
  unfold binV; rw [if_pos h0]
 ·try simp only [nm, ne_eq] at h0
  refine x_skip <| then_n <| x_seq <| sr rfl <| mS rfl <| Wp rfl <| st_seql rfl rfl <| en <| x_cond rfl (fun h1 => ?_) (fun h1 => ?_)
  ·try simp only [nm, ne_eq] at h1
   refine sr rfl <| mS rfl <| mS rfl <| Wp rfl <| st_sneq rfl rfl <| Wp rfl <| st_call (ags := [_]) rfl rfl T.ent17 rfl (Rtruth_spec _ _) ?_
   rintro _ w3 ⟨rfl, c4⟩
   replace HC := HC.then c4
   refine aI rfl <| en <| x_ret <| then_r <| ret_tmp (v := .int _ _) rfl rfl <| ⟨congrArg (Value.int .i64) ?_, HC⟩
   unfold binV; rw [if_neg h0, if_pos h1]
  ·try simp only [nm, ne_eq] at h1
   refine x_skip <| then_n <| sr rfl <| mS rfl <| Wp rfl <| st_call (ags := [_]) rfl rfl T.ent31 rfl (RNumber_spec a _ ha) ?_
   rintro _ w5 ⟨rfl, c6⟩
   replace HC := HC.then c6
   refine mv (v := .tuple ⟨[_, _]⟩) rfl <| Wp rfl <| st_extract (vs := [_, _]) (v := .int _ _) rfl rfl <| Wp rfl <| st_extract (vs := [_, _]) (v := .bool _) rfl rfl <| aI rfl <| aB rfl <| en <| sr rfl <| mS rfl <| Wp rfl <| st_call (ags := [_]) rfl rfl T.ent31 rfl (RNumber_spec b _ hb) ?_
   rintro _ w7 ⟨rfl, c8⟩
   replace HC := HC.then c8
   refine mv (v := .tuple ⟨[_, _]⟩) rfl <| Wp rfl <| st_extract (vs := [_, _]) (v := .int _ _) rfl rfl <| Wp rfl <| st_extract (vs := [_, _]) (v := .bool _) rfl rfl <| aI rfl <| aB rfl <| en <| x_seq <| sr rfl <| mB rfl <| Wp rfl <| st_not rfl <| mB rfl <| w_split (d := 35) rfl (fun g9 => ?_) (fun g9 => ?_)
   ·try simp only [nm, ne_eq] at g9
    refine w_no 2 35 false <| w_no 2 35 false <| pT rfl rfl <| en <| x_cond (t := true) rfl (fun h2 => ?_) (fun h2 => ?_)
    rotate_left
    · exact absurd h2 (by decide)
    refine sr rfl <| aI rfl <| en <| x_ret <| then_r <| ret_tmp (v := .int _ _) rfl rfl ?_
    rw [bin_bad h0 h1 (by first | exact .inl (by assumption) | exact .inr (by assumption) | (left; simp_all; done) | (right; simp_all; done))]
    exact ⟨rfl, HC⟩
   ·try simp only [nm, ne_eq] at g9
    refine w_yes 2 35 false <| st_move (v := .bool _) rfl <| w_yes 2 35 false <| st_not rfl <| pF rfl rfl <| en <| x_cond rfl (fun h2 => ?_) (fun h2 => ?_)
    ·try simp only [nm, ne_eq] at h2
     refine sr rfl <| aI rfl <| en <| x_ret <| then_r <| ret_tmp (v := .int _ _) rfl rfl ?_
     rw [bin_bad h0 h1 (by first | exact .inl (by assumption) | exact .inr (by assumption) | (left; simp_all; done) | (right; simp_all; done))]
     exact ⟨rfl, HC⟩
    ·try simp only [nm, ne_eq] at h2
     have hna : (numV a).2 = true := by first | assumption | simp_all
     have hnb : (numV b).2 = true := by first | assumption | simp_all
     refine x_skip <| then_n <| x_seq <| sr rfl <| mS rfl <| en <| x_block <| sr rfl <| Wp rfl <| st_seql rfl rfl <| aB rfl <| en <| x_cond rfl (fun h3 => ?_) (fun h3 => ?_)
     ·try simp only [nm, ne_eq] at h3
      obtain rfl : op = [45, 101, 113] := h3
      refine sr rfl <| mI rfl <| mI rfl <| Wp rfl <| st_eql rfl rfl <| Wp rfl <| st_call (ags := [_]) rfl rfl T.ent17 rfl (Rtruth_spec _ _) ?_
      rintro _ w10 ⟨rfl, c11⟩
      replace HC := HC.then c11
      refine aI rfl <| en <| x_ret <| block_r <| then_r <| ret_tmp (v := .int _ _) rfl rfl ?_
      rw [bin_num (by decide) (by decide) hna hnb, cmp_eq2]
      exact ⟨rfl, HC⟩
     ·try simp only [nm, ne_eq] at h3
      refine sr rfl <| Wp rfl <| st_seql rfl rfl <| aB rfl <| en <| x_cond rfl (fun h4 => ?_) (fun h4 => ?_)
      ·try simp only [nm, ne_eq] at h4
       obtain rfl : op = [45, 110, 101] := h4
       refine sr rfl <| mI rfl <| mI rfl <| Wp rfl <| st_neq rfl rfl <| Wp rfl <| st_call (ags := [_]) rfl rfl T.ent17 rfl (Rtruth_spec _ _) ?_
       rintro _ w12 ⟨rfl, c13⟩
       replace HC := HC.then c13
       refine aI rfl <| en <| x_ret <| block_r <| then_r <| ret_tmp (v := .int _ _) rfl rfl ?_
       rw [bin_num (by decide) (by decide) hna hnb, cmp_ne2]
       exact ⟨rfl, HC⟩
      ·try simp only [nm, ne_eq] at h4
       refine sr rfl <| Wp rfl <| st_seql rfl rfl <| aB rfl <| en <| x_cond rfl (fun h5 => ?_) (fun h5 => ?_)
       ·try simp only [nm, ne_eq] at h5
        obtain rfl : op = [45, 108, 116] := h5
        refine sr rfl <| mI rfl <| mI rfl <| Wp rfl <| st_lss rfl rfl <| Wp rfl <| st_call (ags := [_]) rfl rfl T.ent17 rfl (Rtruth_spec _ _) ?_
        rintro _ w14 ⟨rfl, c15⟩
        replace HC := HC.then c15
        refine aI rfl <| en <| x_ret <| block_r <| then_r <| ret_tmp (v := .int _ _) rfl rfl ?_
        rw [bin_num (by decide) (by decide) hna hnb, cmp_lt2]
        exact ⟨rfl, HC⟩
       ·try simp only [nm, ne_eq] at h5
        refine sr rfl <| Wp rfl <| st_seql rfl rfl <| aB rfl <| en <| x_cond rfl (fun h6 => ?_) (fun h6 => ?_)
        ·try simp only [nm, ne_eq] at h6
         obtain rfl : op = [45, 108, 101] := h6
         refine sr rfl <| mI rfl <| mI rfl <| Wp rfl <| st_leq rfl rfl <| Wp rfl <| st_call (ags := [_]) rfl rfl T.ent17 rfl (Rtruth_spec _ _) ?_
         rintro _ w16 ⟨rfl, c17⟩
         replace HC := HC.then c17
         refine aI rfl <| en <| x_ret <| block_r <| then_r <| ret_tmp (v := .int _ _) rfl rfl ?_
         rw [bin_num (by decide) (by decide) hna hnb, cmp_le2]
         exact ⟨rfl, HC⟩
        ·try simp only [nm, ne_eq] at h6
         refine sr rfl <| Wp rfl <| st_seql rfl rfl <| aB rfl <| en <| x_cond rfl (fun h7 => ?_) (fun h7 => ?_)
         ·try simp only [nm, ne_eq] at h7
          obtain rfl : op = [45, 103, 116] := h7
          refine sr rfl <| mI rfl <| mI rfl <| Wp rfl <| st_gtr rfl rfl <| Wp rfl <| st_call (ags := [_]) rfl rfl T.ent17 rfl (Rtruth_spec _ _) ?_
          rintro _ w18 ⟨rfl, c19⟩
          replace HC := HC.then c19
          refine aI rfl <| en <| x_ret <| block_r <| then_r <| ret_tmp (v := .int _ _) rfl rfl ?_
          rw [bin_num (by decide) (by decide) hna hnb, cmp_gt2]
          exact ⟨rfl, HC⟩
         ·try simp only [nm, ne_eq] at h7
          refine x_skip <| block_n <| then_n <| sr rfl <| mI rfl <| mI rfl <| Wp rfl <| st_geq rfl rfl <| Wp rfl <| st_call (ags := [_]) rfl rfl T.ent17 rfl (Rtruth_spec _ _) ?_
          rintro _ w20 ⟨rfl, c21⟩
          replace HC := HC.then c21
          refine aI rfl <| en <| x_ret <| ret_tmp (v := .int _ _) rfl rfl ?_
          have hge : op = [45, 103, 101] := by unfold binL at hop; simp only [List.mem_cons, List.mem_nil_iff, or_false] at hop; simp_all
          subst hge
          rw [bin_num (by decide) (by decide) hna hnb, cmp_ge2]
          exact ⟨rfl, HC⟩

end Go.Proofs.YtpelmhoocepenaaGreatDoor.K
