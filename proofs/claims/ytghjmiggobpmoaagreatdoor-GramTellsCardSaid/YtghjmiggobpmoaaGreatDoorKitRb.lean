import Derived.Test.YtghjmiggobpmoaaGreatDoorTok
import Derived.Test.YtghjmiggobpmoaaGreatDoorGs
import Derived.Test.YtghjmiggobpmoaaGreatDoorKitL
set_option linter.unusedVariables false
set_option linter.unusedSimpArgs false
set_option autoImplicit false
set_option maxRecDepth 20000
namespace Go.Proofs.YtghjmiggobpmoaaGreatDoor.K
open Go Go.Proofs Go.RowKit

def SzT (most : Int) (w w' : World) (v : Value) : Prop := ∃ k : Int, v = .int .i64 k ∧ -1 ≤ k ∧ (k ≤ 1 ∨ k ≤ most) ∧ Chg [] w w'

set_option maxHeartbeats 1600000 in
theorem rsize_step {a : Cm} {va : List Value} {D1 : Nat → Prop} (w : World) (most deep : Int) (ha : cmE.R w D1 a va) (hd0 : 0 ≤ deep) (hd1 : deep ≤ 201) (hm0 : -deep ≤ most) (hm1 : most ≤ 500) (hrec : ∀ x : Cm, SizeOf.sizeOf x < SizeOf.sizeOf a → ∀ (vx : List Value) (W : World) (mo de : Int) {D1 : Nat → Prop}, cmE.R W D1 x vx → 0 ≤ de → de ≤ 201 → -de ≤ mo → mo ≤ 500 → CallR Tryz.prog 10 #[.agg ⟨vx⟩, .int .i64 mo, .int .i64 de] W fun v w' => SzT mo W w' v) : CallR Tryz.prog 10 #[.agg ⟨va⟩, .int .i64 most, .int .i64 deep] w fun v w' => SzT most w w' v := by
 obtain ⟨A1A, n1A, A2A, n2A, A3A, n3A, A4A, n4A, A5A, n5A, rfl, hAA, k1A, k2A, k3A, k4A, k5A⟩ := cm_open ha
 have hk := hAA.kids.mono (D' := (fun k => k < w.heap.size)) (fun k hk _ => hk)
 have hi := hAA.items.mono (D' := (fun k => k < w.heap.size)) (fun k hk _ => hk)
 have lk4 := Nat.le_trans k4A.1 k4A.2
 have lk5 := Nat.le_trans k5A.1 k5A.2
 refine callR_of_wp (args := [_, _, _]) Tryz.func10 rfl (Nat.le_of_ble_eq_true rfl) ?_
 have HC : Chg [] w w := .refl _
 refine sr rfl <| Wp rfl <| st_box (v := .agg ⟨[.int _ _, S _, .bool _, .bool _, .slice _ _ _, .slice _ _ _, .slice _ _ _, .slice _ _ _, .slice _ _ _]⟩) (vs := [_, _, _, _, _, _, _, _, _]) rfl rfl ?_
 intro b3 w1 e2 c3 hb4
 have ge_b3 := gB e2 HC.size
 replace HC := HC.then c3
 replace hk := hk.tr0 c3
 replace hi := hi.tr0 c3
 clear e2
 refine aI rfl <| en <| x_seq <| sr rfl <| mI rfl <| Wp rfl <| st_gtr rfl rfl <| mB rfl <| w_split (d := 15) rfl (fun g5 => ?_) (fun g5 => ?_)
 ·try simp only [nm, ne_eq] at g5
  iterate 12 refine w_no 2 15 false ?_
  refine pT rfl rfl <| en <| x_cond (t := true) rfl (fun h0 => ?_) (fun h0 => ?_)
  rotate_left
  · exact absurd h0 (by decide)
  refine sr rfl <| aI rfl <| en <| x_ret <| then_r <| ret_tmp (v := .int _ _) rfl rfl ?_
  first | exact ⟨_, rfl, by omega, by omega, HC⟩
 ·try simp only [nm, ne_eq] at g5
  refine w_yes 2 15 false <| st_fieldAddr T.fld30_5 rfl <| w_yes 2 15 false <| st_load1 (v := .slice _ _ _) T.one23 rfl (hb4.cell rfl) <| w_yes 2 15 false <| st_len (ct := #[23]) (by rw [show ((#[23] : Array TypeId)[0]?).bind Tryz.prog.underlying = some (.slice 9) from T.u23]; rfl) rfl <| w_yes 2 15 false <| st_fieldAddr T.fld30_4 rfl <| w_yes 2 15 false <| st_load1 (v := .slice _ _ _) T.one25 rfl (hb4.cell rfl) <| w_yes 2 15 false <| st_len (ct := #[25]) (by rw [show ((#[25] : Array TypeId)[0]?).bind Tryz.prog.underlying = some (.slice 56) from T.u25]; rfl) rfl <| w_yes 2 15 false <| st_add rfl rfl <| w_yes 2 15 false <| st_fieldAddr T.fld30_6 rfl <| w_yes 2 15 false <| st_load1 (v := .slice _ _ _) T.one26 rfl (hb4.cell rfl) <| w_yes 2 15 false <| st_len (ct := #[26]) (by rw [show ((#[26] : Array TypeId)[0]?).bind Tryz.prog.underlying = some (.slice 40) from T.u26]; rfl) rfl <| w_yes 2 15 false <| st_add rfl rfl <| w_yes 2 15 false <| st_gtr rfl rfl <| pF rfl rfl <| en <| x_cond rfl (fun h0 => ?_) (fun h0 => ?_)
  ·try simp only [nm, ne_eq] at h0
   refine sr rfl <| aI rfl <| en <| x_ret <| then_r <| ret_tmp (v := .int _ _) rfl rfl ?_
   first | exact ⟨_, rfl, by omega, by omega, HC⟩
  ·try simp only [nm, ne_eq] at h0
   refine x_skip <| then_n <| sr rfl <| aI rfl <| en <| x_seq <| sr rfl <| aI rfl <| en <| x_block <| x_loop (ι := Nat × Int) [6, 7, 8, 9, 29, 30, 31, 32, 33, 34, 35, 36, 37, 38, 39, 40, 41, 42, 43, 44, 45, 46, 47, 48, 49, 50, 51, 52, 53, 54, 55, 56, 57, 58] (fun ⟨i, n⟩ => [(8, .int .i64 (i : Int)), (7, .int .i64 n)]) (fun ⟨i, n⟩ W => (i ≤ a.kids.length ∧ 1 ≤ n ∧ (n ≤ 1 ∨ n ≤ most)) ∧ (Chg [] w W) ∧ (Sl cmE W (fun k => k < w.heap.size) A4A a.kids) ∧ (Sl itE W (fun k => k < w.heap.size) A5A a.items) ∧ (Blk W b3 (cmC a A1A n1A A2A n2A A3A n3A A4A n4A A5A n5A) 30)) (fun ⟨i, n⟩ => a.kids.length - i) (0, 1) ?_ ?_ ?_
   · exact ⟨rfl, rfl, trivial⟩
   ·refine ⟨?_, HC, hk, hi, hb4⟩
    exact ⟨Nat.zero_le _, by omega, by omega⟩
   intro ⟨i, n⟩ G7 w6 ⟨⟨hil, hn1, hn2⟩, HC, hk, hi, hb4⟩
   change wp _ _ _ _ _ (upds (over _ _ G7) [(8, .int .i64 (i : Int)), (7, .int .i64 n)]) _ _
   refine x_seq <| sr rfl <| mI rfl <| fa T.fld30_7 rfl <| lL T.one27 rfl (hb4.cell rfl) <| Wp rfl <| st_len (ct := #[27]) (by rw [show ((#[27] : Array TypeId)[0]?).bind Tryz.prog.underlying = some (.slice 30) from T.u27]; rfl) rfl <| Wp rfl <| st_lss rfl rfl <| en <| x_cond rfl (fun h1 => ?_) (fun h1 => ?_)
   ·try simp only [nm, ne_eq] at h1
    refine x_skip <| then_n <| x_seq <| x_block <| sr rfl <| fa T.fld30_7 rfl <| lL T.one27 rfl (hb4.cell rfl) <| mI rfl ?_
    obtain ⟨x8, hx9⟩ : ∃ zz, a.kids[i]? = some zz := ⟨_, List.getElem?_eq_getElem (by omega)⟩
    obtain ⟨lb14, _, vs13, hA10, hR12, hC11⟩ := hk.at hx9
    have hvU := hR12
    obtain ⟨A1U, n1U, A2U, n2U, A3U, n3U, A4U, n4U, A5U, n5U, rfl, hAU, k1U, k2U, k3U, k4U, k5U⟩ := cm_open hR12
    refine Wp rfl <| st_indexAddr T.u27 T.size30 (congrArg (fun z => Value.slice z _ _) hA10) rfl (by omega) (by omega) <| Wp rfl <| st_loadA (vs := [_, _, _, _, _, _, _, _, _]) T.agg30 rfl hC11 rfl <| mI rfl <| mI rfl <| Wp rfl <| st_subn rfl rfl (by constructor <;> omega) <| mI rfl <| Wp rfl <| st_addn rfl rfl (by constructor <;> omega) <| Wp rfl <| st_call (ags := [_, _, _]) rfl rfl T.ent10 rfl (hrec _ (kid_size (List.mem_of_getElem? hx9)) _ _ (most - n) (deep + 1) hvU (by omega) (by omega) (by omega) (by omega)) ?_
    rintro _ w15 ⟨k, rfl, hk1, hk2, c16⟩
    replace HC := HC.then c16
    replace hk := hk.tr0 c16
    replace hi := hi.tr0 c16
    replace hb4 := hb4.tr0 c16
    refine aI rfl <| en <| x_seq <| sr rfl <| mI rfl <| Wp rfl <| st_lss rfl rfl <| mB rfl <| w_split (d := 49) rfl (fun g17 => ?_) (fun g17 => ?_)
    ·try simp only [nm, ne_eq] at g17
     iterate 5 refine w_no 2 49 false ?_
     refine pT rfl rfl <| en <| x_cond (t := true) rfl (fun h2 => ?_) (fun h2 => ?_)
     rotate_left
     · exact absurd h2 (by decide)
     refine sr rfl <| aI rfl <| en <| x_ret <| then_r <| block_r <| then_r <| then_r <| block_r <| then_r <| ret_tmp (v := .int _ _) rfl rfl ?_
     first | exact ⟨_, rfl, by omega, by omega, HC⟩
    ·try simp only [nm, ne_eq] at g17
     refine w_yes 2 49 false <| st_move (v := .int _ _) rfl <| w_yes 2 49 false <| st_move (v := .int _ _) rfl <| w_yes 2 49 false <| st_addn rfl rfl (by constructor <;> omega) <| w_yes 2 49 false <| st_move (v := .int _ _) rfl <| w_yes 2 49 false <| st_gtr rfl rfl <| pF rfl rfl <| en <| x_cond rfl (fun h2 => ?_) (fun h2 => ?_)
     ·try simp only [nm, ne_eq] at h2
      refine sr rfl <| aI rfl <| en <| x_ret <| then_r <| block_r <| then_r <| then_r <| block_r <| then_r <| ret_tmp (v := .int _ _) rfl rfl ?_
      first | exact ⟨_, rfl, by omega, by omega, HC⟩
     ·try simp only [nm, ne_eq] at h2
      refine x_skip <| then_n <| x_region rfl <| mI rfl <| mI rfl <| Wp rfl <| st_addn rfl rfl (by constructor <;> omega) <| aI rfl <| wops_nil <| block_n <| then_n <| x_region rfl <| mI rfl <| Wp rfl <| st_addn rfl rfl (by constructor <;> omega) <| aI rfl <| en <| ⟨(i + 1, n + k), ?_, ?_, rfl, ⟨rfl, rfl, trivial⟩, ?_⟩
      ·refine ⟨?_, HC, hk, hi, hb4⟩
       exact ⟨by omega, by omega, by omega⟩
      ·show a.kids.length - (i + 1) < a.kids.length - i; omega
      exact q9
   ·try simp only [nm, ne_eq] at h1
    refine x_exit <| then_x <| then_x <| block_x <| then_n <| x_seq <| sr rfl <| aI rfl <| en <| x_block <| x_loop (ι := Nat × Int) [6, 7, 10, 11, 12, 59, 60, 61, 62, 63, 64, 65, 66, 67, 68, 69, 70, 71, 72, 73, 74, 75, 76, 77, 78, 79, 80, 81, 82, 83, 84, 85, 86, 87, 88, 89, 90, 91, 92, 93, 94, 95, 96, 97, 98, 99, 100, 101, 102, 103] (fun ⟨i, n⟩ => [(10, .int .i64 (i : Int)), (7, .int .i64 n)]) (fun ⟨i, n⟩ W => (i ≤ a.items.length ∧ 1 ≤ n ∧ (n ≤ 1 ∨ n ≤ most)) ∧ (Chg [] w W) ∧ (Sl cmE W (fun k => k < w.heap.size) A4A a.kids) ∧ (Sl itE W (fun k => k < w.heap.size) A5A a.items) ∧ (Blk W b3 (cmC a A1A n1A A2A n2A A3A n3A A4A n4A A5A n5A) 30)) (fun ⟨i, n⟩ => a.items.length - i) (0, n) ?_ ?_ ?_
    · exact ⟨rfl, rfl, trivial⟩
    ·refine ⟨?_, HC, hk, hi, hb4⟩
     exact ⟨Nat.zero_le _, by omega, by omega⟩
    intro ⟨i, n⟩ G19 w18 ⟨⟨hil, hn1, hn2⟩, HC, hk, hi, hb4⟩
    change wp _ _ _ _ _ (upds (over _ _ G19) [(10, .int .i64 (i : Int)), (7, .int .i64 n)]) _ _
    refine x_seq <| sr rfl <| mI rfl <| fa T.fld30_8 rfl <| lL T.one28 rfl (hb4.cell rfl) <| Wp rfl <| st_len (ct := #[28]) (by rw [show ((#[28] : Array TypeId)[0]?).bind Tryz.prog.underlying = some (.slice 59) from T.u28]; rfl) rfl <| Wp rfl <| st_lss rfl rfl <| en <| x_cond rfl (fun h3 => ?_) (fun h3 => ?_)
    ·try simp only [nm, ne_eq] at h3
     refine x_skip <| then_n <| x_seq <| x_block <| x_seq ?_
     obtain ⟨y, hy⟩ : ∃ zz, a.items[i]? = some zz := ⟨_, List.getElem?_eq_getElem (by omega)⟩
     refine x_region rfl <| aI rfl <| en <| x_block <| x_loop (ι := Nat × Int) [6, 7, 11, 12, 66, 67, 68, 69, 70, 71, 72, 73, 74, 75, 76, 77, 78, 79, 80, 81, 82, 83, 84, 85, 86, 87, 88, 89, 90, 91, 92, 93, 94, 95, 96, 97, 98, 99, 100, 101, 102, 103] (fun ⟨m, n⟩ => [(11, .int .i64 (m : Int)), (7, .int .i64 n)]) (fun ⟨m, n⟩ W => (m ≤ y.2.length ∧ 1 ≤ n ∧ (n ≤ 1 ∨ n ≤ most)) ∧ (Chg [] w W) ∧ (Sl cmE W (fun k => k < w.heap.size) A4A a.kids) ∧ (Sl itE W (fun k => k < w.heap.size) A5A a.items) ∧ (Blk W b3 (cmC a A1A n1A A2A n2A A3A n3A A4A n4A A5A n5A) 30)) (fun ⟨m, n⟩ => y.2.length - m) (0, n) ?_ ?_ ?_
     · exact ⟨rfl, rfl, trivial⟩
     ·refine ⟨?_, HC, hk, hi, hb4⟩
      exact ⟨Nat.zero_le _, by omega, by omega⟩
     intro ⟨m, n⟩ G21 w20 ⟨⟨hml, hn1, hn2⟩, HC, hk, hi, hb4⟩
     change wp _ _ _ _ _ (upds (over _ _ G21) [(11, .int .i64 (m : Int)), (7, .int .i64 n)]) _ _
     refine x_seq <| sr rfl <| mI rfl <| fa T.fld30_8 rfl <| lL T.one28 rfl (hb4.cell rfl) <| mI rfl ?_
     obtain ⟨lb26, _, vs25, hA22, hR24, hC23⟩ := hi.at (i := i) (x := y) (hy)
     obtain ⟨_, _, rfl, ⟨I1U, m1U, rfl, k1U, k2U, hI1U⟩, ⟨I2U, m2U, rfl, k3U, k4U, hI2U⟩⟩ := hR24
     refine Wp rfl <| st_indexAddr T.u28 T.size59 (congrArg (fun z => Value.slice z _ _) hA22) rfl (by omega) (by omega) <| fa T.fld59_1 rfl <| lL T.one27 rfl (hC23.at (j := 1) rfl) <| Wp rfl <| st_len (ct := #[27]) (by rw [show ((#[27] : Array TypeId)[0]?).bind Tryz.prog.underlying = some (.slice 30) from T.u27]; rfl) rfl <| Wp rfl <| st_lss rfl rfl <| en <| x_cond rfl (fun h4 => ?_) (fun h4 => ?_)
     ·try simp only [nm, ne_eq] at h4
      refine x_skip <| then_n <| x_seq <| x_block <| sr rfl <| fa T.fld30_8 rfl <| lL T.one28 rfl (hb4.cell rfl) <| mI rfl ?_
      obtain ⟨lb31, _, vs30, hA27, hR29, hC28⟩ := hi.at (i := i) (x := y) (hy)
      obtain ⟨_, _, rfl, ⟨I1U, m1U, rfl, k1U, k2U, hI1U⟩, ⟨I2U, m2U, rfl, k3U, k4U, hI2U⟩⟩ := hR29
      refine Wp rfl <| st_indexAddr T.u28 T.size59 (congrArg (fun z => Value.slice z _ _) hA27) rfl (by omega) (by omega) <| fa T.fld59_1 rfl <| lL T.one27 rfl (hC28.at (j := 1) rfl) <| mI rfl ?_
      obtain ⟨x32, hx33⟩ : ∃ zz, y.2[m]? = some zz := ⟨_, List.getElem?_eq_getElem (by omega)⟩
      obtain ⟨lb38, _, vs37, hA34, hR36, hC35⟩ := hI2U.at hx33
      have hvV := hR36
      obtain ⟨A1V, n1V, A2V, n2V, A3V, n3V, A4V, n4V, A5V, n5V, rfl, hAV, k1V, k2V, k3V, k4V, k5V⟩ := cm_open hR36
      refine Wp rfl <| st_indexAddr T.u27 T.size30 (congrArg (fun z => Value.slice z _ _) hA34) rfl (by omega) (by omega) <| Wp rfl <| st_loadA (vs := [_, _, _, _, _, _, _, _, _]) T.agg30 rfl hC35 rfl <| mI rfl <| mI rfl <| Wp rfl <| st_subn rfl rfl (by constructor <;> omega) <| mI rfl <| Wp rfl <| st_addn rfl rfl (by constructor <;> omega) <| Wp rfl <| st_call (ags := [_, _, _]) rfl rfl T.ent10 rfl (hrec _ (item_size (List.mem_of_getElem? hy) (List.mem_of_getElem? hx33)) _ _ (most - n) (deep + 1) hvV (by omega) (by omega) (by omega) (by omega)) ?_
      rintro _ w39 ⟨k, rfl, hk1, hk2, c40⟩
      replace HC := HC.then c40
      replace hk := hk.tr0 c40
      replace hi := hi.tr0 c40
      replace hb4 := hb4.tr0 c40
      refine aI rfl <| en <| x_seq <| sr rfl <| mI rfl <| Wp rfl <| st_lss rfl rfl <| mB rfl <| w_split (d := 94) rfl (fun g41 => ?_) (fun g41 => ?_)
      ·try simp only [nm, ne_eq] at g41
       iterate 5 refine w_no 2 94 false ?_
       refine pT rfl rfl <| en <| x_cond (t := true) rfl (fun h5 => ?_) (fun h5 => ?_)
       rotate_left
       · exact absurd h5 (by decide)
       refine sr rfl <| aI rfl <| en <| x_ret <| then_r <| block_r <| then_r <| then_r <| block_r <| block_r <| then_r <| then_r <| block_r <| then_r <| ret_tmp (v := .int _ _) rfl rfl ?_
       first | exact ⟨_, rfl, by omega, by omega, HC⟩
      ·try simp only [nm, ne_eq] at g41
       refine w_yes 2 94 false <| st_move (v := .int _ _) rfl <| w_yes 2 94 false <| st_move (v := .int _ _) rfl <| w_yes 2 94 false <| st_addn rfl rfl (by constructor <;> omega) <| w_yes 2 94 false <| st_move (v := .int _ _) rfl <| w_yes 2 94 false <| st_gtr rfl rfl <| pF rfl rfl <| en <| x_cond rfl (fun h5 => ?_) (fun h5 => ?_)
       ·try simp only [nm, ne_eq] at h5
        refine sr rfl <| aI rfl <| en <| x_ret <| then_r <| block_r <| then_r <| then_r <| block_r <| block_r <| then_r <| then_r <| block_r <| then_r <| ret_tmp (v := .int _ _) rfl rfl ?_
        first | exact ⟨_, rfl, by omega, by omega, HC⟩
       ·try simp only [nm, ne_eq] at h5
        refine x_skip <| then_n <| x_region rfl <| mI rfl <| mI rfl <| Wp rfl <| st_addn rfl rfl (by constructor <;> omega) <| aI rfl <| wops_nil <| block_n <| then_n <| x_region rfl <| mI rfl <| Wp rfl <| st_addn rfl rfl (by constructor <;> omega) <| aI rfl <| en <| ⟨(m + 1, n + k), ?_, ?_, rfl, ⟨rfl, rfl, trivial⟩, ?_⟩
        ·refine ⟨?_, HC, hk, hi, hb4⟩
         exact ⟨by omega, by omega, by omega⟩
        ·show y.2.length - (m + 1) < y.2.length - m; omega
        exact q9
     ·try simp only [nm, ne_eq] at h4
      refine x_exit <| then_x <| then_x <| block_x <| block_n <| then_n <| x_region rfl <| mI rfl <| Wp rfl <| st_addn rfl rfl (by constructor <;> omega) <| aI rfl <| en <| ⟨(i + 1, n), ?_, ?_, rfl, ⟨rfl, rfl, trivial⟩, ?_⟩
      ·refine ⟨?_, HC, hk, hi, hb4⟩
       exact ⟨by omega, by omega, by omega⟩
      ·show a.items.length - (i + 1) < a.items.length - i; omega
      exact q9
    ·try simp only [nm, ne_eq] at h3
     refine x_exit <| then_x <| then_x <| block_x <| then_n <| sr rfl <| mI rfl <| aI rfl <| en <| x_ret <| ret_tmp (v := .int _ _) rfl rfl ?_
     first | exact ⟨_, rfl, by omega, by omega, HC⟩

theorem rsize_le : ∀ (n : Nat) (a : Cm), SizeOf.sizeOf a ≤ n → ∀ (va : List Value) (w : World) (mo de : Int) {D1 : Nat → Prop}, cmE.R w D1 a va → 0 ≤ de → de ≤ 201 → -de ≤ mo → mo ≤ 500 → CallR Tryz.prog 10 #[.agg ⟨va⟩, .int .i64 mo, .int .i64 de] w fun v w' => SzT mo w w' v
  | 0, a, hn, va, w, mo, de, _, ha, h1, h2, h3, h4 => rsize_step w mo de ha h1 h2 h3 h4 fun x hx => absurd hx (by omega)
  | n + 1, a, hn, va, w, mo, de, _, ha, h1, h2, h3, h4 => rsize_step w mo de ha h1 h2 h3 h4 fun x hx vx W m' d' {_} q1 q2 q3 q4 q5 => rsize_le n x (by omega) vx W m' d' q1 q2 q3 q4 q5
theorem rsize_spec {a : Cm} {va : List Value} {D1 : Nat → Prop} (w : World) (ha : cmE.R w D1 a va) : CallR Tryz.prog 10 #[.agg ⟨va⟩, .int .i64 500, .int .i64 0] w fun v w' => SzT 500 w w' v := rsize_le _ a (Nat.le_refl _) va w 500 0 ha (by omega) (by omega) (by omega) (by omega)

end Go.Proofs.YtghjmiggobpmoaaGreatDoor.K
set_option linter.unusedVariables false
set_option linter.unusedSimpArgs false
set_option autoImplicit false
set_option maxRecDepth 20000
namespace Go.Proofs.YtghjmiggobpmoaaGreatDoor.K
open Go Go.Proofs Go.RowKit

theorem exB (p : Prop) : ∃ t : Bool, (t = true ↔ p) := Classical.byCases (fun h : p => ⟨true, by simp [h]⟩) (fun h : ¬ p => ⟨false, by simp [h]⟩)
theorem GramTells_spec {a b : Cm} {va vb : List Value} {D1 D2 : Nat → Prop} (w : World) (ha : cmE.R w D1 a va) (hb : cmE.R w D2 b vb) (hmx : MaxT w) (ht : Tab w) : CallR Tryz.prog 4 #[.agg ⟨va⟩, .agg ⟨vb⟩] w fun v w' => v = .bool true ∧ Chg [] w w' := by
 obtain ⟨A1A, n1A, A2A, n2A, A3A, n3A, A4A, n4A, A5A, n5A, rfl, hAA, k1A, k2A, k3A, k4A, k5A⟩ := cm_open ha
 obtain ⟨A1B, n1B, A2B, n2B, A3B, n3B, A4B, n4B, A5B, n5B, rfl, hAB, k1B, k2B, k3B, k4B, k5B⟩ := cm_open hb
 obtain ⟨tt, hab⟩ : ∃ t : Bool, (t = true ↔ a = b) := exB _
 have ht1 := ht.lt
 have hm1 := hmx.lt
 refine callR_of_wp (args := [_, _]) Tryz.func4 rfl (Nat.le_of_ble_eq_true rfl) ?_
 have HC : Chg [] w w := .refl _
 refine sr rfl <| Wp rfl <| st_box (v := .agg ⟨[.int _ _, S _, .bool _, .bool _, .slice _ _ _, .slice _ _ _, .slice _ _ _, .slice _ _ _, .slice _ _ _]⟩) (vs := [_, _, _, _, _, _, _, _, _]) rfl rfl ?_
 intro b2 w1 e2 c3 hb4
 have ge_b2 := gB e2 HC.size
 replace HC := HC.then c3
 replace ht := ht.tr0 c3
 replace hmx := hmx.tr0 c3
 replace ha := Enc.chg ha c3 q8
 replace hb := Enc.chg hb c3 q8
 clear e2
 refine Wp rfl <| st_box (v := .agg ⟨[.int _ _, S _, .bool _, .bool _, .slice _ _ _, .slice _ _ _, .slice _ _ _, .slice _ _ _, .slice _ _ _]⟩) (vs := [_, _, _, _, _, _, _, _, _]) rfl rfl ?_
 intro b3 w5 e6 c7 hb8
 have ge_b3 := gB e6 HC.size
 have ne_b2_b3 := nF e6 hb4.ne_size
 replace HC := HC.then c7
 replace ht := ht.tr0 c7
 replace hmx := hmx.tr0 c7
 replace ha := Enc.chg ha c7 q8
 replace hb := Enc.chg hb c7 q8
 replace hb4 := hb4.tr0 c7
 clear e6
 refine aB rfl <| en <| x_seq <| sr rfl <| Wp rfl <| st_loadA (vs := [_, _, _, _, _, _, _, _, _]) T.agg30 rfl (hb4.cells (n := 9) (vs := [_, _, _, _, _, _, _, _, _]) rfl) rfl <| Wp rfl <| st_call (ags := [_, _, _]) rfl rfl T.ent10 rfl (rsize_spec _ ha) ?_
 rintro _ w9 ⟨k1, rfl, hk1, hk2, c10⟩
 replace HC := HC.then c10
 replace ht := ht.tr0 c10
 replace hmx := hmx.tr0 c10
 replace ha := Enc.chg ha c10 q8
 replace hb := Enc.chg hb c10 q8
 replace hb4 := hb4.tr0 c10
 replace hb8 := hb8.tr0 c10
 refine Wp rfl <| st_lss rfl rfl <| mB rfl <| w_split (d := 8) rfl (fun g11 => ?_) (fun g11 => ?_)
 ·try simp only [nm, ne_eq] at g11
  iterate 3 refine w_no 3 8 false ?_
  refine pT rfl rfl <| en <| x_cond (t := true) rfl (fun h0 => ?_) (fun h0 => ?_)
  rotate_left
  · exact absurd h0 (by decide)
  refine sr rfl <| Wp rfl <| st_call (ags := []) rfl rfl T.ent6 rfl (awake17_spec _ hmx ht) ?_
  rintro _ w12 ⟨rfl, c13⟩
  replace HC := HC.then c13
  refine aB rfl <| en <| x_ret <| then_r <| ret_tmp (v := .bool _) rfl rfl ?_
  exact ⟨rfl, HC⟩
 ·try simp only [nm, ne_eq] at g11
  refine w_yes 3 8 false <| st_loadA (vs := [_, _, _, _, _, _, _, _, _]) T.agg30 rfl (hb8.cells (n := 9) (vs := [_, _, _, _, _, _, _, _, _]) rfl) rfl <| w_yes 3 8 false <| st_call (ags := [_, _, _]) rfl rfl T.ent10 rfl (rsize_spec _ hb) ?_
  rintro _ w14 ⟨k2, rfl, hk3, hk4, c15⟩
  replace HC := HC.then c15
  replace ht := ht.tr0 c15
  replace hmx := hmx.tr0 c15
  replace ha := Enc.chg ha c15 q8
  replace hb := Enc.chg hb c15 q8
  replace hb4 := hb4.tr0 c15
  replace hb8 := hb8.tr0 c15
  refine w_yes 3 8 false <| st_lss rfl rfl <| pF rfl rfl <| en <| x_cond rfl (fun h0 => ?_) (fun h0 => ?_)
  ·try simp only [nm, ne_eq] at h0
   refine sr rfl <| Wp rfl <| st_call (ags := []) rfl rfl T.ent6 rfl (awake17_spec _ hmx ht) ?_
   rintro _ w16 ⟨rfl, c17⟩
   replace HC := HC.then c17
   refine aB rfl <| en <| x_ret <| then_r <| ret_tmp (v := .bool _) rfl rfl ?_
   exact ⟨rfl, HC⟩
  ·try simp only [nm, ne_eq] at h0
   refine x_skip <| then_n <| x_seq <| x_draw [(0, 0), (1, 0), (3, 0), (4, 0), (2, 1), (5, 1), (6, 0), (7, 0), (8, 0), (9, 0), (10, 1), (11, 0), (12, 0), (13, 1), (14, 0), (15, 0)] T.mixed rfl rfl rfl (fun W => W.heap[b2]? = w14.heap[b2]? ∧ W.heap[b3]? = w14.heap[b3]? ∧ True) ⟨rfl, rfl, trivial⟩ ?_
   have o20 := hb4
   have o21 := hb8
   have c19 := Chg.drew w14
   generalize World.drew w14 = w18 at c19 ⊢
   replace HC := HC.then c19
   replace ht := ht.tr0 c19
   replace hmx := hmx.tr0 c19
   replace ha := Enc.chg ha c19 q8
   replace hb := Enc.chg hb c19 q8
   replace hb4 := hb4.tr0 c19
   replace hb8 := hb8.tr0 c19
   refine sq_q rfl (fun W hT => r_loadA (vs := [_, _, _, _, _, _, _, _, _]) T.agg30 rfl (Blk.cells (n := 9) (vs := [_, _, _, _, _, _, _, _, _]) (show Blk W b2 _ _ from hT.1.trans o20) rfl) rfl) <| sq_q rfl (fun W hT => r_loadA (vs := [_, _, _, _, _, _, _, _, _]) T.agg30 rfl (Blk.cells (n := 9) (vs := [_, _, _, _, _, _, _, _, _]) (show Blk W b3 _ _ from hT.2.1.trans o21) rfl) rfl) <| sq_q rfl (fun W hT => r_loadA (vs := [_, _, _, _, _, _, _, _, _]) T.agg30 rfl (Blk.cells (n := 9) (vs := [_, _, _, _, _, _, _, _, _]) (show Blk W b2 _ _ from hT.1.trans o20) rfl) rfl) <| sq_q rfl (fun W hT => r_loadA (vs := [_, _, _, _, _, _, _, _, _]) T.agg30 rfl (Blk.cells (n := 9) (vs := [_, _, _, _, _, _, _, _, _]) (show Blk W b3 _ _ from hT.2.1.trans o21) rfl) rfl) <| sq_call1 rfl (r_call (ags := [_, _]) rfl rfl T.ent11 rfl) (gsame_spec _ ha hb) ?_
   rintro _ w22 ⟨r, rfl, hr, c23⟩
   obtain rfl : tt = r := by cases r <;> cases tt <;> simp_all
   replace HC := HC.then c23
   replace ht := ht.tr0 c23
   replace hmx := hmx.tr0 c23
   replace ha := Enc.chg ha c23 q8
   replace hb := Enc.chg hb c23 q8
   replace hb4 := hb4.tr0 c23
   replace hb8 := hb8.tr0 c23
   refine ⟨_, fun _ h => h, ⟨(Eq.trans hb4 o20.symm), (Eq.trans hb8 o21.symm), trivial⟩, ?_⟩
   refine sq_call1 rfl (r_call (ags := [_, _]) rfl rfl T.ent8 rfl) (rsame_spec _ ha hb) ?_
   rintro _ w24 ⟨r, rfl, hr, c25⟩
   obtain rfl : tt = r := by cases r <;> cases tt <;> simp_all
   replace HC := HC.then c25
   replace ht := ht.tr0 c25
   replace hmx := hmx.tr0 c25
   replace ha := Enc.chg ha c25 q8
   replace hb4 := hb4.tr0 c25
   replace hb8 := hb8.tr0 c25
   refine ⟨_, fun _ h => h, ⟨(Eq.trans hb4 o20.symm), (Eq.trans hb8 o21.symm), trivial⟩, ?_⟩
   refine sq_q rfl (fun W hT => r_beql T.u4 rfl rfl) <| sq_q rfl (fun W hT => r_move (v := .bool _) rfl) <| sq_split (d := 21) rfl (fun g26 => ?_) (fun g26 => ?_)
   ·try simp only [nm, ne_eq] at g26
    refine sq_q rfl (fun W hT => r_loadA (vs := [_, _, _, _, _, _, _, _, _]) T.agg30 rfl (Blk.cells (n := 9) (vs := [_, _, _, _, _, _, _, _, _]) (show Blk W b2 _ _ from hT.1.trans o20) rfl) rfl) <| sq_q rfl (fun W hT => r_loadA (vs := [_, _, _, _, _, _, _, _, _]) T.agg30 rfl (Blk.cells (n := 9) (vs := [_, _, _, _, _, _, _, _, _]) (show Blk W b2 _ _ from hT.1.trans o20) rfl) rfl) <| sq_call1 rfl (r_call (ags := [_, _]) rfl rfl T.ent11 rfl) (gsame_spec _ ha ha) ?_
    rintro _ w27 ⟨r, rfl, hr, c28⟩
    obtain rfl : r = true := hr.2 rfl
    replace HC := HC.then c28
    replace ht := ht.tr0 c28
    replace hmx := hmx.tr0 c28
    replace hb4 := hb4.tr0 c28
    replace hb8 := hb8.tr0 c28
    refine ⟨_, fun _ h => h, ⟨(Eq.trans hb4 o20.symm), (Eq.trans hb8 o21.symm), trivial⟩, ?_⟩
    refine sq_q rfl (fun W hT => r_pick (b := true) (v := .bool _) rfl rfl) <| sq_q rfl (fun W hT => r_move (v := .bool _) rfl) <| sq_split (d := 26) rfl (fun g29 => ?_) (fun g29 => ?_)
    ·try simp only [nm, ne_eq] at g29
     refine sq_call1 rfl (r_call (ags := []) rfl rfl T.ent6 rfl) (awake17_spec _ hmx ht) ?_
     rintro _ w30 ⟨rfl, c31⟩
     replace HC := HC.then c31
     replace hb4 := hb4.tr0 c31
     replace hb8 := hb8.tr0 c31
     refine ⟨_, fun _ h => h, ⟨(Eq.trans hb4 o20.symm), (Eq.trans hb8 o21.symm), trivial⟩, ?_⟩
     refine sq_q rfl (fun W hT => r_pick (b := true) (v := .bool _) rfl rfl) <| sq_q rfl (fun W hT => r_assign (v := .bool _) rfl) ?_
     clear o20
     clear o21
     refine sq_nil <| then_n <| x_ret <| ret_tmp (v := .bool _) rfl rfl ?_
     exact ⟨rfl, HC⟩
    ·try simp only [nm, ne_eq] at g29
     simp_all
   ·try simp only [nm, ne_eq] at g26
    simp_all

end Go.Proofs.YtghjmiggobpmoaaGreatDoor.K
set_option linter.unusedVariables false
set_option linter.unusedSimpArgs false
set_option autoImplicit false
namespace Go.Proofs.YtghjmiggobpmoaaGreatDoor.K
open Go Go.RowKit Go.ChangeShapes Go.WideShapes
variable {H : Type} {enc : TypeId × Value → H} {P : Program}
def FitsB (B : DataW H → Prop) (enc : TypeId × Value → H) (P : Program) {α : Type} (c : Enc α) (t : TypeId) (ok : α → Prop) : Prop :=
  ∀ (w : World) (fuel : Nat) (cs : List Value) (d : DataW H) (ps : List MemPlace), B d → DataW.trod enc P w 0 (fun _ => true) true fuel t cs = some (d, ps) → allLe (d.weights P t) → ∃ a, c.R w (fun k => k < w.heap.size) a cs ∧ ok a
theorem Fits.b {B : DataW H → Prop} {α : Type} {c : Enc α} {t : TypeId} {ok : α → Prop} (h : Fits enc P c t ok) : FitsB B enc P c t ok := fun w fuel cs d ps _ h1 h2 => h w fuel cs d ps h1 h2
theorem FitsB.imp {B : DataW H → Prop} {α β : Type} {c : Enc α} {c' : Enc β} {t : TypeId} {ok : α → Prop} {ok' : β → Prop} (h : FitsB B enc P c t ok) (hi : ∀ w D a vs, c.R w D a vs → ok a → ∃ b, c'.R w D b vs ∧ ok' b) : FitsB B enc P c' t ok' := by
  intro w fuel cs d ps hB h1 h2
  obtain ⟨a, h3, h4⟩ := h w fuel cs d ps hB h1 h2
  exact hi _ _ _ _ h3 h4
theorem fitsB_slice {B B' : DataW H → Prop} (hB : ∀ es rs x, B (.slice es rs) → x ∈ es → B' x) {α : Type} {c : Enc α} {t e : TypeId} {ok : α → Prop} {bytes : Nat} (ht : P.underlying t = some (.slice e)) (hc : P.cellsOf e = c.sz) (hb : P.bytesOf e = bytes) (hE : FitsB B' enc P c e ok) :
    FitsB B enc P c.slice t (fun xs => (∀ x, x ∈ xs → ok x) ∧ xs.length * bytes ≤ 140737488351232) := by
  intro w fuel cs d ps hBd h hw
  rcases Deep.open_slice ht h with ⟨rfl, hx⟩ | ⟨a, len, cap, m, n, D, Pl, rfl, hb0, hl, hm, hmm, hx, hall⟩
  · exact ⟨[], ⟨none, 0, rfl, Nat.le_refl _, by simp, .inl rfl⟩, by simp, by simp⟩
  · simp only [if_true] at hmm
    subst hmm
    simp only [Prod.mk.injEq] at hx
    obtain ⟨rfl, rfl⟩ := hx
    rw [hc] at hall
    have hwt : ∀ i, i < len → allLe ((D i).weights P e) := fun i hi n hn => hw n (by
      simp only [DataW.weights, ht, List.mem_cons, List.mem_append]
      exact .inr (.inl (weightsAll_mem (List.mem_map.2 ⟨i, List.mem_range.2 hi, rfl⟩) n hn)))
    have key : ∀ i, i < len → ∃ x : α, ∃ vs, c.R w (fun k => k < w.heap.size) x vs ∧ w.cells? 0 (a.add (i * c.sz)) c.sz = some vs ∧ ok x := fun i hi => by
      obtain ⟨cs', h1, h2⟩ := hall i (by omega)
      obtain ⟨x, h3, h4⟩ := hE w n cs' _ _ (hB _ _ _ hBd (List.mem_map.2 ⟨i, List.mem_range.2 hi, rfl⟩)) h2 (hwt i hi)
      exact ⟨x, cs', h3, h1, h4⟩
    have hlist : ∀ m, m ≤ len → ∃ xs : List α, xs.length = m ∧ ∀ i x, xs[i]? = some x → ∃ vs, c.R w (fun k => k < w.heap.size) x vs ∧ w.cells? 0 (a.add (i * c.sz)) c.sz = some vs ∧ ok x := by
      intro m
      induction m with
      | zero => exact fun _ => ⟨[], rfl, fun i x hx => by simp at hx⟩
      | succ m ih =>
        intro hm
        obtain ⟨xs, h1, h2⟩ := ih (by omega)
        obtain ⟨x, vs, h3, h4, h5⟩ := key m (by omega)
        refine ⟨xs ++ [x], by simp [h1], fun i y hy => ?_⟩
        by_cases hi : i < xs.length
        · rw [List.getElem?_append_left hi] at hy; exact h2 i y hy
        · have hlt := (List.getElem?_eq_some_iff.1 hy).1
          simp at hlt
          have hi' : i = xs.length := by omega
          subst hi'
          simp at hy; subst hy
          rw [h1]; exact ⟨vs, h3, h4, h5⟩
    obtain ⟨xs, h1, h2⟩ := hlist len (Nat.le_refl _)
    refine ⟨xs, ⟨some a, m, by rw [h1], by rw [h1]; exact hl, by simpa [maxLen] using hm, ?_⟩, fun x hx => ?_, ?_⟩
    · by_cases h0 : xs = []
      · exact .inl h0
      · have hpos : 0 < xs.length := List.length_pos_iff.2 h0
        obtain ⟨vs, q1, q2, q3⟩ := h2 0 xs[0] (by simp [hpos])
        obtain ⟨_, hlen, hcell⟩ := World.cells?_some q2
        have hp := c.pos
        have q4 := c.len q1
        have hc0 : w.cell? ((a.add (0 * c.sz)).add 0) = some (vs[0]'(by omega)) := by rw [hcell 0 hp]; simp
        obtain ⟨hlt, hspot⟩ := lt_of_cell hc0
        have e0 : (a.add (0 * c.sz)).add 0 = a := by simp [Addr.add]
        rw [e0] at hlt hspot
        obtain ⟨ab, ao, asp⟩ := a
        simp only at hlt hspot
        subst hspot
        refine .inr ⟨ab, ao, rfl, hlt, hlt, fun i x hx => ?_⟩
        obtain ⟨vs, r1, r2, r3⟩ := h2 i x hx
        obtain ⟨_, _, hcl⟩ := World.cells?_some r2
        refine ⟨vs, r1, fun j v hj => ?_⟩
        have hjl := (List.getElem?_eq_some_iff.1 hj).1
        rw [c.len r1] at hjl
        have := hcl j hjl
        rw [Addr.add_lit, Addr.add_lit, hj] at this
        exact this
    · obtain ⟨i, hi, rfl⟩ := List.mem_iff_getElem.1 hx
      obtain ⟨vs, r1, r2, r3⟩ := h2 i xs[i] (by simp [hi])
      exact r3
    · have := hw _ (by simp only [DataW.weights, ht]; exact List.mem_cons_self)
      simp only [List.length_map, List.length_range, hb, reachBytes] at this
      rw [h1]
      refine Nat.le_trans (Nat.mul_le_mul_right _ ?_) this
      omega
def FitsFB (B : DataW H → Prop) (enc : TypeId × Value → H) (P : Program) {α : Type} (c : Enc α) (fs : List Field) (off : Nat) (ok : α → Prop) : Prop :=
  ∀ (w : World) (fuel : Nat) (cs : List Value) (xs : List (DataW H × List MemPlace)), (∀ x, x ∈ xs → B x.1) → xs.length = fs.length → (∀ (i : Nat) (f : Field), fs[i]? = some f → DataW.trod enc P w 0 (fun _ => true) true fuel f.type ((cs.drop f.offset).take (P.cellsOf f.type)) = xs[i]?) →
    allLe (DataW.weightsEach P (fs.map (·.type)) (xs.map (·.1))) → ∃ a, c.R w (fun k => k < w.heap.size) a ((cs.drop off).take c.sz) ∧ ok a
section
variable {B : DataW H → Prop}
theorem fitsB_last {α : Type} {c : Enc α} {f : Field} {off : Nat} {ok : α → Prop} (ho : f.offset = off) (hc : P.cellsOf f.type = c.sz) (h : FitsB B enc P c f.type ok) : FitsFB B enc P c [f] off ok := by
  intro w fuel cs xs hBx hl hx hw
  subst ho
  match xs, hl with
  | [x], _ =>
    have h1 := hx 0 f rfl
    simp only [List.getElem?_cons_zero] at h1
    obtain ⟨a, h2, h3⟩ := h w fuel _ x.1 x.2 (hBx x (by simp)) h1 (fun n hn => hw n (by simp [DataW.weightsEach, hn]))
    rw [hc] at h2; exact ⟨a, h2, h3⟩
theorem fitsB_cons {α β : Type} {c1 : Enc α} {c2 : Enc β} {f : Field} {fs : List Field} {off : Nat} {ok1 : α → Prop} {ok2 : β → Prop} (ho : f.offset = off) (hc : P.cellsOf f.type = c1.sz) (h : FitsB B enc P c1 f.type ok1) (hF : FitsFB B enc P c2 fs (off + c1.sz) ok2) :
    FitsFB B enc P (c1.seq c2) (f :: fs) off (fun x => ok1 x.1 ∧ ok2 x.2) := by
  intro w fuel cs xs hBx hl hx hw
  subst ho
  match xs, hl with
  | x :: ys, hl =>
    have h1 := hx 0 f rfl
    simp only [List.getElem?_cons_zero] at h1
    obtain ⟨a, h3, h4⟩ := h w fuel _ x.1 x.2 (hBx x (by simp)) h1 (fun n hn => hw n (by simp [DataW.weightsEach, hn]))
    obtain ⟨b, h5, h6⟩ := hF w fuel cs ys (fun y hy => hBx y (by simp [hy])) (by simpa using hl) (fun i g hg => by have := hx (i + 1) g (by simpa using hg); simpa using this) (fun n hn => hw n (by simp [DataW.weightsEach, hn]))
    rw [hc] at h3
    refine ⟨(a, b), ⟨_, _, ?_, h3, h5⟩, h4, h6⟩
    show List.take (c1.sz + c2.sz) _ = _
    rw [List.take_add, List.drop_drop]
theorem fitsB_struct {B' : DataW H → Prop} (hB : ∀ l x, B' (.agg l) → x ∈ l → B x) {α : Type} {c : Enc α} {t : TypeId} {fs : List Field} {ok : α → Prop} (ht : P.underlying t = some (.struct fs.toArray)) (hc : P.cellsOf t = c.sz) (hF : FitsFB B enc P c fs 0 ok) : FitsB B' enc P c t ok := by
  intro w fuel cs d ps hBd h hw
  obtain ⟨xs, n, rfl, hx, hl, hl2, hall⟩ := DataW.trod_struct ht h
  simp only [Prod.mk.injEq] at hx
  obtain ⟨rfl, rfl⟩ := hx
  obtain ⟨a, h1, h2⟩ := hF w n cs xs (fun y hy => hB _ _ hBd (List.mem_map.2 ⟨y, hy, rfl⟩)) (by simpa using hl2) (fun i f hf => hall i f (by simpa using hf)) (fun n hn => hw n (by simpa [DataW.weights, ht] using hn))
  rw [List.drop_zero, List.take_of_length_le (by omega)] at h1
  exact ⟨a, h1, h2⟩
end
def LtB (n : Nat) (d : DataW H) : Prop := SizeOf.sizeOf d < n
theorem ltB_slice {n : Nat} {es rs : List (DataW H)} {x : DataW H} (h : LtB n (.slice es rs)) (hx : x ∈ es) : LtB n x := by
  have := List.sizeOf_lt_of_mem hx
  simp only [LtB, DataW.slice.sizeOf_spec] at h ⊢; omega
theorem ltB_agg {n : Nat} {l : List (DataW H)} {x : DataW H} (h : LtB (n + 1) (.agg l)) (hx : x ∈ l) : LtB n x := by
  have := List.sizeOf_lt_of_mem hx
  simp only [LtB, DataW.agg.sizeOf_spec] at h ⊢; omega
theorem ltB_agg' {n : Nat} {l : List (DataW H)} {x : DataW H} (h : LtB n (.agg l)) (hx : x ∈ l) : LtB n x := by
  have := List.sizeOf_lt_of_mem hx
  simp only [LtB, DataW.agg.sizeOf_spec] at h ⊢; omega
theorem fits_of_lt {α : Type} {c : Enc α} {cn : Nat → Enc α} {t : TypeId} {ok : α → Prop} (h : ∀ n, FitsB (LtB n) enc P (cn n) t ok) (hc : ∀ n w D a vs, (cn n).R w D a vs → c.R w D a vs) : Fits enc P c t ok := by
  intro w fuel cs d ps h1 h2
  obtain ⟨a, h3, h4⟩ := h (SizeOf.sizeOf d + 1) w fuel cs d ps (Nat.lt_succ_self _) h1 h2
  exact ⟨a, hc _ _ _ _ _ h3, h4⟩
end Go.Proofs.YtghjmiggobpmoaaGreatDoor.K
