import Derived.Test.YtncnalboiljgiaaGreatKitSq
import Derived.Test.YtncnalboiljgiaaGreatRa
set_option linter.unusedVariables false
set_option linter.unusedSimpArgs false
set_option autoImplicit false
set_option maxRecDepth 20000
namespace Go.Proofs.YtncnalboiljgiaaGreat.K
open Go Go.Proofs Go.RowKit
theorem may_tab {md m : Int} (h0 : 0 ≤ md) (h7 : md ≤ 7) (hm : m = 1 ∨ m = 2 ∨ m = 4 ∨ m = 5) : andV .i64 md m = m ↔ (m / 4 = 0 ∨ md / 4 = 1) ∧ (m / 2 % 2 = 0 ∨ md / 2 % 2 = 1) ∧ (m % 2 = 0 ∨ md % 2 = 1) := by
  have hd : md = 0 ∨ md = 1 ∨ md = 2 ∨ md = 3 ∨ md = 4 ∨ md = 5 ∨ md = 6 ∨ md = 7 := by omega
  rcases hm with rfl | rfl | rfl | rfl <;> rcases hd with rfl | rfl | rfl | rfl | rfl | rfl | rfl | rfl <;> decide
theorem dir_kind {Z : Tre} {k : Int} {x : Ino} (h : inoV Z k = some x) : dirV Z k = decide (x.kind = 2) := by unfold dirV kindV; rw [h]; rfl
theorem there_kind {Z : Tre} {k : Int} {x : Ino} (h : inoV Z k = some x) : thereV Z k = !decide (x.kind = 0) := by unfold thereV kindV; rw [h]; rfl
theorem may_kind {Z : Tre} {k m : Int} {x : Ino} (h : inoV Z k = some x) (ht : ¬ x.kind = 0) : mayV Z k m = decide (andV .i64 x.mode m = m) := by unfold mayV modeV; rw [there_kind h, h, decide_eq_false ht]; rfl
theorem r4there_spec {Z : Tre} {An : Option Addr} {capn : Nat} {mx my : Int} {D : Nat → Prop} {w : World} (hT : Sl inE w D An Z) (hTl : Z.length ≤ 1000000000) (k : Int) : CallR Tryz.prog 30 #[.agg ⟨[.slice An Z.length capn, .int .i64 mx, .int .i64 my]⟩, .int .i64 k] w fun v w' => v = .bool (thereV Z k) ∧ Chg [] w w' := by
 replace hT := hT.mono (D' := fun k => k < w.heap.size) (fun k hk _ => hk)
 refine callR_of_wp (args := [_, _]) Tryz.func30 rfl (Nat.le_of_ble_eq_true rfl) ?_
 have HC : Chg [] w w := .refl _
 refine sr rfl <| Wp rfl <| st_box (v := .agg ⟨[.slice _ _ _, .int _ _, .int _ _]⟩) (vs := [_, _, _]) rfl rfl ?_
 intro b2 w1 e2 c3 hb4
 have ge_b2 := gB e2 HC.size
 replace HC := HC.then c3
 replace hT := hT.tr0 c3
 clear e2
 refine aB rfl <| en <| sr rfl <| mI rfl <| Wp rfl <| st_geq rfl rfl <| mB rfl <| w_split (d := 7) rfl (fun g5 => ?_) (fun g5 => ?_)
 ·try simp only [nm, ne_eq] at g5
  refine w_yes 2 7 true <| st_move (v := .int _ _) rfl <| w_yes 2 7 true <| st_fieldAddr T.fld24_0 rfl <| w_yes 2 7 true <| st_load1 (v := .slice _ _ _) T.one22 rfl (hb4.cell rfl) <| w_yes 2 7 true <| st_len (ct := #[22]) (by rw [show ((#[22] : Array TypeId)[0]?).bind Tryz.prog.underlying = some (.slice 36) from T.u22]; rfl) rfl <| w_yes 2 7 true <| st_lss rfl rfl <| pT rfl rfl <| mB rfl <| w_split (d := 14) rfl (fun g6 => ?_) (fun g6 => ?_)
  ·try simp only [nm, ne_eq] at g6
   obtain ⟨x, hx, hio⟩ := ino_some (Z := Z) (k := k) (by omega) (by omega)
   refine w_yes 9 14 true <| st_fieldAddr T.fld24_0 rfl <| w_yes 9 14 true <| st_load1 (v := .slice _ _ _) T.one22 rfl (hb4.cell rfl) <| w_yes 9 14 true <| st_move (v := .int _ _) rfl ?_
   obtain ⟨lb11, _, vs10, hA7, hR9, hC8⟩ := hT.at (i := (k.toNat)) (x := x) (hx)
   obtain ⟨K12, cK12, rfl, hk1_12, hk2_12, hk3_12⟩ := hR9
   refine w_yes 9 14 true <| st_indexAddr T.u22 T.size36 (congrArg (fun z => Value.slice z _ _) hA7) rfl (by omega) (by omega) <| w_yes 9 14 true <| st_fieldAddr T.fld36_0 rfl <| w_yes 9 14 true <| st_load1 (v := .int _ _) T.one3 rfl (hC8.at (j := 0) rfl) <| w_yes 9 14 true <| st_neq rfl rfl <| pT rfl rfl <| aB rfl <| en <| x_ret <| ret_tmp (v := .bool _) rfl rfl <| ⟨?_, HC⟩
   unfold thereV kindV; rw [hio]; first | rfl | (simp; done)
  ·try simp only [nm, ne_eq] at g6
   have hio := ino_none (Z := Z) (k := k) (by omega)
   iterate 7 refine w_no 9 14 true ?_
   refine pF rfl rfl <| aB rfl <| en <| x_ret <| ret_tmp (v := .bool _) rfl rfl <| ⟨?_, HC⟩
   unfold thereV kindV; rw [hio]; first | rfl | (simp; done)
 ·try simp only [nm, ne_eq] at g5
  have hio := ino_none (Z := Z) (k := k) (by omega)
  iterate 5 refine w_no 2 7 true ?_
  refine pF rfl rfl <| mB rfl ?_
  iterate 7 refine w_no 9 14 true ?_
  refine pF rfl rfl <| aB rfl <| en <| x_ret <| ret_tmp (v := .bool _) rfl rfl <| ⟨?_, HC⟩
  unfold thereV kindV; rw [hio]; first | rfl | (simp; done)
theorem RMay_spec {Z : Tre} {An : Option Addr} {capn : Nat} {mx my : Int} {D : Nat → Prop} {w : World} (hT : Sl inE w D An Z) (hTl : Z.length ≤ 1000000000) (hF : FitT Z) (k m : Int) (hm : m = 1 ∨ m = 2 ∨ m = 4 ∨ m = 5) : CallR Tryz.prog 13 #[.agg ⟨[.slice An Z.length capn, .int .i64 mx, .int .i64 my]⟩, .int .i64 k, .int .i64 m] w fun v w' => v = .bool (mayV Z k m) ∧ Chg [] w w' := by
 replace hT := hT.mono (D' := fun k => k < w.heap.size) (fun k hk _ => hk)
 refine callR_of_wp (args := [_, _, _]) Tryz.func13 rfl (Nat.le_of_ble_eq_true rfl) ?_
 have HC : Chg [] w w := .refl _
 refine sr rfl <| Wp rfl <| st_box (v := .agg ⟨[.slice _ _ _, .int _ _, .int _ _]⟩) (vs := [_, _, _]) rfl rfl ?_
 intro b3 w1 e2 c3 hb4
 have ge_b3 := gB e2 HC.size
 replace HC := HC.then c3
 replace hT := hT.tr0 c3
 clear e2
 refine aB rfl <| en <| x_seq <| sr rfl <| mI rfl <| Wp rfl <| st_lss rfl rfl <| mB rfl <| w_split (d := 10) rfl (fun g5 => ?_) (fun g5 => ?_)
 ·try simp only [nm, ne_eq] at g5
  exfalso; omega
 ·try simp only [nm, ne_eq] at g5
  refine w_yes 2 10 false <| st_move (v := .int _ _) rfl <| w_yes 2 10 false <| st_gtr rfl rfl <| pF rfl rfl <| mB rfl <| w_split (d := 14) rfl (fun g6 => ?_) (fun g6 => ?_)
  ·try simp only [nm, ne_eq] at g6
   exfalso; omega
  ·try simp only [nm, ne_eq] at g6
   refine w_yes 6 14 false <| st_loadA (vs := [_, _, _]) T.agg24 rfl (hb4.cells (n := 3) (vs := [_, _, _]) rfl) rfl <| w_yes 6 14 false <| st_move (v := .int _ _) rfl <| w_yes 6 14 false <| st_call (ags := [_, _]) rfl rfl T.ent30 rfl (r4there_spec hT hTl _) ?_
   rintro _ w7 ⟨rfl, c8⟩
   replace HC := HC.then c8
   replace hT := hT.tr0 c8
   replace hb4 := hb4.tr0 c8
   refine w_yes 6 14 false <| st_not rfl <| pF rfl rfl <| en <| x_cond rfl (fun h0 => ?_) (fun h0 => ?_)
   ·try simp only [nm, ne_eq] at h0
    refine sr rfl <| aB rfl <| en <| x_ret <| then_r <| ret_tmp (v := .bool _) rfl rfl ?_
    have hth : thereV Z k = false := by first | assumption | simp_all
    refine ⟨?_, HC⟩
    unfold mayV; rw [hth]; rfl
   ·try simp only [nm, ne_eq] at h0
    have hth : thereV Z k = true := by first | assumption | simp_all
    obtain ⟨hk0, hk1⟩ := there_in hth
    obtain ⟨x, hx, hio⟩ := ino_some (Z := Z) (k := k) (by omega) (by omega)
    obtain ⟨hd0, hd7⟩ := hF.mode x (List.mem_of_getElem? hx)
    have hkn : ¬ x.kind = 0 := by rw [there_kind hio] at hth; simpa using hth
    have hmt := may_tab hd0 hd7 hm
    refine x_skip <| then_n <| sr rfl <| fa T.fld24_0 rfl <| lL T.one22 rfl (hb4.cell rfl) <| mI rfl ?_
    obtain ⟨lb13, _, vs12, hA9, hR11, hC10⟩ := hT.at (i := (k.toNat)) (x := x) (hx)
    obtain ⟨K14, cK14, rfl, hk1_14, hk2_14, hk3_14⟩ := hR11
    refine Wp rfl <| st_indexAddr T.u22 T.size36 (congrArg (fun z => Value.slice z _ _) hA9) rfl (by omega) (by omega) <| fa T.fld36_1 rfl <| lI T.one3 rfl (hC10.at (j := 1) rfl) <| aI rfl <| en <| sr rfl <| mI rfl <| Wp rfl <| st_quok rfl rfl (by decide) (by exact quoi64 (by first | omega | assumption) (by first | omega | assumption) (by first | omega | assumption)) <| Wp rfl <| st_eql rfl rfl <| mB rfl <| w_split (d := 29) rfl (fun g15 => ?_) (fun g15 => ?_)
    ·try simp only [nm, ne_eq] at g15
     iterate 3 refine w_no 3 29 false ?_
     refine pT rfl rfl <| mB rfl <| w_yes 8 34 true <| st_move (v := .int _ _) rfl <| w_yes 8 34 true <| st_quok rfl rfl (by decide) (by exact quoi64 (by first | omega | assumption) (by first | omega | assumption) (by first | omega | assumption)) <| w_yes 8 34 true <| st_remk rfl rfl (by decide) (by exact Int.tmod_eq_emod_of_nonneg (by first | omega | assumption)) <| w_yes 8 34 true <| st_eql rfl rfl <| w_yes 8 34 true <| st_move (v := .bool _) rfl <| w_split (d := 39) rfl (fun g16 => ?_) (fun g16 => ?_)
     ·try simp only [nm, ne_eq] at g16
      iterate 4 refine w_no 13 39 false ?_
      refine w_yes 8 34 true <| st_pick (b := true) (v := .bool _) rfl rfl <| pT rfl rfl <| mB rfl <| w_yes 20 46 true <| st_move (v := .int _ _) rfl <| w_yes 20 46 true <| st_remk rfl rfl (by decide) (by exact Int.tmod_eq_emod_of_nonneg (by first | omega | assumption)) <| w_yes 20 46 true <| st_eql rfl rfl <| w_yes 20 46 true <| st_move (v := .bool _) rfl <| w_split (d := 50) rfl (fun g17 => ?_) (fun g17 => ?_)
      ·try simp only [nm, ne_eq] at g17
       iterate 3 refine w_no 24 50 false ?_
       refine w_yes 20 46 true <| st_pick (b := true) (v := .bool _) rfl rfl <| pT rfl rfl <| aB rfl <| en <| x_ret <| ret_tmp (v := .bool _) rfl rfl <| ⟨congrArg Value.bool ?_, HC⟩
       rw [may_kind hio hkn, Bool.eq_iff_iff]
       simp only [decide_eq_true_eq, hmt, Bool.false_eq_true, false_iff, true_iff]
       omega
      ·try simp only [nm, ne_eq] at g17
       refine w_yes 24 50 false <| st_move (v := .int _ _) rfl <| w_yes 24 50 false <| st_remk rfl rfl (by decide) (by exact Int.tmod_eq_emod_of_nonneg (by first | omega | assumption)) <| w_yes 24 50 false <| st_eql rfl rfl <| w_yes 20 46 true <| st_pick (b := false) (v := .bool _) rfl rfl <| pT rfl rfl <| aB rfl <| en <| x_ret <| ret_tmp (v := .bool _) rfl rfl <| ⟨congrArg Value.bool ?_, HC⟩
       rw [may_kind hio hkn, Bool.eq_iff_iff]
       simp only [decide_eq_true_eq, hmt, Bool.false_eq_true, false_iff, true_iff]
       omega
     ·try simp only [nm, ne_eq] at g16
      refine w_yes 13 39 false <| st_move (v := .int _ _) rfl <| w_yes 13 39 false <| st_quok rfl rfl (by decide) (by exact quoi64 (by first | omega | assumption) (by first | omega | assumption) (by first | omega | assumption)) <| w_yes 13 39 false <| st_remk rfl rfl (by decide) (by exact Int.tmod_eq_emod_of_nonneg (by first | omega | assumption)) <| w_yes 13 39 false <| st_eql rfl rfl <| w_yes 8 34 true <| st_pick (b := false) (v := .bool _) rfl rfl <| pT rfl rfl <| mB rfl <| w_split (d := 46) rfl (fun g18 => ?_) (fun g18 => ?_)
      ·try simp only [nm, ne_eq] at g18
       refine w_yes 20 46 true <| st_move (v := .int _ _) rfl <| w_yes 20 46 true <| st_remk rfl rfl (by decide) (by exact Int.tmod_eq_emod_of_nonneg (by first | omega | assumption)) <| w_yes 20 46 true <| st_eql rfl rfl <| w_yes 20 46 true <| st_move (v := .bool _) rfl <| w_split (d := 50) rfl (fun g19 => ?_) (fun g19 => ?_)
       ·try simp only [nm, ne_eq] at g19
        iterate 3 refine w_no 24 50 false ?_
        refine w_yes 20 46 true <| st_pick (b := true) (v := .bool _) rfl rfl <| pT rfl rfl <| aB rfl <| en <| x_ret <| ret_tmp (v := .bool _) rfl rfl <| ⟨congrArg Value.bool ?_, HC⟩
        rw [may_kind hio hkn, Bool.eq_iff_iff]
        simp only [decide_eq_true_eq, hmt, Bool.false_eq_true, false_iff, true_iff]
        omega
       ·try simp only [nm, ne_eq] at g19
        refine w_yes 24 50 false <| st_move (v := .int _ _) rfl <| w_yes 24 50 false <| st_remk rfl rfl (by decide) (by exact Int.tmod_eq_emod_of_nonneg (by first | omega | assumption)) <| w_yes 24 50 false <| st_eql rfl rfl <| w_yes 20 46 true <| st_pick (b := false) (v := .bool _) rfl rfl <| pT rfl rfl <| aB rfl <| en <| x_ret <| ret_tmp (v := .bool _) rfl rfl <| ⟨congrArg Value.bool ?_, HC⟩
        rw [may_kind hio hkn, Bool.eq_iff_iff]
        simp only [decide_eq_true_eq, hmt, Bool.false_eq_true, false_iff, true_iff]
        omega
      ·try simp only [nm, ne_eq] at g18
       iterate 4 refine w_no 20 46 true ?_
       iterate 3 refine w_no 24 50 false ?_
       refine w_no 20 46 true <| pF rfl rfl <| aB rfl <| en <| x_ret <| ret_tmp (v := .bool _) rfl rfl <| ⟨congrArg Value.bool ?_, HC⟩
       rw [may_kind hio hkn, Bool.eq_iff_iff]
       simp only [decide_eq_true_eq, hmt, Bool.false_eq_true, false_iff, true_iff]
       omega
    ·try simp only [nm, ne_eq] at g15
     refine w_yes 3 29 false <| st_move (v := .int _ _) rfl <| w_yes 3 29 false <| st_quok rfl rfl (by decide) (by exact quoi64 (by first | omega | assumption) (by first | omega | assumption) (by first | omega | assumption)) <| w_yes 3 29 false <| st_eql rfl rfl <| pF rfl rfl <| mB rfl <| w_split (d := 34) rfl (fun g20 => ?_) (fun g20 => ?_)
     ·try simp only [nm, ne_eq] at g20
      refine w_yes 8 34 true <| st_move (v := .int _ _) rfl <| w_yes 8 34 true <| st_quok rfl rfl (by decide) (by exact quoi64 (by first | omega | assumption) (by first | omega | assumption) (by first | omega | assumption)) <| w_yes 8 34 true <| st_remk rfl rfl (by decide) (by exact Int.tmod_eq_emod_of_nonneg (by first | omega | assumption)) <| w_yes 8 34 true <| st_eql rfl rfl <| w_yes 8 34 true <| st_move (v := .bool _) rfl <| w_split (d := 39) rfl (fun g21 => ?_) (fun g21 => ?_)
      ·try simp only [nm, ne_eq] at g21
       iterate 4 refine w_no 13 39 false ?_
       refine w_yes 8 34 true <| st_pick (b := true) (v := .bool _) rfl rfl <| pT rfl rfl <| mB rfl <| w_yes 20 46 true <| st_move (v := .int _ _) rfl <| w_yes 20 46 true <| st_remk rfl rfl (by decide) (by exact Int.tmod_eq_emod_of_nonneg (by first | omega | assumption)) <| w_yes 20 46 true <| st_eql rfl rfl <| w_yes 20 46 true <| st_move (v := .bool _) rfl <| w_split (d := 50) rfl (fun g22 => ?_) (fun g22 => ?_)
       ·try simp only [nm, ne_eq] at g22
        iterate 3 refine w_no 24 50 false ?_
        refine w_yes 20 46 true <| st_pick (b := true) (v := .bool _) rfl rfl <| pT rfl rfl <| aB rfl <| en <| x_ret <| ret_tmp (v := .bool _) rfl rfl <| ⟨congrArg Value.bool ?_, HC⟩
        rw [may_kind hio hkn, Bool.eq_iff_iff]
        simp only [decide_eq_true_eq, hmt, Bool.false_eq_true, false_iff, true_iff]
        omega
       ·try simp only [nm, ne_eq] at g22
        refine w_yes 24 50 false <| st_move (v := .int _ _) rfl <| w_yes 24 50 false <| st_remk rfl rfl (by decide) (by exact Int.tmod_eq_emod_of_nonneg (by first | omega | assumption)) <| w_yes 24 50 false <| st_eql rfl rfl <| w_yes 20 46 true <| st_pick (b := false) (v := .bool _) rfl rfl <| pT rfl rfl <| aB rfl <| en <| x_ret <| ret_tmp (v := .bool _) rfl rfl <| ⟨congrArg Value.bool ?_, HC⟩
        rw [may_kind hio hkn, Bool.eq_iff_iff]
        simp only [decide_eq_true_eq, hmt, Bool.false_eq_true, false_iff, true_iff]
        omega
      ·try simp only [nm, ne_eq] at g21
       refine w_yes 13 39 false <| st_move (v := .int _ _) rfl <| w_yes 13 39 false <| st_quok rfl rfl (by decide) (by exact quoi64 (by first | omega | assumption) (by first | omega | assumption) (by first | omega | assumption)) <| w_yes 13 39 false <| st_remk rfl rfl (by decide) (by exact Int.tmod_eq_emod_of_nonneg (by first | omega | assumption)) <| w_yes 13 39 false <| st_eql rfl rfl <| w_yes 8 34 true <| st_pick (b := false) (v := .bool _) rfl rfl <| pT rfl rfl <| mB rfl <| w_split (d := 46) rfl (fun g23 => ?_) (fun g23 => ?_)
       ·try simp only [nm, ne_eq] at g23
        refine w_yes 20 46 true <| st_move (v := .int _ _) rfl <| w_yes 20 46 true <| st_remk rfl rfl (by decide) (by exact Int.tmod_eq_emod_of_nonneg (by first | omega | assumption)) <| w_yes 20 46 true <| st_eql rfl rfl <| w_yes 20 46 true <| st_move (v := .bool _) rfl <| w_split (d := 50) rfl (fun g24 => ?_) (fun g24 => ?_)
        ·try simp only [nm, ne_eq] at g24
         iterate 3 refine w_no 24 50 false ?_
         refine w_yes 20 46 true <| st_pick (b := true) (v := .bool _) rfl rfl <| pT rfl rfl <| aB rfl <| en <| x_ret <| ret_tmp (v := .bool _) rfl rfl <| ⟨congrArg Value.bool ?_, HC⟩
         rw [may_kind hio hkn, Bool.eq_iff_iff]
         simp only [decide_eq_true_eq, hmt, Bool.false_eq_true, false_iff, true_iff]
         omega
        ·try simp only [nm, ne_eq] at g24
         refine w_yes 24 50 false <| st_move (v := .int _ _) rfl <| w_yes 24 50 false <| st_remk rfl rfl (by decide) (by exact Int.tmod_eq_emod_of_nonneg (by first | omega | assumption)) <| w_yes 24 50 false <| st_eql rfl rfl <| w_yes 20 46 true <| st_pick (b := false) (v := .bool _) rfl rfl <| pT rfl rfl <| aB rfl <| en <| x_ret <| ret_tmp (v := .bool _) rfl rfl <| ⟨congrArg Value.bool ?_, HC⟩
         rw [may_kind hio hkn, Bool.eq_iff_iff]
         simp only [decide_eq_true_eq, hmt, Bool.false_eq_true, false_iff, true_iff]
         omega
       ·try simp only [nm, ne_eq] at g23
        iterate 4 refine w_no 20 46 true ?_
        iterate 3 refine w_no 24 50 false ?_
        refine w_no 20 46 true <| pF rfl rfl <| aB rfl <| en <| x_ret <| ret_tmp (v := .bool _) rfl rfl <| ⟨congrArg Value.bool ?_, HC⟩
        rw [may_kind hio hkn, Bool.eq_iff_iff]
        simp only [decide_eq_true_eq, hmt, Bool.false_eq_true, false_iff, true_iff]
        omega
     ·try simp only [nm, ne_eq] at g20
      iterate 5 refine w_no 8 34 true ?_
      iterate 4 refine w_no 13 39 false ?_
      refine w_no 8 34 true <| pF rfl rfl <| mB rfl ?_
      iterate 4 refine w_no 20 46 true ?_
      iterate 3 refine w_no 24 50 false ?_
      refine w_no 20 46 true <| pF rfl rfl <| aB rfl <| en <| x_ret <| ret_tmp (v := .bool _) rfl rfl <| ⟨congrArg Value.bool ?_, HC⟩
      rw [may_kind hio hkn, Bool.eq_iff_iff]
      simp only [decide_eq_true_eq, hmt, Bool.false_eq_true, false_iff, true_iff]
      omega
open Go Go.Proofs Go.RowKit
theorem may_five {Z : Tre} (hF : FitT Z) {k : Int} (h : mayV Z k 5 = true) : mayV Z k 1 = true ∧ mayV Z k 4 = true := by
  have hth : thereV Z k = true := by unfold mayV at h; rw [Bool.and_eq_true] at h; exact h.1
  obtain ⟨h0, h1⟩ := there_in hth
  obtain ⟨x, hx, hio⟩ := ino_some (Z := Z) (k := k) (by omega) (by omega)
  have hkn : ¬ x.kind = 0 := by rw [there_kind hio] at hth; simpa using hth
  obtain ⟨hd0, hd7⟩ := hF.mode x (List.mem_of_getElem? hx)
  rw [may_kind hio hkn] at h ⊢
  rw [may_kind hio hkn]
  rw [decide_eq_true_eq] at h ⊢
  rw [decide_eq_true_eq]
  rw [may_tab hd0 hd7 (.inr (.inr (.inr rfl)))] at h
  rw [may_tab hd0 hd7 (.inl rfl), may_tab hd0 hd7 (.inr (.inr (.inl rfl)))]
  omega
theorem walk_dot {Z : Tre} {k : Int} (hd : dirV Z k = true) (hm : mayV Z k 1 = true) : walkV Z k [46] true = (k, 0) := by
  have hp : partsV [46] = [[46]] := by decide
  have hb : badP Z k [46] = 0 := by unfold badP; rw [if_neg (by decide), if_neg (by rw [hd]; decide), if_neg (by decide), if_neg (by rw [hp]; decide)]
  have hc : curV [46] k = k := by unfold curV; rw [if_neg (by decide)]
  have hs : Lib.hasSuffix [46] [47] = false := by decide
  have hst : stepV Z k [46] = (k, 0) := by unfold stepV; rw [if_neg (by rw [hd]; decide), if_neg (by rw [hm]; decide), if_pos rfl]
  have hkd : kindV Z k = 2 := by unfold dirV at hd; exact of_decide_eq_true hd
  have hg : goV Z true 600000 ⟨k, [[46]], 0⟩ = (k, 0) := by
    rw [show (600000 : Nat) = 599998 + 1 + 1 from rfl, goV]
    have hn : nxtW Z true ⟨k, [[46]], 0⟩ [46] [] = (0, ⟨k, [], 0⟩) := by
      unfold nxtW
      simp only [hst]
      rw [if_neg (by decide), if_pos (.inl (by rw [hkd]; decide))]
    simp only [hn]
    rw [if_neg (by decide), goV]
  unfold walkV
  rw [if_neg (by rw [hb]; decide)]
  rw [hs, hc, hp]
  simp only [Bool.true_or]
  rw [hg, if_neg (by rintro ⟨_, h, _⟩; cases h)]
theorem match_star (n : Bytes) : matchV [42] [48] n = true := by
  have hw : wantsV [42] [48] = [.any false] := by rfl
  unfold matchV
  rw [hw, mt_star rfl, sufs_any]
  exact ⟨n.length, Nat.le_refl _, by rw [List.drop_length]; rfl⟩
def wantL (l : List Ke) : List Bytes := (l.filter fun e => !decide ((byte e.1 0).toNat = 46)).map (·.1)
theorem less_le {a b : Bytes} (h : Op.bytesLess a b = true) : leB a b = true := by
  rw [bytesLess_eq, decide_eq_true_eq] at h
  unfold leB
  rw [decide_eq_true_eq]
  exact List.le_of_lt h
theorem exp_star {Z : Tre} (hF : FitT Z) {cwd : Int} (hd : dirV Z cwd = true) (hm : mayV Z cwd 5 = true) : expandV Z cwd [42] [] = wantL (kidsV Z cwd) := by
  obtain ⟨h1, h4⟩ := may_five hF hm
  have hw := walk_dot hd h1
  have hkd : kindV Z cwd = 2 := by unfold dirV at hd; exact of_decide_eq_true hd
  have hg : gPartsV [42] [] = [([42], [48])] := by decide +kernel
  have hf : ∀ e : Ke, showB ([42], [48]) e = !decide ((byte e.1 0).toNat = 46) := by
    intro e; unfold showB hidB
    rw [match_star, Bool.and_true, show decide ((byte ([42], [48]).1 0).toNat = 46) = false from by decide]
    simp
  have hb : belowG Z cwd [] ([42], [48]) = wantL (kidsV Z cwd) := by
    unfold belowG
    rw [if_neg (by decide +kernel), show dotV [] = [46] from rfl, hw, if_neg (by
      rintro (h | h)
      · unfold dirG at h; rw [show dotV [] = [46] from rfl, hw] at h; simp [hkd] at h
      · rw [h4] at h; cases h)]
    unfold wantL
    rw [show (showB ([42], [48])) = (fun e => !decide ((byte e.1 0).toNat = 46)) from funext hf]
    apply List.map_congr_left
    intro e _
    unfold behindV; rw [if_pos (.inl rfl)]; rfl
  have hk : ∀ l : List Bytes, l.filterMap (keepG Z cwd true []) = l := by
    intro l
    induction l with
    | nil => rfl
    | cons a l ih =>
      have h2 : keepG Z cwd true [] a = some a := by
        unfold keepG; rw [if_neg (by rintro ⟨_, h | h⟩; (cases h); (exact h rfl)), if_pos rfl, List.append_nil]
      rw [List.filterMap_cons, h2, ih]
  have hl : levelG Z cwd ([42], [48]) true [] [[]] = wantL (kidsV Z cwd) := by
    unfold levelG onG
    rw [List.flatMap_cons, List.flatMap_nil, List.append_nil, hb, hk]
  obtain ⟨x, hx, hio⟩ := ino_some (Z := Z) (k := cwd) (dir_in hd).1 (dir_in hd).2
  have hkx : kidsV Z cwd = x.kids := by unfold kidsV; rw [hio]; rfl
  obtain ⟨hri, hle, _⟩ := hF.kids x (List.mem_of_getElem? hx)
  have hn : (wantL (kidsV Z cwd)).length ≤ 1024 := by
    unfold wantL; rw [List.length_map, hkx]; exact Nat.le_trans (List.length_filter_le _ _) hle
  have hs : (wantL (kidsV Z cwd)).Pairwise fun a b => leB a b = true := by
    unfold wantL; rw [hkx, List.pairwise_map]
    exact (List.Pairwise.filter _ hri).imp fun h => less_le h
  have he : expG Z cwd [] (gPartsV [42] []) [[]] = some (wantL (kidsV Z cwd)) := by
    rw [hg, expG, show ([] : List Gp).isEmpty = true from rfl, hl, if_neg (by omega), expG]
  unfold expandV
  rw [if_neg (by decide +kernel), if_neg (by decide), if_neg (by decide), he]
  exact sortB_eq (List.Perm.refl _) hs
theorem want_step {l : List Ke} {i : Nat} {q : Ke} (h : l[i]? = some q) : wantL (l.take (i + 1)) = wantL (l.take i) ++ (if (byte q.1 0).toNat = 46 then [] else [q.1]) := by
  unfold wantL
  rw [List.take_add_one, h, Option.toList_some, List.filter_append, List.map_append]
  congr 1
  by_cases e : (byte q.1 0).toNat = 46
  · rw [if_pos e, List.filter_cons_of_neg (by simp [e])]; rfl
  · rw [if_neg e, List.filter_cons_of_pos (by simp [e])]; rfl
theorem Place_spec {Z : Tre} {An : Option Addr} {capn : Nat} {mx my : Int} {D : Nat → Prop} {w : World} (hT : Sl inE w D An Z) (hTl : Z.length ≤ 1000000000) (hF : FitT Z) (hN : NamesT Z) (k : Int) : CallR Tryz.prog 12 #[.agg ⟨[.slice An Z.length capn, .int .i64 mx, .int .i64 my]⟩, .int .i64 k] w fun v w' => (∃ s, v = S s ∧ (s ≠ [] → dirV Z k = true)) ∧ Chg [] w w' := by
 replace hT := hT.mono (D' := fun k => k < w.heap.size) (fun k hk _ => hk)
 refine callR_of_wp (args := [_, _]) Tryz.func12 rfl (Nat.le_of_ble_eq_true rfl) ?_
 have HC : Chg [] w w := .refl _
 refine sr rfl <| Wp rfl <| st_box (v := .agg ⟨[.slice _ _ _, .int _ _, .int _ _]⟩) (vs := [_, _, _]) rfl rfl ?_
 intro b2 w1 e2 c3 hb4
 have ge_b2 := gB e2 HC.size
 replace HC := HC.then c3
 replace hT := hT.tr0 c3
 clear e2
 refine aS rfl <| en <| x_seq <| sr rfl <| Wp rfl <| st_loadA (vs := [_, _, _]) T.agg24 rfl (hb4.cells (n := 3) (vs := [_, _, _]) rfl) rfl <| mI rfl <| Wp rfl <| st_call (ags := [_, _]) rfl rfl T.ent29 rfl (rthere_spec hT hTl _) ?_
 rintro _ w5 ⟨rfl, c6⟩
 replace HC := HC.then c6
 replace hT := hT.tr0 c6
 replace hb4 := hb4.tr0 c6
 refine Wp rfl <| st_not rfl <| mB rfl <| w_split (d := 14) rfl (fun g7 => ?_) (fun g7 => ?_)
 ·try simp only [nm, ne_eq] at g7
  iterate 7 refine w_no 4 14 false ?_
  refine pT rfl rfl <| en <| x_cond (t := true) rfl (fun h0 => ?_) (fun h0 => ?_)
  rotate_left
  · exact absurd h0 (by decide)
  refine sr rfl <| aS rfl <| en <| x_ret <| then_r <| ret_tmp (v := S _) rfl rfl ?_
  exact ⟨⟨_, rfl, fun h => absurd rfl h⟩, HC⟩
 ·try simp only [nm, ne_eq] at g7
  obtain ⟨hk0, hk1⟩ := inV_in (by assumption : inV Z k = true)
  obtain ⟨x, hx, hio⟩ := ino_some (Z := Z) (k := k) (by omega) (by omega)
  refine w_yes 4 14 false <| st_fieldAddr T.fld24_0 rfl <| w_yes 4 14 false <| st_load1 (v := .slice _ _ _) T.one22 rfl (hb4.cell rfl) <| w_yes 4 14 false <| st_move (v := .int _ _) rfl ?_
  obtain ⟨lb12, _, vs11, hA8, hR10, hC9⟩ := hT.at (i := (k.toNat)) (x := x) (hx)
  obtain ⟨K13, cK13, rfl, hk1_13, hk2_13, hk3_13⟩ := hR10
  refine w_yes 4 14 false <| st_indexAddr T.u22 T.size36 (congrArg (fun z => Value.slice z _ _) hA8) rfl (by omega) (by omega) <| w_yes 4 14 false <| st_fieldAddr T.fld36_0 rfl <| w_yes 4 14 false <| st_load1 (v := .int _ _) T.one3 rfl (hC9.at (j := 0) rfl) <| w_yes 4 14 false <| st_neq rfl rfl <| pF rfl rfl <| en <| x_cond rfl (fun h0 => ?_) (fun h0 => ?_)
  ·try simp only [nm, ne_eq] at h0
   refine sr rfl <| aS rfl <| en <| x_ret <| then_r <| ret_tmp (v := S _) rfl rfl ?_
   exact ⟨⟨_, rfl, fun h => absurd rfl h⟩, HC⟩
  ·try simp only [nm, ne_eq] at h0
   have hd2 : x.kind = 2 := by first | assumption | omega | simp_all
   have hkd : dirV Z k = true := by rw [dir_kind hio]; exact decide_eq_true hd2
   have hZ := hF.few
   refine x_skip <| then_n <| sr rfl <| aS rfl <| en <| x_seq <| sr rfl <| aI rfl <| en <| x_block <| x_loop (ι := Nat × Int × Bytes) [1, 5, 6, 7, 8, 9, 23, 24, 25, 26, 27, 28, 29, 30, 31, 32, 33, 34, 35, 36, 37, 38, 39, 40, 41, 42, 43, 44, 45, 46, 47, 48, 49, 50, 51, 52, 53, 54, 55, 56, 57, 58, 59, 60, 61, 62, 63, 64, 65, 66, 67] (fun ⟨i, j, s⟩ => [(1, .int .i64 j), (5, S s), (6, .int .i64 (i : Int))]) (fun ⟨i, j, s⟩ W => (i ≤ Z.length + 1 ∧ dirV Z j = true ∧ s.length ≤ i * 70000) ∧ (Chg [] w W) ∧ (Sl inE W (fun k => k < w.heap.size) An Z) ∧ (Blk W b2 [.slice An Z.length capn, .int .i64 mx, .int .i64 my] 24) ∧ (Sl keE W (fun k => k < w.heap.size) K13 x.kids)) (fun ⟨i, j, s⟩ => Z.length + 2 - i) (0, k, []) ?_ ?_ ?_
   · exact ⟨rfl, rfl, rfl, trivial⟩
   ·refine ⟨?_, HC, hT, hb4, hk3_13⟩
    exact ⟨Nat.zero_le _, hkd, Nat.zero_le _⟩
   intro ⟨i, j, s⟩ G15 w14 ⟨⟨hi, hdj, hsl⟩, HC, hT, hb4, hk3_13⟩
   change wp _ _ _ _ _ (upds (over _ _ G15) [(1, .int .i64 j), (5, S s), (6, .int .i64 (i : Int))]) _ _
   refine x_seq <| sr rfl <| mI rfl <| Wp rfl <| st_neq rfl rfl <| mB rfl <| w_split (d := 25) rfl (fun g16 => ?_) (fun g16 => ?_)
   ·try simp only [nm, ne_eq] at g16
    refine w_yes 2 25 true <| st_move (v := .int _ _) rfl <| w_yes 2 25 true <| st_fieldAddr T.fld24_0 rfl <| w_yes 2 25 true <| st_load1 (v := .slice _ _ _) T.one22 rfl (hb4.cell rfl) <| w_yes 2 25 true <| st_len (ct := #[22]) (by rw [show ((#[22] : Array TypeId)[0]?).bind Tryz.prog.underlying = some (.slice 36) from T.u22]; rfl) rfl <| w_yes 2 25 true <| st_leq rfl rfl <| pT rfl rfl <| en <| x_cond rfl (fun h1 => ?_) (fun h1 => ?_)
    ·try simp only [nm, ne_eq] at h1
     obtain ⟨hj0, hj1⟩ := dir_in hdj
     obtain ⟨y, hy, hyi⟩ := ino_some (Z := Z) (k := j) (by omega) (by omega)
     have hyk : y.kind = 2 := by rw [dir_kind hyi] at hdj; exact of_decide_eq_true hdj
     have hud := hF.up y (List.mem_of_getElem? hy) hyk
     obtain ⟨hu0, hu1⟩ := dir_in hud
     obtain ⟨u, hu, _⟩ := ino_some (Z := Z) (k := y.up) (by omega) (by omega)
     obtain ⟨_, hkl, _⟩ := hF.kids u (List.mem_of_getElem? hu)
     have hun := hN u (List.mem_of_getElem? hu)
     refine x_skip <| then_n <| x_seq <| x_block <| sr rfl <| fa T.fld24_0 rfl <| lL T.one22 rfl (hb4.cell rfl) <| mI rfl ?_
     obtain ⟨lb21, _, vs20, hA17, hR19, hC18⟩ := hT.at (i := (j.toNat)) (x := y) (hy)
     obtain ⟨K22, cK22, rfl, hk1_22, hk2_22, hk3_22⟩ := hR19
     refine Wp rfl <| st_indexAddr T.u22 T.size36 (congrArg (fun z => Value.slice z _ _) hA17) rfl (by omega) (by omega) <| fa T.fld36_5 rfl <| lI T.one3 rfl (hC18.at (j := 5) rfl) <| aI rfl <| en <| sr rfl <| fa T.fld24_0 rfl <| lL T.one22 rfl (hb4.cell rfl) <| mI rfl ?_
     obtain ⟨lb27, _, vs26, hA23, hR25, hC24⟩ := hT.at (i := (y.up.toNat)) (x := u) (hu)
     obtain ⟨K28, cK28, rfl, hk1_28, hk2_28, hk3_28⟩ := hR25
     refine Wp rfl <| st_indexAddr T.u22 T.size36 (congrArg (fun z => Value.slice z _ _) hA23) rfl (by omega) (by omega) <| fa T.fld36_4 rfl <| lL T.one34 rfl (hC24.at (j := 4) rfl) <| aL rfl <| en <| x_seq <| sr rfl <| aI rfl <| en <| x_block <| x_loop (ι := Nat × Bytes) [5, 9, 46, 47, 48, 49, 50, 51, 52, 53, 54, 55, 56, 57, 58, 59, 60, 61, 62, 63, 64, 65, 66] (fun ⟨m, q⟩ => [(5, S q), (9, .int .i64 (m : Int))]) (fun ⟨m, q⟩ W => (m ≤ u.kids.length ∧ q.length ≤ s.length + m * 65) ∧ (Chg [] w W) ∧ (Sl inE W (fun k => k < w.heap.size) An Z) ∧ (Blk W b2 [.slice An Z.length capn, .int .i64 mx, .int .i64 my] 24) ∧ (Sl keE W (fun k => k < w.heap.size) K13 x.kids) ∧ (Sl keE W (fun k => k < w.heap.size) K22 y.kids) ∧ (Sl keE W (fun k => k < w.heap.size) K28 u.kids)) (fun ⟨m, q⟩ => u.kids.length - m) (0, s) ?_ ?_ ?_
     · exact ⟨rfl, rfl, trivial⟩
     ·refine ⟨?_, HC, hT, hb4, hk3_13, hk3_22, hk3_28⟩
      exact ⟨Nat.zero_le _, Nat.le_refl _⟩
     intro ⟨m, q⟩ G30 w29 ⟨⟨hm, hq⟩, HC, hT, hb4, hk3_13, hk3_22, hk3_28⟩
     change wp _ _ _ _ _ (upds (over _ _ G30) [(5, S q), (9, .int .i64 (m : Int))]) _ _
     refine x_seq <| sr rfl <| mI rfl <| mL rfl <| Wp rfl <| st_len (ct := #[34]) (by rw [show ((#[34] : Array TypeId)[0]?).bind Tryz.prog.underlying = some (.slice 38) from T.u34]; rfl) rfl <| Wp rfl <| st_lss rfl rfl <| en <| x_cond rfl (fun h2 => ?_) (fun h2 => ?_)
     ·try simp only [nm, ne_eq] at h2
      refine x_skip <| then_n <| x_seq <| x_block <| x_seq ?_
      obtain ⟨e, he⟩ : ∃ e, u.kids[m]? = some e := ⟨_, List.getElem?_eq_getElem (by omega)⟩
      have hen := (hun e (List.mem_of_getElem? he)).2
      refine x_region rfl <| mL rfl <| mI rfl ?_
      obtain ⟨lb35, _, vs34, hA31, hR33, hC32⟩ := hk3_28.at (i := m) (x := e) (he)
      obtain rfl : vs34 = [S e.1, .int .i64 e.2] := hR33
      refine Wp rfl <| st_indexAddr T.u34 T.size38 (congrArg (fun z => Value.slice z _ _) hA31) rfl (by omega) (by omega) <| fa T.fld38_1 rfl <| lI T.one3 rfl (hC32.at (j := 1) rfl) <| mI rfl <| Wp rfl <| st_eql rfl rfl <| en <| x_cond rfl (fun h3 => ?_) (fun h3 => ?_)
      ·try simp only [nm, ne_eq] at h3
       refine x_region rfl <| mL rfl <| mI rfl ?_
       obtain ⟨lb40, _, vs39, hA36, hR38, hC37⟩ := hk3_28.at (i := m) (x := e) (he)
       obtain rfl : vs39 = [S e.1, .int .i64 e.2] := hR38
       refine Wp rfl <| st_indexAddr T.u34 T.size38 (congrArg (fun z => Value.slice z _ _) hA36) rfl (by omega) (by omega) <| fa T.fld38_0 rfl <| lS T.one9 rfl (hC37.at (j := 0) rfl) <| Wp rfl <| st_sadd rfl rfl (by (try simp only [List.length_append, List.length_cons, List.length_nil] at *); omega) <| mS rfl <| Wp rfl <| st_sadd rfl rfl (by (try simp only [List.length_append, List.length_cons, List.length_nil] at *); omega) <| aS rfl <| wops_nil <| block_n <| then_n <| x_region rfl <| mI rfl <| Wp rfl <| st_addn rfl rfl (by constructor <;> omega) <| aI rfl <| en <| ⟨(m + 1, ([47] ++ e.1 ++ q)), ?_, ?_, rfl, ⟨rfl, rfl, trivial⟩, ?_⟩
       ·refine ⟨?_, HC, hT, hb4, hk3_13, hk3_22, hk3_28⟩
        exact ⟨by omega, by simp only [List.length_append, List.length_cons, List.length_nil]; omega⟩
       ·show u.kids.length - (m + 1) < u.kids.length - m; omega
       exact q9
      ·try simp only [nm, ne_eq] at h3
       refine x_skip <| block_n <| then_n <| x_region rfl <| mI rfl <| Wp rfl <| st_addn rfl rfl (by constructor <;> omega) <| aI rfl <| en <| ⟨(m + 1, q), ?_, ?_, rfl, ⟨rfl, rfl, trivial⟩, ?_⟩
       ·refine ⟨?_, HC, hT, hb4, hk3_13, hk3_22, hk3_28⟩
        exact ⟨by omega, by omega⟩
       ·show u.kids.length - (m + 1) < u.kids.length - m; omega
       exact q9
     ·try simp only [nm, ne_eq] at h2
      refine x_exit <| then_x <| then_x <| block_x <| then_n <| x_region rfl <| mI rfl <| aI rfl <| wops_nil <| block_n <| then_n <| x_region rfl <| mI rfl <| Wp rfl <| st_addn rfl rfl (by constructor <;> omega) <| aI rfl <| en <| ⟨(i + 1, y.up, q), ?_, ?_, rfl, ⟨rfl, rfl, rfl, trivial⟩, ?_⟩
      ·refine ⟨?_, HC, hT, hb4, hk3_13⟩
       exact ⟨by omega, hud, by omega⟩
      ·show Z.length + 2 - (i + 1) < Z.length + 2 - i; omega
      exact q9
    ·try simp only [nm, ne_eq] at h1
     refine x_exit <| then_x <| then_x <| block_x <| then_n <| x_seq <| sr rfl <| mS rfl <| Wp rfl <| st_seql rfl rfl <| en <| x_cond rfl (fun h4 => ?_) (fun h4 => ?_)
     ·try simp only [nm, ne_eq] at h4
      refine sr rfl <| aS rfl <| en <| x_ret <| then_r <| ret_tmp (v := S _) rfl rfl ?_
      exact ⟨⟨_, rfl, fun _ => hkd⟩, HC⟩
     ·try simp only [nm, ne_eq] at h4
      refine x_skip <| then_n <| sr rfl <| mS rfl <| aS rfl <| en <| x_ret <| ret_tmp (v := S _) rfl rfl ?_
      exact ⟨⟨_, rfl, fun _ => hkd⟩, HC⟩
   ·try simp only [nm, ne_eq] at g16
    iterate 5 refine w_no 2 25 true ?_
    refine pF rfl rfl <| en <| x_cond (t := false) rfl (fun h1 => ?_) (fun h1 => ?_)
    · exact absurd h1 (by decide)
    refine x_exit <| then_x <| then_x <| block_x <| then_n <| x_seq <| sr rfl <| mS rfl <| Wp rfl <| st_seql rfl rfl <| en <| x_cond rfl (fun h4 => ?_) (fun h4 => ?_)
    ·try simp only [nm, ne_eq] at h4
     refine sr rfl <| aS rfl <| en <| x_ret <| then_r <| ret_tmp (v := S _) rfl rfl ?_
     exact ⟨⟨_, rfl, fun _ => hkd⟩, HC⟩
    ·try simp only [nm, ne_eq] at h4
     refine x_skip <| then_n <| sr rfl <| mS rfl <| aS rfl <| en <| x_ret <| ret_tmp (v := S _) rfl rfl ?_
     exact ⟨⟨_, rfl, fun _ => hkd⟩, HC⟩
open Go Go.Proofs Go.RowKit
set_option maxHeartbeats 1600000 in
theorem GlobAll_spec {Z : Tre} {An : Option Addr} {capn : Nat} {mx my : Int} {cwd : Int} {D : Nat → Prop} {w : World} (hT : Sl inE w D An Z) (hTl : Z.length ≤ 9223372036854775807) (hD : ∀ x, x ∈ Z → x.data.length ≤ 140737488351232 ∧ ∀ p, p ∈ x.kids → p.1.length ≤ 140737488351232) (hmx : MaxT w) : CallR Tryz.prog 4 #[.agg ⟨[.slice An Z.length capn, .int .i64 mx, .int .i64 my]⟩, .int .i64 cwd] w fun v w' => v = .bool true ∧ Chg [] w w' := by
 replace hT := hT.mono (D' := fun k => k < w.heap.size) (fun k hk _ => hk)
 refine callR_of_wp (args := [_, _]) Tryz.func4 rfl (Nat.le_of_ble_eq_true rfl) ?_
 have HC : Chg [] w w := .refl _
 have hm1 := hmx.lt
 refine sr rfl <| Wp rfl <| st_box (v := .agg ⟨[.slice _ _ _, .int _ _, .int _ _]⟩) (vs := [_, _, _]) rfl rfl ?_
 intro b2 w1 e2 c3 hb4
 have ge_b2 := gB e2 HC.size
 replace HC := HC.then c3
 replace hT := hT.tr0 c3
 replace hmx := hmx.tr0 c3
 clear e2
 refine aB rfl <| en <| x_seq <| sr rfl <| Wp rfl <| st_loadA (vs := [_, _, _]) T.agg24 rfl (hb4.cells (n := 3) (vs := [_, _, _]) rfl) rfl <| Wp rfl <| st_call (ags := [_, _]) rfl rfl T.ent6 rfl (good11_spec (l := []) (A := none) (c := 0) (Dl := fun _ => False) hT hTl hD (.inl rfl) (by intro s hs; cases hs) (by simp)) ?_
 rintro _ w5 ⟨⟨bg, rfl, hgp⟩, c6⟩
 replace HC := HC.then c6
 replace hT := hT.tr0 c6
 replace hmx := hmx.tr0 c6
 replace hb4 := hb4.tr0 c6
 refine Wp rfl <| st_not rfl <| mB rfl <| w_split (d := 11) rfl (fun g7 => ?_) (fun g7 => ?_)
 ·try simp only [nm, ne_eq] at g7
  iterate 4 refine w_no 3 11 false ?_
  refine pT rfl rfl <| mB rfl ?_
  iterate 4 refine w_no 9 17 false ?_
  refine pT rfl rfl <| en <| x_cond (t := true) rfl (fun h0 => ?_) (fun h0 => ?_)
  rotate_left
  · exact absurd h0 (by decide)
  refine sr rfl <| Wp rfl <| st_call (ags := []) rfl rfl T.ent8 rfl (awake11_spec hmx) ?_
  rintro _ w8 ⟨rfl, c9⟩
  replace HC := HC.then c9
  refine aB rfl <| en <| x_ret <| then_r <| ret_tmp (v := .bool _) rfl rfl ?_
  exact ⟨rfl, HC⟩
 ·try simp only [nm, ne_eq] at g7
  have hgg : bg = true := by first | assumption | simp_all
  obtain ⟨hF, hN, _⟩ := hgp hgg
  have hTl2 : Z.length ≤ 1000000000 := by have := hF.few; omega
  refine w_yes 3 11 false <| st_loadA (vs := [_, _, _]) T.agg24 rfl (hb4.cells (n := 3) (vs := [_, _, _]) rfl) rfl <| w_yes 3 11 false <| st_move (v := .int _ _) rfl <| w_yes 3 11 false <| st_call (ags := [_, _]) rfl rfl T.ent12 rfl (Place_spec hT hTl2 hF hN cwd) ?_
  rintro _ w10 ⟨⟨sp, rfl, hsp⟩, c11⟩
  replace HC := HC.then c11
  replace hT := hT.tr0 c11
  replace hmx := hmx.tr0 c11
  replace hb4 := hb4.tr0 c11
  refine w_yes 3 11 false <| st_seql rfl rfl <| pF rfl rfl <| mB rfl <| w_split (d := 17) rfl (fun g12 => ?_) (fun g12 => ?_)
  ·try simp only [nm, ne_eq] at g12
   iterate 4 refine w_no 9 17 false ?_
   refine pT rfl rfl <| en <| x_cond (t := true) rfl (fun h0 => ?_) (fun h0 => ?_)
   rotate_left
   · exact absurd h0 (by decide)
   refine sr rfl <| Wp rfl <| st_call (ags := []) rfl rfl T.ent8 rfl (awake11_spec hmx) ?_
   rintro _ w13 ⟨rfl, c14⟩
   replace HC := HC.then c14
   refine aB rfl <| en <| x_ret <| then_r <| ret_tmp (v := .bool _) rfl rfl ?_
   exact ⟨rfl, HC⟩
  ·try simp only [nm, ne_eq] at g12
   have hdc : dirV Z cwd = true := hsp (by first | assumption | simp_all)
   refine w_yes 9 17 false <| st_loadA (vs := [_, _, _]) T.agg24 rfl (hb4.cells (n := 3) (vs := [_, _, _]) rfl) rfl <| w_yes 9 17 false <| st_move (v := .int _ _) rfl <| w_yes 9 17 false <| st_call (ags := [_, _, _]) rfl rfl T.ent13 rfl (RMay_spec hT hTl2 hF cwd 5 (.inr (.inr (.inr rfl)))) ?_
   rintro _ w15 ⟨rfl, c16⟩
   replace HC := HC.then c16
   replace hT := hT.tr0 c16
   replace hmx := hmx.tr0 c16
   replace hb4 := hb4.tr0 c16
   refine w_yes 9 17 false <| st_not rfl <| pF rfl rfl <| en <| x_cond rfl (fun h0 => ?_) (fun h0 => ?_)
   ·try simp only [nm, ne_eq] at h0
    refine sr rfl <| Wp rfl <| st_call (ags := []) rfl rfl T.ent8 rfl (awake11_spec hmx) ?_
    rintro _ w17 ⟨rfl, c18⟩
    replace HC := HC.then c18
    refine aB rfl <| en <| x_ret <| then_r <| ret_tmp (v := .bool _) rfl rfl ?_
    exact ⟨rfl, HC⟩
   ·try simp only [nm, ne_eq] at h0
    have hmc : mayV Z cwd 5 = true := by first | assumption | simp_all
    obtain ⟨hj0, hj1⟩ := dir_in hdc
    obtain ⟨x, hx, hio⟩ := ino_some (Z := Z) (k := cwd) (by omega) (by omega)
    have hkx : kidsV Z cwd = x.kids := by unfold kidsV; rw [hio]; rfl
    obtain ⟨_, hkl, _⟩ := hF.kids x (List.mem_of_getElem? hx)
    have hun := hN x (List.mem_of_getElem? hx)
    refine x_skip <| then_n <| sr rfl <| aL rfl <| en <| x_seq <| sr rfl <| fa T.fld24_0 rfl <| lL T.one22 rfl (hb4.cell rfl) <| mI rfl ?_
    obtain ⟨lb23, _, vs22, hA19, hR21, hC20⟩ := hT.at (i := (cwd.toNat)) (x := x) (hx)
    obtain ⟨K24, cK24, rfl, hk1_24, hk2_24, hk3_24⟩ := hR21
    refine Wp rfl <| st_indexAddr T.u22 T.size36 (congrArg (fun z => Value.slice z _ _) hA19) rfl (by omega) (by omega) <| fa T.fld36_4 rfl <| lL T.one34 rfl (hC20.at (j := 4) rfl) <| Wp rfl <| st_len (ct := #[34]) (by rw [show ((#[34] : Array TypeId)[0]?).bind Tryz.prog.underlying = some (.slice 38) from T.u34]; rfl) rfl <| mI rfl <| en <| x_block <| x_loop (ι := Nat × List Bytes × Option Addr × Nat) [5, 7, 31, 32, 33, 34, 35, 36, 37, 38, 39, 40, 41, 42, 43, 44] (fun ⟨i, out, A, cap⟩ => [(5, .slice A out.length cap), (31, .int .i64 (i : Int))]) (fun ⟨i, out, A, cap⟩ W => (i ≤ x.kids.length ∧ out = wantL (x.kids.take i) ∧ out.length ≤ i) ∧ (Chg [] w W) ∧ (Sl inE W (fun k => k < w.heap.size) An Z) ∧ (MaxT W) ∧ (Blk W b2 [.slice An Z.length capn, .int .i64 mx, .int .i64 my] 24) ∧ (Sl keE W (fun k => k < w.heap.size) K24 x.kids) ∧ (Own sE 9 W (fun k => w.heap.size ≤ k ∧ k ≠ b2) A cap out)) (fun ⟨i, out, A, cap⟩ => x.kids.length - i) (0, [], none, 0) ?_ ?_ ?_
    · exact ⟨rfl, rfl, trivial⟩
    ·refine ⟨?_, HC, hT, hmx, hb4, hk3_24, Own.nil⟩
     exact ⟨Nat.zero_le _, rfl, Nat.le_refl _⟩
    intro ⟨i, out, A, cap⟩ G26 w25 ⟨⟨hi, hout, hol⟩, HC, hT, hmx, hb4, hk3_24, ho⟩
    change wp _ _ _ _ _ (upds (over _ _ G26) [(5, .slice A out.length cap), (31, .int .i64 (i : Int))]) _ _
    refine sr rfl <| Wp rfl <| st_lss rfl rfl <| en <| x_seq <| x_cond rfl (fun h1 => ?_) (fun h1 => ?_)
    ·try simp only [nm, ne_eq] at h1
     refine x_skip <| then_n <| x_seq <| x_block <| x_seq ?_
     obtain ⟨e, he⟩ : ∃ e, x.kids[i]? = some e := ⟨_, List.getElem?_eq_getElem (by omega)⟩
     obtain ⟨hen, hel⟩ := hun e (List.mem_of_getElem? he)
     have hep := List.length_pos_iff.2 hen
     refine x_region rfl ?_
     obtain ⟨lb31, _, vs30, hA27, hR29, hC28⟩ := hk3_24.at (i := i) (x := e) (he)
     obtain rfl : vs30 = [S e.1, .int .i64 e.2] := hR29
     refine Wp rfl <| st_indexAddr T.u34 T.size38 (congrArg (fun z => Value.slice z _ _) hA27) rfl (by omega) (by omega) <| Wp rfl <| st_loadA (vs := [_, _]) T.agg38 rfl hC28 rfl <| Wp rfl <| st_alloc T.zero38 ?_
     intro b7 w32 e33 c34 hb35
     have ge_b7 := gB e33 HC.size
     have ne_b2_b7 := nF e33 hb4.ne_size
     have na_b7 : b7 ∉ ob A := ho.fresh (by rw [e33]; exact Nat.le_refl _)
     replace HC := HC.then c34
     replace hT := hT.tr0 c34
     replace hmx := hmx.tr0 c34
     replace hb4 := hb4.tr0 c34
     replace hk3_24 := hk3_24.tr0 c34
     replace ho := ho.tr0 c34
     clear e33
     refine Wp rfl <| st_st (v := .agg ⟨[_, _]⟩) T.size38 rfl rfl rfl hb35 ?_
     intro w36 c37 hb38; simp only [setVs, setV] at hb38
     clear hb35
     replace HC := HC.then1 c37 ge_b7
     replace hT := hT.tr c37 (by intro k hx hD; simp only [List.mem_cons, List.mem_nil_iff, or_false] at hx; have hD2 : k < w.heap.size := hD; omega)
     replace hmx := hmx.tr c37 q1
     replace hb4 := hb4.tr1 c37 ne_b2_b7
     replace hk3_24 := hk3_24.tr c37 (by intro k hx hD; simp only [List.mem_cons, List.mem_nil_iff, or_false] at hx; have hD2 : k < w.heap.size := hD; omega)
     replace ho := ho.trF flat_flat c37 (by intro k hk hx; simp only [List.mem_cons, List.mem_nil_iff, or_false] at hx; obtain rfl := hx; first | exact na_b7 hk | exact absurd (ho.inD _ hk) (by simp))
     refine en <| sr rfl <| fa T.fld38_0 rfl <| lS T.one9 rfl (hb38.cell rfl) <| Wp rfl <| st_sidx T.u9 rfl rfl (by omega) (by omega) <| Wp rfl <| st_neq rfl rfl <| en <| x_cond rfl (fun h2 => ?_) (fun h2 => ?_)
     ·try simp only [nm, ne_eq] at h2
      refine x_region rfl <| mL rfl <| fa T.fld38_0 rfl <| lS T.one9 rfl (hb38.cell rfl) <| Wp rfl <| st_lit (ps := [(0, .tmp 41)]) (vs := [S _]) T.lit29 (by decide) rfl q6 rfl ?_
      intro b39 w40 e41 c42 hb43
      have ge_b39 := gB e41 HC.size
      have ne_b2_b39 := nF e41 hb4.ne_size
      have ne_b7_b39 := nF e41 hb38.ne_size
      have na_b39 : b39 ∉ ob A := ho.fresh (by rw [e41]; exact Nat.le_refl _)
      replace HC := HC.then c42
      replace hT := hT.tr0 c42
      replace hmx := hmx.tr0 c42
      replace hb4 := hb4.tr0 c42
      replace hk3_24 := hk3_24.tr0 c42
      replace ho := ho.tr0 c42
      clear e41
      have hszA := HC.size
      refine Wp rfl <| st_append2 (c := sE) (D2 := fun _ => False) (xs := out) (ys := [e.1]) T.slice29 rfl rfl ho rfl rfl (one_elem rfl (hb43.cells (n := 1) rfl)) (fun _ _ h => h.elim) (fun k hk => ⟨by have := HC.size; omega, by have := hb4.lt; omega⟩) q7 q7 ?_
      intro A44 cap45 w46 ho47 c48 hg49
      replace HC := HC.trans c48 (fun k hk => .inr ((ho.inD k hk).1))
      replace hT := hT.tr c48 (by intro k hk hD; have h1 := ho.inD k hk; have hD2 : k < w.heap.size := hD; omega)
      replace hmx := hmx.tr c48 (by intro hx; have h1 := ho.inD _ hx; omega)
      replace hb4 := hb4.tr c48 (fun hx => by first | (have h1 := ho.inD _ hx; omega) | exact na_b2 hx | exact hav _ hx (by simp))
      replace hk3_24 := hk3_24.tr c48 (by intro k hk hD; have h1 := ho.inD k hk; have hD2 : k < w.heap.size := hD; omega)
      refine aL rfl <| wops_nil <| block_n <| then_n <| x_region rfl <| Wp rfl <| st_addn rfl rfl (by constructor <;> omega) <| mI rfl <| en <| ⟨(i + 1, out ++ [e.1], A44, cap45), ?_, ?_, rfl, ⟨rfl, rfl, trivial⟩, ?_⟩
      ·refine ⟨?_, HC, hT, hmx, hb4, hk3_24, ho47⟩
       exact ⟨by omega, by rw [want_step he, if_neg (by first | omega | simp_all), ← hout], by simp only [List.length_append, List.length_cons, List.length_nil]; omega⟩
      ·show x.kids.length - (i + 1) < x.kids.length - i; omega
      exact q9
     ·try simp only [nm, ne_eq] at h2
      refine x_skip <| block_n <| then_n <| x_region rfl <| Wp rfl <| st_addn rfl rfl (by constructor <;> omega) <| mI rfl <| en <| ⟨(i + 1, out, A, cap), ?_, ?_, rfl, ⟨rfl, rfl, trivial⟩, ?_⟩
      ·refine ⟨?_, HC, hT, hmx, hb4, hk3_24, ho⟩
       exact ⟨by omega, by rw [want_step he, if_pos (by first | omega | simp_all), List.append_nil]; exact hout, by omega⟩
      ·show x.kids.length - (i + 1) < x.kids.length - i; omega
      exact q9
    ·try simp only [nm, ne_eq] at h1
     obtain rfl : i = x.kids.length := by omega
     have hw : out = wantL x.kids := by rw [hout, List.take_length]
     have hexp : expandV Z cwd [42] [] = out := by rw [exp_star hF hdc hmc, hkx, hw]
     have hea : expandV Z cwd [42] [49] = [] := exp_all (p := [42])
     refine x_exit <| then_x <| then_x <| block_x <| then_n <| sr rfl <| Wp rfl <| st_loadA (vs := [_, _, _]) T.agg24 rfl (hb4.cells (n := 3) (vs := [_, _, _]) rfl) rfl <| mI rfl <| Wp rfl <| st_call (ags := [_, _, _, _]) rfl rfl T.ent10 rfl (gExpand_spec (cwd := cwd) hT hTl2 hF hN [42] [] hmx (by decide) (by decide)) ?_
     rintro _ w50 ⟨⟨Ea, cea, rfl, hlea, hsa⟩, c51⟩
     replace HC := HC.then c51
     replace hT := hT.tr0 c51
     replace hmx := hmx.tr0 c51
     replace hb4 := hb4.tr0 c51
     replace ho := ho.tr0 c51
     refine mL rfl <| Wp rfl <| st_call (ags := [_, _]) rfl rfl T.ent9 rfl (rsame_spec hsa ho.sl (Nat.le_trans (exp_len _ _ _ _) (by decide)) (by omega)) ?_
     rintro _ w52 ⟨rfl, c53⟩
     replace HC := HC.then c53
     replace hT := hT.tr0 c53
     replace hmx := hmx.tr0 c53
     replace hb4 := hb4.tr0 c53
     refine mB rfl <| w_split (d := 50) rfl (fun g54 => ?_) (fun g54 => ?_)
     ·try simp only [nm, ne_eq] at g54
      refine w_yes 5 50 true <| st_loadA (vs := [_, _, _]) T.agg24 rfl (hb4.cells (n := 3) (vs := [_, _, _]) rfl) rfl <| w_yes 5 50 true <| st_move (v := .int _ _) rfl <| w_yes 5 50 true <| st_call (ags := [_, _, _, _]) rfl rfl T.ent10 rfl (gExpand_spec (cwd := cwd) hT hTl2 hF hN [42] [49] hmx (by decide) (by decide)) ?_
      rintro _ w55 ⟨⟨Eb, ceb, rfl, hleb, hsb⟩, c56⟩
      replace HC := HC.then c56
      replace hmx := hmx.tr0 c56
      refine w_yes 5 50 true <| st_len (ct := #[29]) (by rw [show ((#[29] : Array TypeId)[0]?).bind Tryz.prog.underlying = some (.slice 9) from T.u29]; rfl) rfl <| w_yes 5 50 true <| st_eql rfl rfl <| pT rfl rfl <| mB rfl <| w_split (d := 57) rfl (fun g57 => ?_) (fun g57 => ?_)
      ·try simp only [nm, ne_eq] at g57
       refine w_yes 12 57 true <| st_call (ags := []) rfl rfl T.ent8 rfl (awake11_spec hmx) ?_
       rintro _ w58 ⟨rfl, c59⟩
       replace HC := HC.then c59
       refine pT rfl rfl <| aB rfl <| en <| x_ret <| ret_tmp (v := .bool _) rfl rfl ?_
       exact ⟨rfl, HC⟩
      ·try simp only [nm, ne_eq] at g57
       rw [hea] at g57; simp at g57
     ·try simp only [nm, ne_eq] at g54
      rw [hexp] at g54; simp at g54
end Go.Proofs.YtncnalboiljgiaaGreat.K
