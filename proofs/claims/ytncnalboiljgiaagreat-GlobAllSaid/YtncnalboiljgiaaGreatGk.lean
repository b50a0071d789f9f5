import Derived.Test.YtncnalboiljgiaaGreatKitSq
import Derived.Test.YtncnalboiljgiaaGreatGh
import Derived.Sort.OwnSorted
set_option linter.unusedVariables false
set_option linter.unusedSimpArgs false
set_option autoImplicit false
set_option maxRecDepth 20000
namespace Go.Proofs.YtncnalboiljgiaaGreat.K
open Go Go.Proofs Go.RowKit
theorem dirG_eq {Z : Tre} {cwd : Int} {p q : Bytes} (h : dotV p = q) : dirG Z cwd p = (decide ((walkV Z cwd q true).2 = 0) && decide (kindV Z (walkV Z cwd q true).1 = 2)) := by unfold dirG; rw [h]
theorem behind_a {p n : Bytes} (h : p = [] ∨ Lib.hasSuffix p [47] = true) : behindV p n = p ++ n := by unfold behindV; rw [if_pos h]
theorem behind_b {p n : Bytes} (h : p ≠ []) (h2 : Lib.hasSuffix p [47] = false) : behindV p n = p ++ [47] ++ n := by unfold behindV; rw [if_neg (by rintro (h3 | h3); exact h h3; rw [h2] at h3; cases h3)]
theorem gbehind_spec (p n : Bytes) (w : World) (hp : p.length ≤ 1000000000) (hn : n.length ≤ 1000000000) : CallR Tryz.prog 39 #[S p, S n] w fun v w' => v = S (behindV p n) ∧ Chg [] w w' := by
 refine callR_of_wp (args := [_, _]) Tryz.func39 rfl (Nat.le_of_ble_eq_true rfl) ?_
 have HC : Chg [] w w := .refl _
 refine sr rfl <| aS rfl <| en <| x_seq <| sr rfl <| mS rfl <| Wp rfl <| st_seql rfl rfl <| mB rfl <| w_split (d := 7) rfl (fun g1 => ?_) (fun g1 => ?_)
 ·try simp only [nm, ne_eq] at g1
  refine w_no 2 7 false <| w_no 2 7 false <| pT rfl rfl <| en <| x_cond (t := true) rfl (fun h0 => ?_) (fun h0 => ?_)
  rotate_left
  · exact absurd h0 (by decide)
  refine sr rfl <| mS rfl <| mS rfl <| Wp rfl <| st_sadd rfl rfl (by (try simp only [List.length_append, List.length_cons, List.length_nil] at *); omega) <| aS rfl <| en <| x_ret <| then_r <| ret_tmp (v := S _) rfl rfl ?_
  rw [behind_a (by first | (left; first | assumption | simpa using h0) | (right; first | assumption | simpa using h0) | simp_all)]
  exact ⟨rfl, HC⟩
 ·try simp only [nm, ne_eq] at g1
  refine w_yes 2 7 false <| st_move (v := S _) rfl <| w_yes 2 7 false <| st_call (ags := [_, _]) rfl rfl T.ent19 rfl (HasSuffix_spec p [47] _ (by omega)) ?_
  rintro _ w2 ⟨rfl, c3⟩
  replace HC := HC.then c3
  refine pF rfl rfl <| en <| x_cond rfl (fun h0 => ?_) (fun h0 => ?_)
  ·try simp only [nm, ne_eq] at h0
   refine sr rfl <| mS rfl <| mS rfl <| Wp rfl <| st_sadd rfl rfl (by (try simp only [List.length_append, List.length_cons, List.length_nil] at *); omega) <| aS rfl <| en <| x_ret <| then_r <| ret_tmp (v := S _) rfl rfl ?_
   rw [behind_a (by first | (left; first | assumption | simpa using h0) | (right; first | assumption | simpa using h0) | simp_all)]
   exact ⟨rfl, HC⟩
  ·try simp only [nm, ne_eq] at h0
   refine x_skip <| then_n <| sr rfl <| mS rfl <| Wp rfl <| st_sadd rfl rfl (by (try simp only [List.length_append, List.length_cons, List.length_nil] at *); omega) <| mS rfl <| Wp rfl <| st_sadd rfl rfl (by (try simp only [List.length_append, List.length_cons, List.length_nil] at *); omega) <| aS rfl <| en <| x_ret <| ret_tmp (v := S _) rfl rfl ?_
   rw [behind_b (by first | assumption | simp_all) (by first | assumption | simpa using h0 | simp_all)]
   exact ⟨rfl, HC⟩
theorem gdir_spec {Z : Tre} {An : Option Addr} {capn : Nat} {mx my : Int} {cwd : Int} {D : Nat → Prop} {w : World} (hT : Sl inE w D An Z) (hTl : Z.length ≤ 1000000000) (hF : FitT Z) (p : Bytes) (hmx : MaxT w) (hp : p.length ≤ 140737488355328) : CallR Tryz.prog 21 #[.agg ⟨[.slice An Z.length capn, .int .i64 mx, .int .i64 my, .int .i64 cwd]⟩, S p] w fun v w' => v = .tuple ⟨[.int .i64 (walkV Z cwd (dotV p) true).1, .bool (dirG Z cwd p)]⟩ ∧ Chg [] w w' := by
 replace hT := hT.mono (D' := fun k => k < w.heap.size) (fun k hk _ => hk)
 refine callR_of_wp (args := [_, _]) Tryz.func21 rfl (Nat.le_of_ble_eq_true rfl) ?_
 have HC : Chg [] w w := .refl _
 have hm1 := hmx.lt
 refine sr rfl <| Wp rfl <| st_box (v := .agg ⟨[.slice _ _ _, .int _ _, .int _ _, .int _ _]⟩) (vs := [_, _, _, _]) rfl rfl ?_
 intro b2 w1 e2 c3 hb4
 have ge_b2 := gB e2 HC.size
 replace HC := HC.then c3
 replace hT := hT.tr0 c3
 replace hmx := hmx.tr0 c3
 clear e2
 refine aI rfl <| aB rfl <| en <| x_seq <| sr rfl <| mS rfl <| Wp rfl <| st_seql rfl rfl <| en <| x_cond rfl (fun h0 => ?_) (fun h0 => ?_)
 ·try simp only [nm, ne_eq] at h0
  have hdv : dotV p = [46] := by unfold dotV; rw [if_pos (by first | assumption | simpa using h0)]
  refine x_region rfl <| aS rfl <| en <| sr rfl <| fa T.fld47_0 rfl <| Wp rfl <| st_loadA (vs := [_, _, _]) T.agg24 rfl (hb4.cells (n := 3) (vs := [_, _, _]) rfl) rfl <| fa T.fld47_1 rfl <| lI T.one3 rfl (hb4.cell rfl) <| mS rfl <| Wp rfl <| st_call (ags := [_, _, _, _]) rfl rfl T.ent40 rfl (Walk_spec hT hTl hF cwd ([46]) true hmx (by first | omega | (show 1 ≤ 140737488355328; omega))) ?_
  rintro _ w5 ⟨rfl, c6⟩
  replace HC := HC.then c6
  replace hT := hT.tr0 c6
  replace hb4 := hb4.tr0 c6
  refine mv (v := .tuple ⟨[_, _]⟩) rfl <| Wp rfl <| st_extract (vs := [_, _]) (v := .int _ _) rfl rfl <| Wp rfl <| st_extract (vs := [_, _]) (v := .int _ _) rfl rfl <| aI rfl <| aI rfl <| en <| x_seq ?_
  rcases Decidable.em ((walkV Z cwd ([46]) true).2 = 0) with hok | hok
  ·have hin := walk_inT hF (show (walkV Z cwd ([46]) true).2 = 0 by first | assumption | simpa using (by assumption : decide ((walkV Z cwd ([46]) true).2 = 0) = true))
   obtain ⟨x, hx, hxk, hxd, _⟩ := kind_dir hin
   obtain ⟨lb11, _, vs10, hA7, hR9, hC8⟩ := hT.at (i := ((walkV Z cwd ([46]) true).1.toNat)) (x := x) (hx)
   obtain ⟨K12, cK12, rfl, hk1_12, hk2_12, hk3_12⟩ := hR9
   refine x_draw [(0, 0), (1, 0), (2, 0), (3, 0), (4, 0), (5, 0), (6, 0), (7, 0), (8, 0), (9, 0), (10, 0), (11, 0), (12, 0), (13, 0), (14, 0)] T.mixed rfl rfl rfl (fun W => W.heap[b2]? = w5.heap[b2]? ∧ W.heap[lb11]? = w5.heap[lb11]? ∧ True) ⟨rfl, rfl, trivial⟩ ?_
   have o15 := hb4
   have c14 := Chg.drew w5
   generalize World.drew w5 = w13 at c14 ⊢
   have ht_lb11 : lb11 < w13.heap.size ∧ w13.heap[lb11]? = w5.heap[lb11]? := ⟨Nat.lt_of_lt_of_le hC8.lt c14.size, c14.block lb11 hC8.lt (by simp)⟩
   replace HC := HC.then c14
   replace hT := hT.tr0 c14
   refine sq_q rfl (fun W hT => r_move (v := .int _ _) rfl) <| sq_q rfl (fun W hT => r_move (v := .int _ _) rfl) <| sq_q rfl (fun W hT => r_eql rfl rfl) <| sq_q rfl (fun W hT => r_move (v := .bool _) rfl) <| sq_split (d := 22) rfl (fun g16 => ?_) (fun g16 => ?_)
   ·try simp only [nm, ne_eq] at g16
    refine sq_q rfl (fun W hT => r_fieldAddr T.fld47_0 rfl) <| sq_q rfl (fun W hT => r_fieldAddr T.fld24_0 rfl) <| sq_q rfl (fun W hT => r_load1 (v := .slice _ _ _) T.one22 rfl (Blk.cell (show Blk W b2 _ _ from hT.1.trans o15) rfl)) <| sq_q rfl (fun W hT => r_move (v := .int _ _) rfl) <| sq_q rfl (fun W hT => r_indexAddr T.u22 T.size36 (congrArg (fun z => Value.slice z _ _) hA7) rfl (by omega) (by omega)) <| sq_q rfl (fun W hT => r_fieldAddr T.fld36_0 rfl) <| sq_q rfl (fun W hT => r_load1 (v := .int _ _) T.one3 rfl (Cells.at (j := 0) (Cells.tr hC8 hT.2.1) rfl)) <| sq_q rfl (fun W hT => r_eql rfl rfl) <| sq_q rfl (fun W hT => r_pick (b := true) (v := .bool _) rfl rfl) <| sq_q rfl (fun W hT => r_assign (v := .int _ _) rfl) <| sq_q rfl (fun W hT => r_assign (v := .bool _) rfl) ?_
    clear o15
    refine sq_nil <| then_n <| x_ret <| ret_tmp2 (v := .int _ _) (v2 := .bool _) rfl rfl rfl ?_
    rw [dirG_eq hdv, hdv]
    rw [hxk]
    refine ⟨?_, HC⟩
    rw [decide_eq_true hok, Bool.true_and]
   ·try simp only [nm, ne_eq] at g16
    exact absurd hok (by first | exact g16 | simpa using g16)
  ·refine x_draw [(0, 0), (1, 0), (2, 0), (3, 0), (4, 0), (5, 0), (6, 0), (7, 0), (8, 0), (9, 0), (10, 0), (11, 0), (12, 0), (13, 0), (14, 0)] T.mixed rfl rfl rfl (fun W => W.heap[b2]? = w5.heap[b2]? ∧ True) ⟨rfl, trivial⟩ ?_
   have o19 := hb4
   have c18 := Chg.drew w5
   generalize World.drew w5 = w17 at c18 ⊢
   replace HC := HC.then c18
   replace hT := hT.tr0 c18
   refine sq_q rfl (fun W hT => r_move (v := .int _ _) rfl) <| sq_q rfl (fun W hT => r_move (v := .int _ _) rfl) <| sq_q rfl (fun W hT => r_eql rfl rfl) <| sq_q rfl (fun W hT => r_move (v := .bool _) rfl) <| sq_split (d := 22) rfl (fun g20 => ?_) (fun g20 => ?_)
   ·try simp only [nm, ne_eq] at g20
    exact absurd (by first | exact g20 | simpa using g20) hok
   ·try simp only [nm, ne_eq] at g20
    refine sq_no rfl rfl <| sq_no rfl rfl <| sq_no rfl rfl <| sq_no rfl rfl <| sq_no rfl rfl <| sq_no rfl rfl <| sq_no rfl rfl <| sq_no rfl rfl <| sq_q rfl (fun W hT => r_pick (b := false) (v := .bool _) rfl rfl) <| sq_q rfl (fun W hT => r_assign (v := .int _ _) rfl) <| sq_q rfl (fun W hT => r_assign (v := .bool _) rfl) ?_
    clear o19
    refine sq_nil <| then_n <| x_ret <| ret_tmp2 (v := .int _ _) (v2 := .bool _) rfl rfl rfl ?_
    rw [dirG_eq hdv, hdv]
    refine ⟨?_, HC⟩
    rw [decide_eq_false hok, Bool.false_and]
 ·try simp only [nm, ne_eq] at h0
  have hdv : dotV p = p := by unfold dotV; rw [if_neg (by first | assumption | simpa using h0)]
  refine x_skip <| then_n <| sr rfl <| fa T.fld47_0 rfl <| Wp rfl <| st_loadA (vs := [_, _, _]) T.agg24 rfl (hb4.cells (n := 3) (vs := [_, _, _]) rfl) rfl <| fa T.fld47_1 rfl <| lI T.one3 rfl (hb4.cell rfl) <| mS rfl <| Wp rfl <| st_call (ags := [_, _, _, _]) rfl rfl T.ent40 rfl (Walk_spec hT hTl hF cwd (p) true hmx (by first | omega | (show 1 ≤ 140737488355328; omega))) ?_
  rintro _ w21 ⟨rfl, c22⟩
  replace HC := HC.then c22
  replace hT := hT.tr0 c22
  replace hb4 := hb4.tr0 c22
  refine mv (v := .tuple ⟨[_, _]⟩) rfl <| Wp rfl <| st_extract (vs := [_, _]) (v := .int _ _) rfl rfl <| Wp rfl <| st_extract (vs := [_, _]) (v := .int _ _) rfl rfl <| aI rfl <| aI rfl <| en <| x_seq ?_
  rcases Decidable.em ((walkV Z cwd (p) true).2 = 0) with hok | hok
  ·have hin := walk_inT hF (show (walkV Z cwd (p) true).2 = 0 by first | assumption | simpa using (by assumption : decide ((walkV Z cwd (p) true).2 = 0) = true))
   obtain ⟨x, hx, hxk, hxd, _⟩ := kind_dir hin
   obtain ⟨lb27, _, vs26, hA23, hR25, hC24⟩ := hT.at (i := ((walkV Z cwd (p) true).1.toNat)) (x := x) (hx)
   obtain ⟨K28, cK28, rfl, hk1_28, hk2_28, hk3_28⟩ := hR25
   refine x_draw [(0, 0), (1, 0), (2, 0), (3, 0), (4, 0), (5, 0), (6, 0), (7, 0), (8, 0), (9, 0), (10, 0), (11, 0), (12, 0), (13, 0), (14, 0)] T.mixed rfl rfl rfl (fun W => W.heap[b2]? = w21.heap[b2]? ∧ W.heap[lb27]? = w21.heap[lb27]? ∧ True) ⟨rfl, rfl, trivial⟩ ?_
   have o31 := hb4
   have c30 := Chg.drew w21
   generalize World.drew w21 = w29 at c30 ⊢
   have ht_lb27 : lb27 < w29.heap.size ∧ w29.heap[lb27]? = w21.heap[lb27]? := ⟨Nat.lt_of_lt_of_le hC24.lt c30.size, c30.block lb27 hC24.lt (by simp)⟩
   replace HC := HC.then c30
   replace hT := hT.tr0 c30
   refine sq_q rfl (fun W hT => r_move (v := .int _ _) rfl) <| sq_q rfl (fun W hT => r_move (v := .int _ _) rfl) <| sq_q rfl (fun W hT => r_eql rfl rfl) <| sq_q rfl (fun W hT => r_move (v := .bool _) rfl) <| sq_split (d := 22) rfl (fun g32 => ?_) (fun g32 => ?_)
   ·try simp only [nm, ne_eq] at g32
    refine sq_q rfl (fun W hT => r_fieldAddr T.fld47_0 rfl) <| sq_q rfl (fun W hT => r_fieldAddr T.fld24_0 rfl) <| sq_q rfl (fun W hT => r_load1 (v := .slice _ _ _) T.one22 rfl (Blk.cell (show Blk W b2 _ _ from hT.1.trans o31) rfl)) <| sq_q rfl (fun W hT => r_move (v := .int _ _) rfl) <| sq_q rfl (fun W hT => r_indexAddr T.u22 T.size36 (congrArg (fun z => Value.slice z _ _) hA23) rfl (by omega) (by omega)) <| sq_q rfl (fun W hT => r_fieldAddr T.fld36_0 rfl) <| sq_q rfl (fun W hT => r_load1 (v := .int _ _) T.one3 rfl (Cells.at (j := 0) (Cells.tr hC24 hT.2.1) rfl)) <| sq_q rfl (fun W hT => r_eql rfl rfl) <| sq_q rfl (fun W hT => r_pick (b := true) (v := .bool _) rfl rfl) <| sq_q rfl (fun W hT => r_assign (v := .int _ _) rfl) <| sq_q rfl (fun W hT => r_assign (v := .bool _) rfl) ?_
    clear o31
    refine sq_nil <| then_n <| x_ret <| ret_tmp2 (v := .int _ _) (v2 := .bool _) rfl rfl rfl ?_
    rw [dirG_eq hdv, hdv]
    rw [hxk]
    refine ⟨?_, HC⟩
    rw [decide_eq_true hok, Bool.true_and]
   ·try simp only [nm, ne_eq] at g32
    exact absurd hok (by first | exact g32 | simpa using g32)
  ·refine x_draw [(0, 0), (1, 0), (2, 0), (3, 0), (4, 0), (5, 0), (6, 0), (7, 0), (8, 0), (9, 0), (10, 0), (11, 0), (12, 0), (13, 0), (14, 0)] T.mixed rfl rfl rfl (fun W => W.heap[b2]? = w21.heap[b2]? ∧ True) ⟨rfl, trivial⟩ ?_
   have o35 := hb4
   have c34 := Chg.drew w21
   generalize World.drew w21 = w33 at c34 ⊢
   replace HC := HC.then c34
   replace hT := hT.tr0 c34
   refine sq_q rfl (fun W hT => r_move (v := .int _ _) rfl) <| sq_q rfl (fun W hT => r_move (v := .int _ _) rfl) <| sq_q rfl (fun W hT => r_eql rfl rfl) <| sq_q rfl (fun W hT => r_move (v := .bool _) rfl) <| sq_split (d := 22) rfl (fun g36 => ?_) (fun g36 => ?_)
   ·try simp only [nm, ne_eq] at g36
    exact absurd (by first | exact g36 | simpa using g36) hok
   ·try simp only [nm, ne_eq] at g36
    refine sq_no rfl rfl <| sq_no rfl rfl <| sq_no rfl rfl <| sq_no rfl rfl <| sq_no rfl rfl <| sq_no rfl rfl <| sq_no rfl rfl <| sq_no rfl rfl <| sq_q rfl (fun W hT => r_pick (b := false) (v := .bool _) rfl rfl) <| sq_q rfl (fun W hT => r_assign (v := .int _ _) rfl) <| sq_q rfl (fun W hT => r_assign (v := .bool _) rfl) ?_
    clear o35
    refine sq_nil <| then_n <| x_ret <| ret_tmp2 (v := .int _ _) (v2 := .bool _) rfl rfl rfl ?_
    rw [dirG_eq hdv, hdv]
    refine ⟨?_, HC⟩
    rw [decide_eq_false hok, Bool.false_and]
theorem gbelow_spec (x : Gp) (p : Bytes) {An : Option Addr} {capn m : Nat} {mx my cwd : Int} (w : World) : CallR Tryz.prog 20 #[.agg ⟨[.slice An m capn, .int .i64 mx, .int .i64 my, .int .i64 cwd]⟩, S p, .agg ⟨[S x.1, S x.2]⟩] w fun v w' => (∃ bf bp bx, v = .func (.func 38) #[] #[.pointer (some ⟨bx, 0, none⟩), .pointer (some ⟨bp, 0, none⟩), .pointer (some ⟨bf, 0, none⟩)] ∧ (w.heap.size ≤ bf ∧ w.heap.size ≤ bp ∧ w.heap.size ≤ bx) ∧ Blk w' bf [.slice An m capn, .int .i64 mx, .int .i64 my, .int .i64 cwd] 47 ∧ Blk w' bp [S p] 9 ∧ Blk w' bx [S x.1, S x.2] 51) ∧ Chg [] w w' := by
 refine callR_of_wp (args := [_, _, _]) Tryz.func20 rfl (Nat.le_of_ble_eq_true rfl) ?_
 have HC : Chg [] w w := .refl _
 refine sr rfl <| Wp rfl <| st_box (v := .agg ⟨[.slice _ _ _, .int _ _, .int _ _, .int _ _]⟩) (vs := [_, _, _, _]) rfl rfl ?_
 intro bf w1 e2 c3 hb4
 have ge_bf := gB e2 HC.size
 replace HC := HC.then c3
 clear e2
 refine Wp rfl <| st_box (v := S _) (vs := [_]) rfl rfl ?_
 intro bp w5 e6 c7 hb8
 have ge_bp := gB e6 HC.size
 have ne_bf_bp := nF e6 hb4.ne_size
 replace HC := HC.then c7
 replace hb4 := hb4.tr0 c7
 clear e6
 refine Wp rfl <| st_box (v := .agg ⟨[S _, S _]⟩) (vs := [_, _]) rfl rfl ?_
 intro bx w9 e10 c11 hb12
 have ge_bx := gB e10 HC.size
 have ne_bf_bx := nF e10 hb4.ne_size
 have ne_bp_bx := nF e10 hb8.ne_size
 replace HC := HC.then c11
 replace hb4 := hb4.tr0 c11
 replace hb8 := hb8.tr0 c11
 clear e10
 refine av (v := .nilFunc) rfl <| en <| sr rfl <| Wp rfl <| st_makeFunc <| av (v := .func _ _ _) rfl <| en <| x_ret <| ret_tmp (v := .func _ _ _) rfl rfl ?_
 exact ⟨⟨bf, bp, bx, rfl, ⟨ge_bf, ge_bp, ge_bx⟩, hb4, hb8, hb12⟩, HC⟩
open Go Go.Proofs Go.RowKit
def SzF (w0 W : World) : Prop := w0.heap.size ≤ W.heap.size
theorem SzF.size {w0 W : World} (h : SzF w0 W) : w0.heap.size ≤ W.heap.size := h
theorem SzF.tr {w0 W W' : World} {bs : List Nat} (h : SzF w0 W) (c : Chg bs W W') : SzF w0 W' := Nat.le_trans h c.size
theorem below_plain {Z : Tre} {cwd : Int} {p : Bytes} {x : Gp} (h : magicV x.1 x.2 = false) : belowG Z cwd p x = if (walkV Z cwd (behindV p x.1) false).2 = 0 then [behindV p x.1] else [] := by unfold belowG; rw [if_pos h]
theorem below_no {Z : Tre} {cwd : Int} {p : Bytes} {x : Gp} (h : magicV x.1 x.2 = true) (h2 : dirG Z cwd p = false ∨ mayV Z (walkV Z cwd (dotV p) true).1 4 = false) : belowG Z cwd p x = [] := by unfold belowG; rw [if_neg (by rw [h]; simp), if_pos h2]
theorem below_kids {Z : Tre} {cwd : Int} {p : Bytes} {x : Gp} {nd : Ino} (h : magicV x.1 x.2 = true) (h2 : dirG Z cwd p = true) (h3 : mayV Z (walkV Z cwd (dotV p) true).1 4 = true) (h4 : inoV Z (walkV Z cwd (dotV p) true).1 = some nd) : belowG Z cwd p x = (nd.kids.filter (showB x)).map fun e => behindV p e.1 := by
  unfold belowG; rw [if_neg (by rw [h]; simp), if_neg (by rintro (h5 | h5); rw [h2] at h5; cases h5; rw [h3] at h5; cases h5)]
  unfold kidsV; rw [h4]; rfl
theorem kids_on {l : List Ke} {x : Gp} {p : Bytes} {i : Nat} {e : Ke} (h : l[i]? = some e) (hs : showB x e = true) : ((l.drop i).filter (showB x)).map (fun e => behindV p e.1) = behindV p e.1 :: ((l.drop (i + 1)).filter (showB x)).map (fun e => behindV p e.1) := by
  rw [drop_some h, List.filter_cons, if_pos hs, List.map_cons]
theorem kids_off {l : List Ke} {x : Gp} {p : Bytes} {i : Nat} {e : Ke} (h : l[i]? = some e) (hs : showB x e = false) : ((l.drop i).filter (showB x)).map (fun e => behindV p e.1) = ((l.drop (i + 1)).filter (showB x)).map (fun e => behindV p e.1) := by
  rw [drop_some h, List.filter_cons, if_neg (by rw [hs]; simp)]
theorem dir_ok {Z : Tre} {cwd : Int} {p : Bytes} (h : dirG Z cwd p = true) : (walkV Z cwd (dotV p) true).2 = 0 := by unfold dirG at h; rw [Bool.and_eq_true, decide_eq_true_eq] at h; exact h.1
set_option maxHeartbeats 800000 in
theorem below_iter {Z : Tre} {An : Option Addr} {capn : Nat} {mx my cwd : Int} {bf bp bx : Nat} {p : Bytes} {x : Gp} {K : Nat → Prop} {w0 w : World} (hTl : Z.length ≤ 1000000000) (hF : FitT Z) (hN : NamesT Z) (hT : Sl inE w (fun k => k < w0.heap.size) An Z) (hf : Blk w bf [.slice An Z.length capn, .int .i64 mx, .int .i64 my, .int .i64 cwd] 47) (hbp : Blk w bp [S p] 9) (hbx : Blk w bx [S x.1, S x.2] 51) (hmx : MaxT w) (hK : ∀ k, k < w0.heap.size → K k) (hKf : K bf) (hKp : K bp) (hKx : K bx) (hM0 : 0 < w0.heap.size) (hw0 : w0.heap.size ≤ w.heap.size) (hp : p.length ≤ 1000000) (hx1 : x.1.length ≤ 1000) (hxn : x.1 ≠ []) :
    Iter Tryz.prog 38 [.pointer (some ⟨bx, 0, none⟩), .pointer (some ⟨bp, 0, none⟩), .pointer (some ⟨bf, 0, none⟩)] [] K (fun s => [S s]) (belowG Z cwd p x) w := by
 intro lp J Jx W hws hk hJm hJxm hR hJ
 replace hf := hf.of_eq (hk _ hf.lt hKf)
 replace hbp := hbp.of_eq (hk _ hbp.lt hKp)
 replace hbx := hbx.of_eq (hk _ hbx.lt hKx)
 replace hmx := hmx.kept (hk _ hmx.lt (hK _ hM0))
 replace hT := hT.keep (fun k h1 hD => hk k h1 (hK k hD)) hws
 have HC : SzF w0 W := Nat.le_trans hw0 hws
 have hxp := List.length_pos_iff.2 hxn
 refine callR_of_wp (args := [_, _, _, _]) Tryz.func38 rfl (Nat.le_of_ble_eq_true rfl) <| x_seq <| sr rfl <| fa T.fld51_0 rfl <| lS T.one9 rfl (hbx.cell rfl) <| fa T.fld51_1 rfl <| lS T.one9 rfl (hbx.cell rfl) <| Wp rfl <| st_call (ags := [_, _]) rfl rfl T.ent17 rfl (gMagic_spec x.1 x.2 _ (by omega)) ?_
 rintro _ w1 ⟨rfl, c2⟩
 replace HC := HC.tr c2
 replace hT := hT.tr0 c2
 replace hmx := hmx.tr0 c2
 replace hf := hf.tr0 c2
 replace hbp := hbp.tr0 c2
 replace hbx := hbx.tr0 c2
 replace hJ := hJm _ _ _ hJ (c2).wide
 refine Wp rfl <| st_not rfl <| en <| x_cond rfl (fun h0 => ?_) (fun h0 => ?_)
 ·try simp only [nm, ne_eq] at h0
  have hmg : magicV x.1 x.2 = false := by first | assumption | simpa using h0
  refine sr rfl <| lS T.one9 rfl (hbp.cell rfl) <| fa T.fld51_0 rfl <| lS T.one9 rfl (hbx.cell rfl) <| Wp rfl <| st_call (ags := [_, _]) rfl rfl T.ent39 rfl (gbehind_spec p x.1 _ (by omega) (by omega)) ?_
  rintro _ w3 ⟨rfl, c4⟩
  replace HC := HC.tr c4
  replace hT := hT.tr0 c4
  replace hmx := hmx.tr0 c4
  replace hf := hf.tr0 c4
  replace hbp := hbp.tr0 c4
  replace hbx := hbx.tr0 c4
  replace hJ := hJm _ _ _ hJ (c4).wide
  refine aS rfl <| en <| x_seq <| x_seq ?_
  have hbl := behind_len p x.1
  refine x_region rfl <| fa T.fld47_0 rfl <| Wp rfl <| st_loadA (vs := [_, _, _]) T.agg24 rfl (hf.cells (n := 3) (vs := [_, _, _]) rfl) rfl <| fa T.fld47_1 rfl <| lI T.one3 rfl (hf.cell rfl) <| mS rfl <| Wp rfl <| st_call (ags := [_, _, _, _]) rfl rfl T.ent40 rfl (Walk_spec hT hTl hF cwd (behindV p x.1) false hmx (by omega)) ?_
  rintro _ w5 ⟨rfl, c6⟩
  replace HC := HC.tr c6
  replace hT := hT.tr0 c6
  replace hmx := hmx.tr0 c6
  replace hf := hf.tr0 c6
  replace hbp := hbp.tr0 c6
  replace hbx := hbx.tr0 c6
  replace hJ := hJm _ _ _ hJ (c6).wide
  refine mv (v := .tuple ⟨[_, _]⟩) rfl <| Wp rfl <| st_extract (vs := [_, _]) (v := .int _ _) rfl rfl <| Wp rfl <| st_extract (vs := [_, _]) (v := .int _ _) rfl rfl <| aI rfl <| aI rfl <| en <| sr rfl <| mI rfl <| Wp rfl <| st_eql rfl rfl <| en <| x_cond rfl (fun h1 => ?_) (fun h1 => ?_)
  ·try simp only [nm, ne_eq] at h1
   have hok : (walkV Z cwd (behindV p x.1) false).2 = 0 := by first | assumption | simpa using h1
   refine x_region rfl <| mv (v := .func _ _ _) rfl <| mS rfl <| Wp rfl <| st_yield (vs := [S _]) rfl rfl rfl rfl (hR [] (behindV p x.1) _ _ (by rw [below_plain hmg, if_pos hok]; rfl) hJ) ?_
   rintro _ w7 ⟨hk2, ⟨rfl, hJ2⟩ | ⟨rfl, hJ2⟩⟩
   ·replace HC : SzF w0 w7 := Nat.le_trans HC hk2.1
    replace hT := hT.keep (fun k h1 hD => hk2.2 k (hK k hD) h1) hk2.1
    replace hmx := hmx.kept (hk2.2 _ (hK _ hM0) hmx.lt)
    replace hf := hf.kept hk2 hKf
    replace hbp := hbp.kept hk2 hKp
    replace hbx := hbx.kept hk2 hKx
    refine en <| x_ret <| then_r <| ret_none rfl ?_
    left
    rw [below_plain hmg, if_pos hok]
    exact hJ2
   ·replace HC : SzF w0 w7 := Nat.le_trans HC hk2.1
    replace hT := hT.keep (fun k h1 hD => hk2.2 k (hK k hD) h1) hk2.1
    replace hmx := hmx.kept (hk2.2 _ (hK _ hM0) hmx.lt)
    replace hf := hf.kept hk2 hKf
    replace hbp := hbp.kept hk2 hKp
    replace hbx := hbx.kept hk2 hKx
    refine en <| x_ret <| then_r <| ret_none rfl ?_
    exact .inr ⟨_, hJ2⟩
  ·try simp only [nm, ne_eq] at h1
   have hok : ¬ (walkV Z cwd (behindV p x.1) false).2 = 0 := by first | assumption | simpa using h1
   refine x_skip <| then_n <| x_ret <| then_r <| ret_none rfl ?_
   left
   rw [below_plain hmg, if_neg hok]
   exact hJ
 ·try simp only [nm, ne_eq] at h0
  have hmg : magicV x.1 x.2 = true := by first | assumption | simpa using h0
  refine x_skip <| then_n <| sr rfl <| Wp rfl <| st_loadA (vs := [_, _, _, _]) T.agg47 rfl (hf.cells (n := 4) (vs := [_, _, _, _]) rfl) rfl <| lS T.one9 rfl (hbp.cell rfl) <| Wp rfl <| st_call (ags := [_, _]) rfl rfl T.ent21 rfl (gdir_spec hT hTl hF p hmx (by omega)) ?_
  rintro _ w8 ⟨rfl, c9⟩
  replace HC := HC.tr c9
  replace hT := hT.tr0 c9
  replace hmx := hmx.tr0 c9
  replace hf := hf.tr0 c9
  replace hbp := hbp.tr0 c9
  replace hbx := hbx.tr0 c9
  replace hJ := hJm _ _ _ hJ (c9).wide
  refine mv (v := .tuple ⟨[_, _]⟩) rfl <| Wp rfl <| st_extract (vs := [_, _]) (v := .int _ _) rfl rfl <| Wp rfl <| st_extract (vs := [_, _]) (v := .bool _) rfl rfl <| aI rfl <| aB rfl <| en <| x_seq <| sr rfl <| mB rfl <| Wp rfl <| st_not rfl <| mB rfl <| w_split (d := 45) rfl (fun g10 => ?_) (fun g10 => ?_)
  ·try simp only [nm, ne_eq] at g10
   iterate 5 refine w_no 2 45 false ?_
   refine pT rfl rfl <| en <| x_cond (t := true) rfl (fun h2 => ?_) (fun h2 => ?_)
   rotate_left
   · exact absurd h2 (by decide)
   have hno : dirG Z cwd p = false ∨ mayV Z (walkV Z cwd (dotV p) true).1 4 = false := by first | (left; first | assumption | simp_all; done) | (right; first | assumption | simpa using h2)
   refine x_ret <| then_r <| ret_none rfl ?_
   left
   rw [below_no hmg hno]
   exact hJ
  ·try simp only [nm, ne_eq] at g10
   have hdk : dirG Z cwd p = true := by first | assumption | simp_all
   refine w_yes 2 45 false <| st_fieldAddr T.fld47_0 rfl <| w_yes 2 45 false <| st_loadA (vs := [_, _, _]) T.agg24 rfl (hf.cells (n := 3) (vs := [_, _, _]) rfl) rfl <| w_yes 2 45 false <| st_move (v := .int _ _) rfl <| w_yes 2 45 false <| st_call (ags := [_, _, _]) rfl rfl T.ent41 rfl (May_spec hT hTl (walkV Z cwd (dotV p) true).1 4 (by simp)) ?_
   rintro _ w11 ⟨rfl, c12⟩
   replace HC := HC.tr c12
   replace hT := hT.tr0 c12
   replace hmx := hmx.tr0 c12
   replace hf := hf.tr0 c12
   replace hbp := hbp.tr0 c12
   replace hbx := hbx.tr0 c12
   replace hJ := hJm _ _ _ hJ (c12).wide
   refine w_yes 2 45 false <| st_not rfl <| pF rfl rfl <| en <| x_cond rfl (fun h2 => ?_) (fun h2 => ?_)
   ·try simp only [nm, ne_eq] at h2
    have hno : dirG Z cwd p = false ∨ mayV Z (walkV Z cwd (dotV p) true).1 4 = false := by first | (left; first | assumption | simp_all; done) | (right; first | assumption | simpa using h2)
    refine x_ret <| then_r <| ret_none rfl ?_
    left
    rw [below_no hmg hno]
    exact hJ
   ·try simp only [nm, ne_eq] at h2
    have hmy : mayV Z (walkV Z cwd (dotV p) true).1 4 = true := by first | assumption | simpa using h2
    have hin := walk_inT hF (dir_ok hdk)
    obtain ⟨nd, hnd, hio⟩ := ino_some hin.1 hin.2
    have hnm : nd ∈ Z := List.mem_of_getElem? hnd
    have hbk := below_kids hmg hdk hmy hio
    have hkl := (hF.kids nd hnm).2.1
    refine x_skip <| then_n <| sr rfl <| fa T.fld47_0 rfl <| fa T.fld24_0 rfl <| lL T.one22 rfl (hf.cell rfl) <| mI rfl ?_
    obtain ⟨lb17, _, vs16, hA13, hR15, hC14⟩ := hT.at (i := ((walkV Z cwd (dotV p) true).1.toNat)) (x := nd) (hnd)
    obtain ⟨K18, cK18, rfl, hk1_18, hk2_18, hk3_18⟩ := hR15
    refine Wp rfl <| st_indexAddr T.u22 T.size36 (congrArg (fun z => Value.slice z _ _) hA13) rfl (by omega) (by omega) <| fa T.fld36_4 rfl <| lL T.one34 rfl (hC14.at (j := 4) rfl) <| Wp rfl <| st_len (ct := #[34]) (by rw [show ((#[34] : Array TypeId)[0]?).bind Tryz.prog.underlying = some (.slice 38) from T.u34]; rfl) rfl <| mI rfl <| en <| x_block <| x_loop (ι := Nat × List Bytes) [11, 12, 60, 61, 62, 63, 64, 65, 66, 67, 68, 69, 70, 71, 72, 73, 74, 75, 76, 77, 78, 79, 80, 81, 82, 83, 84, 85, 86, 87, 88, 89, 90, 91, 92, 93, 94] (fun ⟨i, pre⟩ => [(60, .int .i64 (i : Int))]) (fun ⟨i, pre⟩ W => (i ≤ nd.kids.length ∧ belowG Z cwd p x = pre ++ ((nd.kids.drop i).filter (showB x)).map (fun e => behindV p e.1)) ∧ (SzF w0 W) ∧ (Sl inE W (fun k => k < w0.heap.size) An Z) ∧ (MaxT W) ∧ (Blk W bf [.slice An Z.length capn, .int .i64 mx, .int .i64 my, .int .i64 cwd] 47) ∧ (Blk W bp [S p] 9) ∧ (Blk W bx [S x.1, S x.2] 51) ∧ (J pre W) ∧ (Sl keE W (fun k => k < w0.heap.size) K18 nd.kids)) (fun ⟨i, pre⟩ => nd.kids.length - i) (0, []) ?_ ?_ ?_
    · exact ⟨rfl, trivial⟩
    ·refine ⟨?_, HC, hT, hmx, hf, hbp, hbx, hJ, hk3_18⟩
     exact ⟨Nat.zero_le _, hbk⟩
    intro ⟨i, pre⟩ G20 w19 ⟨⟨hi, hst⟩, HC, hT, hmx, hf, hbp, hbx, hJ, hk3_18⟩
    change wp _ _ _ _ _ (upds (over _ _ G20) [(60, .int .i64 (i : Int))]) _ _
    have HL : Chg [] w19 w19 := .refl _
    refine sr rfl <| Wp rfl <| st_lss rfl rfl <| en <| x_seq <| x_cond rfl (fun h3 => ?_) (fun h3 => ?_)
    ·try simp only [nm, ne_eq] at h3
     obtain ⟨e, he⟩ : ∃ e, nd.kids[i]? = some e := ⟨_, List.getElem?_eq_getElem (by omega)⟩
     obtain ⟨hen, hel⟩ := hN nd hnm e (List.mem_of_getElem? he)
     have hep := List.length_pos_iff.2 hen
     refine x_skip <| then_n <| x_seq <| x_block <| sr rfl ?_
     obtain ⟨lb25, _, vs24, hA21, hR23, hC22⟩ := hk3_18.at (i := i) (x := e) (he)
     obtain rfl : vs24 = [S e.1, .int .i64 e.2] := hR23
     refine Wp rfl <| st_indexAddr T.u34 T.size38 (congrArg (fun z => Value.slice z _ _) hA21) rfl (by omega) (by omega) <| Wp rfl <| st_loadA (vs := [_, _]) T.agg38 rfl hC22 rfl <| Wp rfl <| st_alloc T.zero38 ?_
     intro be w26 e27 c28 hb29
     have ge_be : w0.heap.size ≤ be := by rw [e27]; exact HC.size
     have ne_bf_be := nF e27 hf.ne_size
     have ne_bp_be := nF e27 hbp.ne_size
     have ne_bx_be := nF e27 hbx.ne_size
     have gl_be : w19.heap.size ≤ be := by rw [e27]; exact HL.size
     replace HC := HC.tr c28
     replace hT := hT.tr0 c28
     replace hmx := hmx.tr0 c28
     replace hf := hf.tr0 c28
     replace hbp := hbp.tr0 c28
     replace hbx := hbx.tr0 c28
     replace hk3_18 := hk3_18.tr0 c28
     replace HL := HL.then c28
     clear e27
     refine Wp rfl <| st_st (v := .agg ⟨[_, _]⟩) T.size38 rfl rfl rfl hb29 ?_
     intro w30 c31 hb32; simp only [setVs, setV] at hb32
     clear hb29
     replace HC := HC.tr c31
     replace hT := hT.tr c31 (by intro k hx hD; simp only [List.mem_cons, List.mem_nil_iff, or_false] at hx; have hD2 : k < w0.heap.size := hD; omega)
     replace hmx := hmx.tr c31 q1
     replace hf := hf.tr1 c31 ne_bf_be
     replace hbp := hbp.tr1 c31 ne_bp_be
     replace hbx := hbx.tr1 c31 ne_bx_be
     replace hk3_18 := hk3_18.tr c31 (by intro k hx hD; simp only [List.mem_cons, List.mem_nil_iff, or_false] at hx; have hD2 : k < w0.heap.size := hD; omega)
     replace HL := HL.then1 c31 gl_be
     refine en <| sr rfl <| fa T.fld38_0 rfl <| lS T.one9 rfl (hb32.cell rfl) <| Wp rfl <| st_sidx T.u9 rfl rfl (by decide) (by omega) <| Wp rfl <| st_eql rfl rfl <| mB rfl <| w_split (d := 68) rfl (fun g33 => ?_) (fun g33 => ?_)
     ·try simp only [nm, ne_eq] at g33
      have hd46 : (byte e.1 0).toNat = 46 := by omega
      refine w_yes 4 68 true <| st_fieldAddr T.fld51_0 rfl <| w_yes 4 68 true <| st_load1 (v := S _) T.one9 rfl (hbx.cell rfl) <| w_yes 4 68 true <| st_sidx T.u9 rfl rfl (by decide) (by omega) <| w_yes 4 68 true <| st_neq rfl rfl <| pT rfl rfl <| aB rfl <| en <| sr rfl <| mB rfl <| Wp rfl <| st_not rfl <| mB rfl <| w_split (d := 76) rfl (fun g34 => ?_) (fun g34 => ?_)
      ·try simp only [nm, ne_eq] at g34
       have hhd : hidB e.1 x.1 = false := by unfold hidB; rw [decide_eq_true hd46, decide_eq_true (show (byte x.1 0).toNat = 46 by simp_all; omega)]; rfl
       refine w_yes 2 76 true <| st_fieldAddr T.fld51_0 rfl <| w_yes 2 76 true <| st_load1 (v := S _) T.one9 rfl (hbx.cell rfl) <| w_yes 2 76 true <| st_fieldAddr T.fld51_1 rfl <| w_yes 2 76 true <| st_load1 (v := S _) T.one9 rfl (hbx.cell rfl) <| w_yes 2 76 true <| st_fieldAddr T.fld38_0 rfl <| w_yes 2 76 true <| st_load1 (v := S _) T.one9 rfl (hb32.cell rfl) <| w_yes 2 76 true <| st_call (ags := [_, _, _]) rfl rfl T.ent42 rfl (gMatch_spec x.1 x.2 e.1 _ (by omega) (by omega)) ?_
       rintro _ w35 ⟨rfl, c36⟩
       replace HC := HC.tr c36
       replace hT := hT.tr0 c36
       replace hmx := hmx.tr0 c36
       replace hf := hf.tr0 c36
       replace hbp := hbp.tr0 c36
       replace hbx := hbx.tr0 c36
       replace hk3_18 := hk3_18.tr0 c36
       replace HL := HL.then c36
       replace hb32 := hb32.tr0 c36
       refine pT rfl rfl <| mB rfl <| w_split (d := 85) rfl (fun g37 => ?_) (fun g37 => ?_)
       ·try simp only [nm, ne_eq] at g37
        have hsh : showB x e = true := by unfold showB; rw [hhd, show matchV x.1 x.2 e.1 = true by assumption]; rfl
        refine w_yes 11 85 true <| st_move (v := .func _ _ _) rfl <| w_yes 11 85 true <| st_load1 (v := S _) T.one9 rfl (hbp.cell rfl) <| w_yes 11 85 true <| st_fieldAddr T.fld38_0 rfl <| w_yes 11 85 true <| st_load1 (v := S _) T.one9 rfl (hb32.cell rfl) <| w_yes 11 85 true <| st_call (ags := [_, _]) rfl rfl T.ent39 rfl (gbehind_spec p e.1 _ (by omega) (by omega)) ?_
        rintro _ w38 ⟨rfl, c39⟩
        replace HC := HC.tr c39
        replace hT := hT.tr0 c39
        replace hmx := hmx.tr0 c39
        replace hf := hf.tr0 c39
        replace hbp := hbp.tr0 c39
        replace hbx := hbx.tr0 c39
        replace hk3_18 := hk3_18.tr0 c39
        replace HL := HL.then c39
        refine w_yes 11 85 true <| st_yield (vs := [S _]) rfl rfl rfl rfl (hR pre (behindV p e.1) _ _ (by rw [hst, kids_on he hsh]) (hJm _ _ _ hJ HL)) ?_
        rintro _ w40 ⟨hk2, ⟨rfl, hJ2⟩ | ⟨rfl, hJ2⟩⟩
        ·replace HC : SzF w0 w40 := Nat.le_trans HC hk2.1
         replace hT := hT.keep (fun k h1 hD => hk2.2 k (hK k hD) h1) hk2.1
         replace hmx := hmx.kept (hk2.2 _ (hK _ hM0) hmx.lt)
         replace hf := hf.kept hk2 hKf
         replace hbp := hbp.kept hk2 hKp
         replace hbx := hbx.kept hk2 hKx
         replace hk3_18 := hk3_18.keep (fun k h1 hD => hk2.2 k (hK k hD) h1) hk2.1
         refine w_yes 11 85 true <| st_not rfl <| pT rfl rfl <| en <| x_cond (t := false) rfl (fun h4 => ?_) (fun h4 => ?_)
         · exact absurd h4 (by decide)
         refine x_skip <| block_n <| then_n <| x_region rfl <| Wp rfl <| st_addn rfl rfl (by constructor <;> omega) <| mI rfl <| en <| ⟨(i + 1, pre ++ [behindV p e.1]), ?_, ?_, rfl, ⟨rfl, trivial⟩, ?_⟩
         ·refine ⟨?_, HC, hT, hmx, hf, hbp, hbx, hJ2, hk3_18⟩
          exact ⟨by omega, by rw [hst, kids_on he hsh]; simp⟩
         ·show nd.kids.length - (i + 1) < nd.kids.length - i; omega
         exact q9
        ·replace HC : SzF w0 w40 := Nat.le_trans HC hk2.1
         replace hT := hT.keep (fun k h1 hD => hk2.2 k (hK k hD) h1) hk2.1
         replace hmx := hmx.kept (hk2.2 _ (hK _ hM0) hmx.lt)
         replace hf := hf.kept hk2 hKf
         replace hbp := hbp.kept hk2 hKp
         replace hbx := hbx.kept hk2 hKx
         replace hk3_18 := hk3_18.keep (fun k h1 hD => hk2.2 k (hK k hD) h1) hk2.1
         refine w_yes 11 85 true <| st_not rfl <| pT rfl rfl <| en <| x_cond (t := true) rfl (fun h4 => ?_) (fun h4 => ?_)
         rotate_left
         · exact absurd h4 (by decide)
         refine x_ret <| block_r <| then_r <| then_r <| block_r <| ret_none rfl ?_
         exact .inr ⟨_, hJ2⟩
       ·try simp only [nm, ne_eq] at g37
        have hsh : showB x e = false := by unfold showB; rw [hhd, show matchV x.1 x.2 e.1 = false by assumption]; rfl
        iterate 7 refine w_no 11 85 true ?_
        refine pF rfl rfl <| en <| x_cond (t := false) rfl (fun h4 => ?_) (fun h4 => ?_)
        · exact absurd h4 (by decide)
        refine x_skip <| block_n <| then_n <| x_region rfl <| Wp rfl <| st_addn rfl rfl (by constructor <;> omega) <| mI rfl <| en <| ⟨(i + 1, pre), ?_, ?_, rfl, ⟨rfl, trivial⟩, ?_⟩
        ·refine ⟨?_, HC, hT, hmx, hf, hbp, hbx, (hJm _ _ _ hJ HL), hk3_18⟩
         exact ⟨by omega, by rw [hst, kids_off he hsh]⟩
        ·show nd.kids.length - (i + 1) < nd.kids.length - i; omega
        exact q9
      ·try simp only [nm, ne_eq] at g34
       have hhd : hidB e.1 x.1 = true := by unfold hidB; rw [decide_eq_true hd46, decide_eq_false (show ¬ (byte x.1 0).toNat = 46 by simp_all; omega)]; rfl
       have hsh : showB x e = false := by unfold showB; rw [hhd]; rfl
       iterate 7 refine w_no 2 76 true ?_
       refine pF rfl rfl <| mB rfl ?_
       iterate 7 refine w_no 11 85 true ?_
       refine pF rfl rfl <| en <| x_cond (t := false) rfl (fun h4 => ?_) (fun h4 => ?_)
       · exact absurd h4 (by decide)
       refine x_skip <| block_n <| then_n <| x_region rfl <| Wp rfl <| st_addn rfl rfl (by constructor <;> omega) <| mI rfl <| en <| ⟨(i + 1, pre), ?_, ?_, rfl, ⟨rfl, trivial⟩, ?_⟩
       ·refine ⟨?_, HC, hT, hmx, hf, hbp, hbx, (hJm _ _ _ hJ HL), hk3_18⟩
        exact ⟨by omega, by rw [hst, kids_off he hsh]⟩
       ·show nd.kids.length - (i + 1) < nd.kids.length - i; omega
       exact q9
     ·try simp only [nm, ne_eq] at g33
      have hd46 : ¬ (byte e.1 0).toNat = 46 := by omega
      have hhd : hidB e.1 x.1 = false := by unfold hidB; rw [decide_eq_false hd46]; rfl
      iterate 4 refine w_no 4 68 true ?_
      refine pF rfl rfl <| aB rfl <| en <| sr rfl <| mB rfl <| Wp rfl <| st_not rfl <| mB rfl <| w_yes 2 76 true <| st_fieldAddr T.fld51_0 rfl <| w_yes 2 76 true <| st_load1 (v := S _) T.one9 rfl (hbx.cell rfl) <| w_yes 2 76 true <| st_fieldAddr T.fld51_1 rfl <| w_yes 2 76 true <| st_load1 (v := S _) T.one9 rfl (hbx.cell rfl) <| w_yes 2 76 true <| st_fieldAddr T.fld38_0 rfl <| w_yes 2 76 true <| st_load1 (v := S _) T.one9 rfl (hb32.cell rfl) <| w_yes 2 76 true <| st_call (ags := [_, _, _]) rfl rfl T.ent42 rfl (gMatch_spec x.1 x.2 e.1 _ (by omega) (by omega)) ?_
      rintro _ w41 ⟨rfl, c42⟩
      replace HC := HC.tr c42
      replace hT := hT.tr0 c42
      replace hmx := hmx.tr0 c42
      replace hf := hf.tr0 c42
      replace hbp := hbp.tr0 c42
      replace hbx := hbx.tr0 c42
      replace hk3_18 := hk3_18.tr0 c42
      replace HL := HL.then c42
      replace hb32 := hb32.tr0 c42
      refine pT rfl rfl <| mB rfl <| w_split (d := 85) rfl (fun g43 => ?_) (fun g43 => ?_)
      ·try simp only [nm, ne_eq] at g43
       have hsh : showB x e = true := by unfold showB; rw [hhd, show matchV x.1 x.2 e.1 = true by assumption]; rfl
       refine w_yes 11 85 true <| st_move (v := .func _ _ _) rfl <| w_yes 11 85 true <| st_load1 (v := S _) T.one9 rfl (hbp.cell rfl) <| w_yes 11 85 true <| st_fieldAddr T.fld38_0 rfl <| w_yes 11 85 true <| st_load1 (v := S _) T.one9 rfl (hb32.cell rfl) <| w_yes 11 85 true <| st_call (ags := [_, _]) rfl rfl T.ent39 rfl (gbehind_spec p e.1 _ (by omega) (by omega)) ?_
       rintro _ w44 ⟨rfl, c45⟩
       replace HC := HC.tr c45
       replace hT := hT.tr0 c45
       replace hmx := hmx.tr0 c45
       replace hf := hf.tr0 c45
       replace hbp := hbp.tr0 c45
       replace hbx := hbx.tr0 c45
       replace hk3_18 := hk3_18.tr0 c45
       replace HL := HL.then c45
       refine w_yes 11 85 true <| st_yield (vs := [S _]) rfl rfl rfl rfl (hR pre (behindV p e.1) _ _ (by rw [hst, kids_on he hsh]) (hJm _ _ _ hJ HL)) ?_
       rintro _ w46 ⟨hk2, ⟨rfl, hJ2⟩ | ⟨rfl, hJ2⟩⟩
       ·replace HC : SzF w0 w46 := Nat.le_trans HC hk2.1
        replace hT := hT.keep (fun k h1 hD => hk2.2 k (hK k hD) h1) hk2.1
        replace hmx := hmx.kept (hk2.2 _ (hK _ hM0) hmx.lt)
        replace hf := hf.kept hk2 hKf
        replace hbp := hbp.kept hk2 hKp
        replace hbx := hbx.kept hk2 hKx
        replace hk3_18 := hk3_18.keep (fun k h1 hD => hk2.2 k (hK k hD) h1) hk2.1
        refine w_yes 11 85 true <| st_not rfl <| pT rfl rfl <| en <| x_cond (t := false) rfl (fun h4 => ?_) (fun h4 => ?_)
        · exact absurd h4 (by decide)
        refine x_skip <| block_n <| then_n <| x_region rfl <| Wp rfl <| st_addn rfl rfl (by constructor <;> omega) <| mI rfl <| en <| ⟨(i + 1, pre ++ [behindV p e.1]), ?_, ?_, rfl, ⟨rfl, trivial⟩, ?_⟩
        ·refine ⟨?_, HC, hT, hmx, hf, hbp, hbx, hJ2, hk3_18⟩
         exact ⟨by omega, by rw [hst, kids_on he hsh]; simp⟩
        ·show nd.kids.length - (i + 1) < nd.kids.length - i; omega
        exact q9
       ·replace HC : SzF w0 w46 := Nat.le_trans HC hk2.1
        replace hT := hT.keep (fun k h1 hD => hk2.2 k (hK k hD) h1) hk2.1
        replace hmx := hmx.kept (hk2.2 _ (hK _ hM0) hmx.lt)
        replace hf := hf.kept hk2 hKf
        replace hbp := hbp.kept hk2 hKp
        replace hbx := hbx.kept hk2 hKx
        replace hk3_18 := hk3_18.keep (fun k h1 hD => hk2.2 k (hK k hD) h1) hk2.1
        refine w_yes 11 85 true <| st_not rfl <| pT rfl rfl <| en <| x_cond (t := true) rfl (fun h4 => ?_) (fun h4 => ?_)
        rotate_left
        · exact absurd h4 (by decide)
        refine x_ret <| block_r <| then_r <| then_r <| block_r <| ret_none rfl ?_
        exact .inr ⟨_, hJ2⟩
      ·try simp only [nm, ne_eq] at g43
       have hsh : showB x e = false := by unfold showB; rw [hhd, show matchV x.1 x.2 e.1 = false by assumption]; rfl
       iterate 7 refine w_no 11 85 true ?_
       refine pF rfl rfl <| en <| x_cond (t := false) rfl (fun h4 => ?_) (fun h4 => ?_)
       · exact absurd h4 (by decide)
       refine x_skip <| block_n <| then_n <| x_region rfl <| Wp rfl <| st_addn rfl rfl (by constructor <;> omega) <| mI rfl <| en <| ⟨(i + 1, pre), ?_, ?_, rfl, ⟨rfl, trivial⟩, ?_⟩
       ·refine ⟨?_, HC, hT, hmx, hf, hbp, hbx, (hJm _ _ _ hJ HL), hk3_18⟩
        exact ⟨by omega, by rw [hst, kids_off he hsh]⟩
       ·show nd.kids.length - (i + 1) < nd.kids.length - i; omega
       exact q9
    ·try simp only [nm, ne_eq] at h3
     refine x_exit <| then_x <| then_x <| block_x <| ret_none_n rfl ?_
     left
     rw [hst, List.drop_of_length_le (by omega)]
     rw [show pre ++ (List.filter (showB x) []).map (fun e => behindV p e.1) = pre from List.append_nil pre]
     exact hJ
open Go Go.Proofs Go.RowKit
open Go.Sort
theorem Sort_spec {w : World} {D : Nat → Prop} {A : Option Addr} {cap : Nat} {xs : List Bytes} (ho : Own sE 9 w D A cap xs) (hl : xs.length ≤ 1000000000) : CallR Tryz.prog 44 #[.slice A xs.length cap] w fun v w' => v = .tuple ⟨[]⟩ ∧ Own sE 9 w' D A cap (sortB xs) ∧ Chg (ob A) w w' := by
  cases A with
  | none =>
    obtain rfl := ho.nilS rfl
    exact CallR.of (Tryz.slices_Sort_string_none none cap w) fun e w' ⟨h1, h2⟩ => ⟨_, h1, rfl, by rw [h2, show sortB [] = [] by unfold sortB; simp]; exact ho, by rw [h2]; exact .refl w⟩
  | some a =>
    obtain ⟨g, rest, rfl, hb, hln, hle, hcap, hD⟩ := ho.raw
    replace hb : Blk w g (sC xs ++ rest) 9 := hb
    have hgl : g < w.heap.size := hb.lt
    have hb2 : w.heap[g]? = some (.cells ⟨sC xs ++ rest⟩ 9 (0, 0)) := hb
    have hH : Go.Sort.Holds encStr w g 0 xs.toArray := holds_of_block hb2 (by rw [show (⟨sC xs ++ rest⟩ : Array Value).toList = sC xs ++ rest from rfl, sC_map]; exact List.take_left' (by simp))
    refine CallR.of (Tryz.slices_Sort_string g 0 cap xs w hH hgl (by omega)) fun e w' ⟨h1, n, os, h2⟩ => ⟨_, h1, rfl, ?_, ?_⟩
    · have hs : (xs.mergeSort fun x y => decide (x ≤ y)) = sortB xs := rfl
      rw [hs] at h2
      have hsl : (sortB xs).length = xs.length := by unfold sortB; simp
      have h3 := ownsRow_sorted (base := 0) (n := n) (os := os) hsl (Nat.zero_le g) hb2 hle hcap (by rw [show (⟨sC xs ++ rest⟩ : Array Value).size = (sC xs ++ rest).length from rfl]; exact hln)
      rw [← h2] at h3
      refine ⟨sC (sortB xs), ?_, by intro k hk; rw [show k = g by simpa [ob] using hk]; exact hD, ?_⟩
      · rw [hsl, sC_map]; exact h3
      · refine ⟨by rw [sC_map, List.length_map]; exact (Nat.mul_one _).symm, fun i x hx => ⟨[S x], rfl, fun j v hv => ?_⟩⟩
        cases j with
        | zero =>
          cases hv
          show (sC (sortB xs))[i * 1 + 0]? = some (S x)
          rw [sC_map, List.getElem?_map, Nat.mul_one, Nat.add_zero, hx]; rfl
        | succ j => cases hv
    · obtain ⟨q1, q2, q3, q4, q5⟩ := grownBy_sorted (w := w) (g := g) (n := n) (os := os) ((xs.mergeSort fun x y => decide (x ≤ y)).toArray)
      rw [← h2] at q1 q2 q3 q4 q5
      exact ⟨by first | exact q1 | exact q2 | exact q3, by first | exact q1 | exact q2 | exact q3, by first | exact q1 | exact q2 | exact q3, q4, fun k hk hx => q5 k hk (fun e => hx (by cases e; simp [ob]))⟩
theorem values_iter {bs : Nat} {A : Option Addr} {cap : Nat} {l : List Bytes} {K : Nat → Prop} {w0 w : World} (hb : Blk w bs [.slice A l.length cap] 29) (hl : Sl sE w (fun k => k < w0.heap.size) A l) (hn : l.length ≤ 1000000000) (hK : ∀ k, k < w0.heap.size → K k) (hKb : K bs) :
    Iter Tryz.prog 45 [.pointer (some ⟨bs, 0, none⟩)] [] K (fun s => [S s]) l w := by
 intro lp J Jx W hws hk hJm hJxm hR hJ
 replace hb := hb.of_eq (hk _ hb.lt hKb)
 replace hl := hl.keep (fun k h1 hD => hk k h1 (hK k hD)) hws
 refine callR_of_wp (args := [_, _]) Tryz.func45 rfl (Nat.le_of_ble_eq_true rfl) <| sr rfl <| lL T.one29 rfl (hb.cell rfl) <| Wp rfl <| st_len (ct := #[29]) (by rw [show ((#[29] : Array TypeId)[0]?).bind Tryz.prog.underlying = some (.slice 9) from T.u29]; rfl) rfl <| mI rfl <| en <| x_block <| x_loop (ι := Nat) [4, 7, 8, 9, 10, 11, 12, 13, 14, 15] (fun i => [(7, .int .i64 (i : Int))]) (fun i W => (i ≤ l.length) ∧ (Sl sE W (fun k => k < w0.heap.size) A l) ∧ (J (l.take i) W)) (fun i => l.length - i) 0 ?_ ?_ ?_
 · exact ⟨rfl, trivial⟩
 ·refine ⟨?_, hl, hJ⟩
  exact Nat.zero_le _
 intro i G2 w1 ⟨hi, hl, hJ⟩
 change wp _ _ _ _ _ (upds (over _ _ G2) [(7, .int .i64 (i : Int))]) _ _
 refine sr rfl <| Wp rfl <| st_lss rfl rfl <| en <| x_seq <| x_cond rfl (fun h0 => ?_) (fun h0 => ?_)
 ·try simp only [nm, ne_eq] at h0
  obtain ⟨x, hx⟩ : ∃ x, l[i]? = some x := ⟨_, List.getElem?_eq_getElem (by omega)⟩
  refine x_skip <| then_n <| x_seq <| x_block <| sr rfl ?_
  obtain ⟨lb7, _, vs6, hA3, hR5, hC4⟩ := hl.at (i := i) (x := x) (hx)
  obtain rfl : vs6 = [S x] := hR5
  refine Wp rfl <| st_indexAddr T.u29 T.size9 (congrArg (fun z => Value.slice z _ _) hA3) rfl (by omega) (by omega) <| lS T.one9 rfl (hC4.at (j := 0) rfl) <| aS rfl <| en <| sr rfl <| mv (v := .func _ _ _) rfl <| mS rfl <| Wp rfl <| st_yield (vs := [S _]) rfl rfl rfl rfl (hR (l.take i) x (l.drop (i + 1)) _ (by rw [← drop_some hx]; exact (List.take_append_drop i l).symm) hJ) ?_
  rintro _ w8 ⟨hk2, ⟨rfl, hJ2⟩ | ⟨rfl, hJ2⟩⟩
  ·replace hl := hl.keep (fun k h1 hD => hk2.2 k (hK k hD) h1) hk2.1
   refine Wp rfl <| st_not rfl <| en <| x_cond (t := false) rfl (fun h1 => ?_) (fun h1 => ?_)
   · exact absurd h1 (by decide)
   refine x_skip <| block_n <| then_n <| x_region rfl <| Wp rfl <| st_addn rfl rfl (by constructor <;> omega) <| mI rfl <| en <| ⟨i + 1, ?_, ?_, rfl, ⟨rfl, trivial⟩, ?_⟩
   ·refine ⟨?_, hl, (by rw [show l.take (i + 1) = l.take i ++ [x] by rw [List.take_add_one, hx]; rfl]; exact hJ2)⟩
    exact (by omega)
   ·show l.length - (i + 1) < l.length - i; omega
   exact q9
  ·replace hl := hl.keep (fun k h1 hD => hk2.2 k (hK k hD) h1) hk2.1
   refine Wp rfl <| st_not rfl <| en <| x_cond (t := true) rfl (fun h1 => ?_) (fun h1 => ?_)
   rotate_left
   · exact absurd h1 (by decide)
   refine x_ret <| block_r <| then_r <| then_r <| block_r <| ret_none rfl ?_
   exact .inr ⟨_, hJ2⟩
 ·try simp only [nm, ne_eq] at h0
  refine x_exit <| then_x <| then_x <| block_x <| ret_none_n rfl ?_
  left
  rw [List.take_of_length_le (by omega)] at *
  exact hJ
theorem values_spec {A : Option Addr} {m cap : Nat} (w : World) : CallR Tryz.prog 23 #[.slice A m cap] w fun v w' => (∃ bs, v = .func (.func 45) #[] #[.pointer (some ⟨bs, 0, none⟩)] ∧ w.heap.size ≤ bs ∧ Blk w' bs [.slice A m cap] 29) ∧ Chg [] w w' := by
 refine callR_of_wp (args := [_]) Tryz.func23 rfl (Nat.le_of_ble_eq_true rfl) ?_
 have HC : Chg [] w w := .refl _
 refine sr rfl <| Wp rfl <| st_box (v := .slice _ _ _) (vs := [_]) rfl rfl ?_
 intro bs w1 e2 c3 hb4
 have ge_bs := gB e2 HC.size
 replace HC := HC.then c3
 clear e2
 refine av (v := .nilFunc) rfl <| en <| sr rfl <| Wp rfl <| st_makeFunc <| av (v := .func _ _ _) rfl <| en <| x_ret <| ret_tmp (v := .func _ _ _) rfl rfl ?_
 exact ⟨⟨bs, rfl, ge_bs, hb4⟩, HC⟩
theorem gapp_spec {bs : Nat} {A : Option Addr} {cap : Nat} {l : List Bytes} {w : World} (hb : Blk w bs [.slice A l.length cap] 29) (hl : Sl sE w (fun k => k < w.heap.size) A l) (hn : l.length ≤ 1000000000) : CallR Tryz.prog 66 #[.slice none 0 0, .func (.func 45) #[] #[.pointer (some ⟨bs, 0, none⟩)]] w fun v w' => (∃ A cap, v = .slice A l.length cap ∧ Own sE 9 w' (fun k => w.heap.size ≤ k) A cap l) ∧ Chg [] w w' := by
 refine callR_of_wpM (args := [_, _]) Tryz.func66 rfl (Nat.le_of_ble_eq_true rfl) ?_
 have HC : Chg [] w w := .refl _
 have hM : Marks w.heap.size [] w := trivial
 have hbw := hb.lt
 refine sr rfl <| Wp rfl <| st_box (v := .slice _ _ _) (vs := [_]) rfl rfl ?_
 intro b2 w1 e2 c3 hb4
 have ge_b2 := gB e2 HC.size
 have nm_b2 : b2 ∉ mb [] := fun hx => by have := (hM.lt _ hx).2; omega
 replace HC := HC.then c3
 replace hb := hb.tr0 c3
 replace hl := hl.tr0 c3
 replace hM := hM.tr c3 (by simp)
 clear e2
 refine aL rfl <| en <| x_seq <| sr rfl <| mv (v := .func _ _ _) rfl <| en <| x_block <| x_range (bs := []) (K := (fun k => k < w.heap.size)) (ps := [7]) (encs := (fun s => [S s])) (xs := l) rfl T.ent45 rfl (fun _ => rfl) (by simp) (by intro k hk; exact Nat.lt_of_lt_of_le hk HC.size) (values_iter (w0 := w) hb hl hn (fun k h => h) hbw) ?_
 intro DD lp w5 hD1 hD2 hD3 hD4 hD5 c6
 have hszlp := HC.size
 have ge_DD : w.heap.size ≤ DD := by omega
 have ne_b2_DD : Hid (b2 ≠ DD) := by show _ ≠ _; have := hb4.lt; omega
 have nm_DD : DD ∉ mb [] := fun hx => by have := (hM.lt _ hx).2; omega
 have ge_lp : w.heap.size ≤ lp := by omega
 have ne_b2_lp : Hid (b2 ≠ lp) := by show _ ≠ _; have := hb4.lt; omega
 have nm_lp : lp ∉ mb [] := fun hx => by have := (hM.lt _ hx).2; omega
 replace HC := HC.then c6
 replace hl := hl.tr0 c6
 replace hM := hM.tr c6 (by simp)
 replace hb4 := hb4.tr0 c6
 refine ⟨fun pre W => ∃ (A2 : Option Addr), ∃ (cap2 : Nat), (Chg [] w W) ∧ (Sl sE W (fun k => k < w.heap.size) A l) ∧ (Marks w.heap.size [] W) ∧ (DD < W.heap.size) ∧ (lp < W.heap.size) ∧ (Own sE 9 W (fun k => w.heap.size ≤ k ∧ k ≠ b2 ∧ k ≠ lp ∧ k ≠ DD) A2 cap2 (pre)) ∧ (Blk W b2 [.slice A2 (pre).length cap2] 29), fun _ _ _ => False, ⟨none, 0, HC, hl, hM, hD4, hD5, Own.nil, hb4⟩, ?_, ?_, ?_, ?_, ?_⟩
 ·rintro pre Wa Wb ⟨A2, cap2, HC, hl, hM, hD4, hD5, ho, hb2⟩ cL
  replace HC := HC.then1 cL ge_lp
  replace hl := hl.tr cL (by intro k hx hD; simp only [List.mem_cons, List.mem_nil_iff, or_false] at hx; have hD2 : k < w.heap.size := hD; omega)
  replace hM := hM.tr cL (by intro k hk hx; have hlo := (hM.lt k hk).1; simp only [List.mem_singleton] at hx; subst hx; first | exact nm_lp hk | omega | (cases hk; done))
  replace hD4 := Nat.lt_of_lt_of_le hD4 cL.size
  replace hD5 := Nat.lt_of_lt_of_le hD5 cL.size
  replace ho := ho.trF flat_flat cL (by intro k hk hx; simp only [List.mem_cons, List.mem_nil_iff, or_false] at hx; obtain rfl := hx; first | exact na_lp hk | exact absurd (ho.inD _ hk) (by simp))
  replace hb2 := hb2.tr1 cL ne_b2_lp
  exact ⟨A2, cap2, HC, hl, hM, hD4, hD5, ho, hb2⟩
 · exact fun _ _ _ _ h _ => h
 ·rintro pre y rest Wa hxs ⟨A2, cap2, HC, hl, hM, hD4, hD5, ho, hb2⟩ ⟨rec, hrec⟩
  have lo0_ho := ho.lt
  have li0_ho := ho.inD
  have lt0_b2 := hb2.lt
  have HK : Kept (fun k => k = lp ∨ k = DD ∨ (fun k => k < w.heap.size) k) Wa Wa := .refl'
  have hpl : pre.length < l.length := by have h9 := congrArg List.length hxs; simp at h9; omega
  refine x_region rfl <| aS rfl <| en <| ⟨HK, ?_⟩
  intro ds1 Wc cL hrec2
  replace HC := HC.then1 cL ge_lp
  replace hl := hl.tr cL (by intro k hx hD; simp only [List.mem_cons, List.mem_nil_iff, or_false] at hx; have hD2 : k < w.heap.size := hD; omega)
  replace hM := hM.tr cL (by intro k hk hx; have hlo := (hM.lt k hk).1; simp only [List.mem_singleton] at hx; subst hx; first | exact nm_lp hk | omega | (cases hk; done))
  replace hD4 := Nat.lt_of_lt_of_le hD4 cL.size
  replace hD5 := Nat.lt_of_lt_of_le hD5 cL.size
  replace ho := ho.trF flat_flat cL (by intro k hk hx; simp only [List.mem_cons, List.mem_nil_iff, or_false] at hx; obtain rfl := hx; first | exact na_lp hk | exact absurd (ho.inD _ hk) (by simp))
  replace hb2 := hb2.tr1 cL ne_b2_lp
  have HK : Kept (fun k => k = lp ∨ k = DD ∨ (fun k => k < w.heap.size) k) Wc Wc := .refl'
  refine x_block <| x_region rfl <| lL T.one29 rfl (hb2.cell rfl) <| mS rfl <| Wp rfl <| st_lit (ps := [(0, .tmp 9)]) (vs := [S _]) T.lit29 (by decide) rfl q6 rfl ?_
  intro b7 w8 e9 c10 hb11
  have ge_b7 := gB e9 HC.size
  have geK_b7 : Wc.heap.size ≤ b7 := by rw [e9]; exact HK.1
  have nm_b7 : b7 ∉ mb [] := fun hx => by have := (hM.lt _ hx).2; omega
  have na_b7 : b7 ∉ ob A2 := ho.fresh (by rw [e9]; exact Nat.le_refl _)
  replace HC := HC.then c10
  replace hl := hl.tr0 c10
  replace hM := hM.tr c10 (by simp)
  replace hD4 := Nat.lt_of_lt_of_le hD4 c10.size
  replace hD5 := Nat.lt_of_lt_of_le hD5 c10.size
  replace ho := ho.tr0 c10
  replace hb2 := hb2.tr0 c10
  replace HK := HK.chg c10 (fun k hx => absurd hx (by simp))
  clear e9
  have hszA := HC.size
  refine Wp rfl <| st_append2 (c := sE) (D2 := fun _ => False) (xs := (pre)) (ys := [y]) T.slice29 rfl rfl ho rfl rfl (one_elem rfl (hb11.cells (n := 1) rfl)) (fun _ _ h => h.elim) (fun k hk => ⟨by have := HC.size; omega, by have := hb2.lt; omega, by have := hD5; omega, by have := hD4; omega⟩) q7 q7 ?_
  intro A12 cap13 w14 ho15 c16 hg17
  replace HC := HC.trans c16 (fun k hk => .inr ((ho.inD k hk).1))
  replace hl := hl.tr c16 (by intro k hk hD; have h1 := ho.inD k hk; have hD2 : k < w.heap.size := hD; omega)
  replace hM := hM.tr c16 (fun k hk => by cases hk)
  replace hD4 := Nat.lt_of_lt_of_le hD4 c16.size
  replace hD5 := Nat.lt_of_lt_of_le hD5 c16.size
  replace hb2 := hb2.tr c16 (fun hx => by first | (have h1 := ho.inD _ hx; omega) | exact na_b2 hx | exact hav _ hx (by simp))
  replace HK := HK.chg c16 (by intro k hk hK; have h1 := ho.inD k hk; have h2 := lo0_ho k hk; simp only [NK] at hK; omega)
  refine Wp rfl <| st_st (v := .slice _ _ _) T.size29 rfl rfl rfl hb2 ?_
  intro w18 c19 hb20; simp only [setVs, setV] at hb20
  clear hb2
  replace HC := HC.then1 c19 ge_b2
  replace hl := hl.tr c19 (by intro k hx hD; simp only [List.mem_cons, List.mem_nil_iff, or_false] at hx; have hD2 : k < w.heap.size := hD; omega)
  replace hM := hM.tr c19 (by intro k hk hx; have hlo := (hM.lt k hk).1; simp only [List.mem_singleton] at hx; subst hx; first | exact nm_b2 hk | omega | (cases hk; done))
  replace hD4 := Nat.lt_of_lt_of_le hD4 c19.size
  replace hD5 := Nat.lt_of_lt_of_le hD5 c19.size
  replace ho15 := ho15.trF flat_flat c19 (by intro k hk hx; simp only [List.mem_cons, List.mem_nil_iff, or_false] at hx; obtain rfl := hx; first | exact na_b2 hk | exact absurd (ho15.inD _ hk) (by simp))
  replace HK := HK.chg c19 (by
   intro k hx hK
   obtain rfl := List.mem_singleton.1 hx
   rcases hK with h | h | (h)
   · exact absurd h ne_b2_lp
   · exact absurd h ne_b2_DD
   · exact absurd h (Nat.not_lt.2 ge_b2))
  refine wops_nil <| block_n <| ⟨HK, ?_⟩
  exact ⟨A12, cap13, HC, hl, hM, hD4, hD5, ho15, hb20⟩
 ·rintro W9 ⟨A2, cap2, HC, hl, hM, hD4, hD5, ho, hb2⟩ hDef
  replace hM := hM.cons (by omega) hDef nm_DD
  have nm_b2 : b2 ∉ mb (mk DD :: []) := fun hx => (List.mem_cons.1 (show b2 ∈ DD :: mb [] from hx)).elim (fun h => ne_b2_DD h) (fun h => by cases h)
  refine block_n <| then_n <| sr rfl <| lL T.one29 rfl (hb2.cell rfl) <| aL rfl <| en <| x_ret <| retM_marks hM ?_
  intro w99 c99
  have hlm := hM.lt
  replace HC := HC.trans c99 (fun k hk => .inr (by have := (hlm k hk).1; omega))
  replace ho := ho.trF flat_flat c99 (by intro k hk hx; have hD := ho.inD k hk; simp only [mb_cons, mb, List.mem_cons, List.mem_nil_iff, or_false] at hx; first | (obtain rfl := hx; exact absurd hD (by simp)) | (rcases hx with hx | hx <;> (obtain rfl := hx; exact absurd hD (by simp))))
  refine ret_tmp (v := .slice _ _ _) rfl rfl ?_
  exact ⟨⟨A2, cap2, rfl, ho.flat flat_flat (fun k _ h => h.1)⟩, HC⟩
 · exact fun _ _ _ h _ => h.elim
end Go.Proofs.YtncnalboiljgiaaGreat.K
