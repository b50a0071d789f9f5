/- Up to four arguments. -/
import Derived.Test.YtpelmhoocepenaaGreatDoorWk
set_option linter.unusedVariables false
set_option linter.unusedSimpArgs false
set_option autoImplicit false
set_option maxRecDepth 20000
namespace Go.Proofs.YtpelmhoocepenaaGreatDoor.K
open Go Go.Proofs Go.RowKit

theorem one_spec {Z : Tre} {An : Option Addr} {capn : Nat} {mx my cwd : Int} {w : World} {bl ol c : Nat} {Dl : Nat → Prop} {a : Bytes} {r : List Bytes} (hl : Sl sE w Dl (some ⟨bl, ol, none⟩) (a :: r)) : CallR Tryz.prog 13 #[.agg ⟨[.slice An Z.length capn, .int .i64 mx, .int .i64 my, .int .i64 cwd]⟩, .slice (some ⟨bl, ol, none⟩) (r.length + 1) c] w fun v w' => v = .int .i64 (oneV a) ∧ Chg [] w w' := by
 refine callR_of_wp (args := [_, _]) Tryz.func13 rfl (Nat.le_of_ble_eq_true rfl) ?_
 have HC : Chg [] w w := .refl _
 refine sr rfl <| Wp rfl <| st_box (v := .agg ⟨[.slice _ _ _, .int _ _, .int _ _, .int _ _]⟩) (vs := [_, _, _, _]) rfl rfl ?_
 intro b1 w2 e3 c4 hb5
 have ge_b1 : w.heap.size ≤ b1 := by rw [e3]; exact HC.size
 have nf_hl_b1 : (a :: r) = [] ∨ b1 ∉ ob ((some ⟨bl, ol, none⟩)) := hl.fresh (by rw [e3]; exact Nat.le_refl _)
 replace HC := HC.then c4
 replace hl := hl.tr0 c4
 clear e3
 refine aI rfl <| en <| sr rfl <| mL rfl ?_
 obtain ⟨lb10, _, vs9, hA6, hR8, hC7⟩ := hl.at (i := 0) (x := a) (rfl)
 obtain rfl : vs9 = [S a] := hR8
 refine Wp rfl <| st_indexAddr T.u25 T.size9 (congrArg (fun z => Value.slice z _ _) hA6) rfl (by decide) (by omega) <| lS T.one9 rfl (hC7.at (j := 0) rfl) <| Wp rfl <| st_sneq rfl rfl <| Wp rfl <| st_call (ags := [_]) rfl rfl T.ent26 rfl (truth_spec _ _) ?_
 rintro _ w11 ⟨rfl, c12⟩
 replace HC := HC.then c12
 replace hl := hl.tr0 c12
 replace hb5 := hb5.tr0 c12
 refine aI rfl <| en <| x_ret <| ret_tmp (v := .int _ _) rfl rfl ?_
 exact ⟨rfl, HC⟩

theorem zero_spec {Z : Tre} {An : Option Addr} {capn : Nat} {mx my cwd : Int} {w : World} (x : Value) : CallR Tryz.prog 12 #[.agg ⟨[.slice An Z.length capn, .int .i64 mx, .int .i64 my, .int .i64 cwd]⟩, x] w fun v w' => v = .int .i64 1 ∧ Chg [] w w' := by
 refine callR_of_wp (args := [_, _]) Tryz.func12 rfl (Nat.le_of_ble_eq_true rfl) ?_
 have HC : Chg [] w w := .refl _
 refine sr rfl <| Wp rfl <| st_box (v := .agg ⟨[.slice _ _ _, .int _ _, .int _ _, .int _ _]⟩) (vs := [_, _, _, _]) rfl rfl ?_
 intro b1 w2 e3 c4 hb5
 have ge_b1 : w.heap.size ≤ b1 := by rw [e3]; exact HC.size
 replace HC := HC.then c4
 clear e3
 refine aI rfl <| en <| sr rfl <| aI rfl <| en <| x_ret <| ret_tmp (v := .int _ _) rfl rfl ?_
 exact ⟨rfl, HC⟩

theorem two_spec {Z : Tre} {An : Option Addr} {capn : Nat} {mx my : Int} {cwd : Int} {D : Nat → Prop} {w : World} (hT : Sl inE w D An Z) (hTl : Z.length ≤ 1000000000) (hF : FitT Z) {bl ol c : Nat} {Dl : Nat → Prop} {a b : Bytes} (hl : Sl sE w Dl (some ⟨bl, ol, none⟩) [a, b]) (hc : 2 ≤ c) (hmx : MaxT w) (ha : a.length ≤ 140737488355328) (hb : b.length ≤ 140737488355328) : CallR Tryz.prog 14 #[.agg ⟨[.slice An Z.length capn, .int .i64 mx, .int .i64 my, .int .i64 cwd]⟩, .slice (some ⟨bl, ol, none⟩) 2 c] w fun v w' => v = .int .i64 (twoV Z cwd a b) ∧ Chg [] w w' := by
 replace hT := hT.mono (D' := fun k => k < w.heap.size) (fun k hk _ => hk)
 refine callR_of_wp (args := [_, _]) Tryz.func14 rfl (Nat.le_of_ble_eq_true rfl) ?_
 have HC : Chg [] w w := .refl _
 have hm1 := hmx.lt
 refine sr rfl <| Wp rfl <| st_box (v := .agg ⟨[.slice _ _ _, .int _ _, .int _ _, .int _ _]⟩) (vs := [_, _, _, _]) rfl rfl ?_
 intro b4 w1 e2 c3 hb4
 have ge_b4 : w.heap.size ≤ b4 := by rw [e2]; exact HC.size
 have nf_hl_b4 : [a, b] = [] ∨ b4 ∉ ob ((some ⟨bl, ol, none⟩)) := hl.fresh (by rw [e2]; exact Nat.le_refl _)
 replace HC := HC.then c3
 replace hT := hT.tr0 c3
 replace hmx := hmx.tr0 c3
 replace hl := hl.tr0 c3
 clear e2
 refine aI rfl <| en <| x_seq <| sr rfl <| mL rfl ?_
 obtain ⟨lb9, _, vs8, hA5, hR7, hC6⟩ := hl.at (i := 0) (x := a) (rfl)
 obtain rfl : vs8 = [S a] := hR7
 refine Wp rfl <| st_indexAddr T.u25 T.size9 (congrArg (fun z => Value.slice z _ _) hA5) rfl (by decide) (by decide) <| lS T.one9 rfl (hC6.at (j := 0) rfl) <| Wp rfl <| st_seql rfl rfl <| en <| x_cond rfl (fun h0 => ?_) (fun h0 => ?_)
 ·try simp only [nm, ne_eq] at h0
  refine x_seq <| x_draw [(0, 0), (1, 0), (2, 0), (3, 1), (4, 1), (5, 0)] T.mixed rfl rfl rfl (fun W => W.heap[b4]? = w1.heap[b4]? ∧ True) ⟨rfl, trivial⟩ ?_
  have o12 := hb4
  have c11 := Chg.drew w1
  generalize World.drew w1 = w10 at c11 ⊢
  replace HC := HC.then c11
  replace hT := hT.tr0 c11
  replace hmx := hmx.tr0 c11
  replace hl := hl.tr0 c11
  replace hb4 := hb4.tr0 c11
  refine sq_q rfl (fun W hT => r_loadA (vs := [_, _, _, _]) T.agg34 rfl (Blk.cells (n := 4) (vs := [_, _, _, _]) (show Blk W b4 _ _ from hT.1.trans o12) rfl) rfl) <| sq_q rfl (fun W hT => r_move (v := .slice _ _ _) rfl) <| sq_q rfl (fun W hT => r_part (i := 1) (j := 2) T.u25 T.size9 rfl ⟨_, rfl⟩ rfl (by decide) (by omega) (by omega)) <| sq_call1 rfl (r_call (ags := [_, _]) rfl rfl T.ent13 rfl) (one_spec (a := b) (r := []) (by have h9 := hl.drop 1; simpa [Addr.add_lit, sE, Enc.flat] using h9)) ?_
  rintro _ w13 ⟨rfl, c14⟩
  replace HC := HC.then c14
  replace hT := hT.tr0 c14
  replace hmx := hmx.tr0 c14
  replace hl := hl.tr0 c14
  replace hb4 := hb4.tr0 c14
  refine ⟨_, fun _ h => h, ⟨(Eq.trans hb4 o12.symm), trivial⟩, ?_⟩
  refine sq_call1 rfl (r_call (ags := [_]) rfl rfl T.ent27 rfl) (turned_spec _ (tru_in _) _) ?_
  rintro _ w15 ⟨rfl, c16⟩
  replace HC := HC.then c16
  replace hT := hT.tr0 c16
  replace hmx := hmx.tr0 c16
  replace hl := hl.tr0 c16
  replace hb4 := hb4.tr0 c16
  refine ⟨_, fun _ h => h, ⟨(Eq.trans hb4 o12.symm), trivial⟩, ?_⟩
  refine sq_q rfl (fun W hT => r_assign (v := .int _ _) rfl) ?_
  clear o12
  refine sq_nil <| then_n <| x_ret <| then_r <| ret_tmp (v := .int _ _) rfl rfl <| ⟨?_, HC⟩
  unfold twoV; rw [if_pos h0]
  try rfl
 ·try simp only [nm, ne_eq] at h0
  refine x_skip <| then_n <| x_seq ?_
  obtain ⟨lb21, _, vs20, hA17, hR19, hC18⟩ := hl.at (i := 0) (x := a) (rfl)
  obtain rfl : vs20 = [S a] := hR19
  obtain ⟨lb26, _, vs25, hA22, hR24, hC23⟩ := hl.at (i := 1) (x := b) (rfl)
  obtain rfl : vs25 = [S b] := hR24
  refine x_draw [(0, 0), (1, 0), (2, 0), (3, 0), (4, 0), (5, 0), (6, 0), (7, 1), (8, 0)] T.mixed rfl rfl rfl (fun W => W.heap[b4]? = w1.heap[b4]? ∧ W.heap[lb21]? = w1.heap[lb21]? ∧ W.heap[lb26]? = w1.heap[lb26]? ∧ True) ⟨rfl, rfl, rfl, trivial⟩ ?_
  have o29 := hb4
  have c28 := Chg.drew w1
  generalize World.drew w1 = w27 at c28 ⊢
  have ht_lb21 : lb21 < w27.heap.size ∧ w27.heap[lb21]? = w1.heap[lb21]? := ⟨Nat.lt_of_lt_of_le hC18.lt c28.size, c28.block lb21 hC18.lt (by simp)⟩
  have ht_lb26 : lb26 < w27.heap.size ∧ w27.heap[lb26]? = w1.heap[lb26]? := ⟨Nat.lt_of_lt_of_le hC23.lt c28.size, c28.block lb26 hC23.lt (by simp)⟩
  replace HC := HC.then c28
  replace hT := hT.tr0 c28
  replace hmx := hmx.tr0 c28
  replace hl := hl.tr0 c28
  replace hb4 := hb4.tr0 c28
  refine sq_q rfl (fun W hT => r_loadA (vs := [_, _, _, _]) T.agg34 rfl (Blk.cells (n := 4) (vs := [_, _, _, _]) (show Blk W b4 _ _ from hT.1.trans o29) rfl) rfl) <| sq_q rfl (fun W hT => r_move (v := .slice _ _ _) rfl) <| sq_q rfl (fun W hT => r_indexAddr T.u25 T.size9 (congrArg (fun z => Value.slice z _ _) hA17) rfl (by decide) (by decide)) <| sq_q rfl (fun W hT => r_load1 (v := S _) T.one9 rfl (Cells.at (j := 0) (Cells.tr hC18 hT.2.1) rfl)) <| sq_q rfl (fun W hT => r_move (v := .slice _ _ _) rfl) <| sq_q rfl (fun W hT => r_indexAddr T.u25 T.size9 (congrArg (fun z => Value.slice z _ _) hA22) rfl (by decide) (by decide)) <| sq_q rfl (fun W hT => r_load1 (v := S _) T.one9 rfl (Cells.at (j := 0) (Cells.tr hC23 hT.2.2.1) rfl)) <| sq_call1 rfl (r_call (ags := [_, _, _]) rfl rfl T.ent28 rfl) (unary_spec hT hTl hF a b hmx hb) ?_
  rintro _ w30 ⟨rfl, c31⟩
  replace HC := HC.then c31
  replace hT := hT.tr0 c31
  replace hmx := hmx.tr0 c31
  replace hl := hl.tr0 c31
  replace hb4 := hb4.tr0 c31
  replace ht_lb21 := And.intro (Nat.lt_of_lt_of_le ht_lb21.1 c31.size) ((c31.block lb21 ht_lb21.1 (by simp)).trans ht_lb21.2)
  replace ht_lb26 := And.intro (Nat.lt_of_lt_of_le ht_lb26.1 c31.size) ((c31.block lb26 ht_lb26.1 (by simp)).trans ht_lb26.2)
  refine ⟨_, fun _ h => h, ⟨(Eq.trans hb4 o29.symm), (by first | assumption | exact ht_lb21.2), (by first | assumption | exact ht_lb26.2), trivial⟩, ?_⟩
  refine sq_q rfl (fun W hT => r_assign (v := .int _ _) rfl) ?_
  clear o29
  refine sq_nil <| then_n <| x_ret <| ret_tmp (v := .int _ _) rfl rfl <| ⟨?_, HC⟩
  unfold twoV; rw [if_neg h0]
  try rfl

theorem three_spec {Z : Tre} {An : Option Addr} {capn : Nat} {mx my : Int} {cwd : Int} {D : Nat → Prop} {w : World} (hT : Sl inE w D An Z) (hTl : Z.length ≤ 1000000000) (hF : FitT Z) {bl ol c : Nat} {Dl : Nat → Prop} {a b d : Bytes} (hl : Sl sE w Dl (some ⟨bl, ol, none⟩) [a, b, d]) (hc : 3 ≤ c) (hmx : MaxT w) (ht : Tab w) (ha : a.length ≤ 140737488355328) (hb : b.length ≤ 140737488355328) (hd : d.length ≤ 140737488355328) : CallR Tryz.prog 15 #[.agg ⟨[.slice An Z.length capn, .int .i64 mx, .int .i64 my, .int .i64 cwd]⟩, .slice (some ⟨bl, ol, none⟩) 3 c] w fun v w' => v = .int .i64 (threeV Z cwd a b d) ∧ Chg [] w w' := by
 replace hT := hT.mono (D' := fun k => k < w.heap.size) (fun k hk _ => hk)
 refine callR_of_wp (args := [_, _]) Tryz.func15 rfl (Nat.le_of_ble_eq_true rfl) ?_
 have HC : Chg [] w w := .refl _
 have hm1 := hmx.lt
 have ht1 := ht.lt
 refine sr rfl <| Wp rfl <| st_box (v := .agg ⟨[.slice _ _ _, .int _ _, .int _ _, .int _ _]⟩) (vs := [_, _, _, _]) rfl rfl ?_
 intro b4 w1 e2 c3 hb4
 have ge_b4 : w.heap.size ≤ b4 := by rw [e2]; exact HC.size
 have nf_hl_b4 : [a, b, d] = [] ∨ b4 ∉ ob ((some ⟨bl, ol, none⟩)) := hl.fresh (by rw [e2]; exact Nat.le_refl _)
 replace HC := HC.then c3
 replace hT := hT.tr0 c3
 replace hmx := hmx.tr0 c3
 replace hl := hl.tr0 c3
 replace ht := ht.tr0 c3
 clear e2
 refine aI rfl <| en <| x_seq <| x_block <| sr rfl <| mL rfl ?_
 obtain ⟨lb9, _, vs8, hA5, hR7, hC6⟩ := hl.at (i := 1) (x := b) (rfl)
 obtain rfl : vs8 = [S b] := hR7
 refine Wp rfl <| st_indexAddr T.u25 T.size9 (congrArg (fun z => Value.slice z _ _) hA5) rfl (by decide) (by decide) <| lS T.one9 rfl (hC6.at (j := 0) rfl) <| Wp rfl <| st_call (ags := [_]) rfl rfl T.ent29 rfl (isBin_spec b _ ht) ?_
 rintro _ w10 ⟨rfl, c11⟩
 replace HC := HC.then c11
 replace hT := hT.tr0 c11
 replace hmx := hmx.tr0 c11
 replace hl := hl.tr0 c11
 replace ht := ht.tr0 c11
 replace hb4 := hb4.tr0 c11
 refine aB rfl <| en <| x_cond rfl (fun h0 => ?_) (fun h0 => ?_)
 ·try simp only [nm, ne_eq] at h0
  refine x_seq ?_
  obtain ⟨lb16, _, vs15, hA12, hR14, hC13⟩ := hl.at (i := 0) (x := a) (rfl)
  obtain rfl : vs15 = [S a] := hR14
  obtain ⟨lb21, _, vs20, hA17, hR19, hC18⟩ := hl.at (i := 1) (x := b) (rfl)
  obtain rfl : vs20 = [S b] := hR19
  obtain ⟨lb26, _, vs25, hA22, hR24, hC23⟩ := hl.at (i := 2) (x := d) (rfl)
  obtain rfl : vs25 = [S d] := hR24
  refine x_draw [(0, 0), (1, 0), (2, 0), (3, 0), (4, 0), (5, 0), (6, 0), (7, 0), (8, 0), (9, 1), (10, 0)] T.mixed rfl rfl rfl (fun W => W.heap[b4]? = w10.heap[b4]? ∧ W.heap[lb16]? = w10.heap[lb16]? ∧ W.heap[lb21]? = w10.heap[lb21]? ∧ W.heap[lb26]? = w10.heap[lb26]? ∧ True) ⟨rfl, rfl, rfl, rfl, trivial⟩ ?_
  have o29 := hb4
  have c28 := Chg.drew w10
  generalize World.drew w10 = w27 at c28 ⊢
  have ht_lb16 : lb16 < w27.heap.size ∧ w27.heap[lb16]? = w10.heap[lb16]? := ⟨Nat.lt_of_lt_of_le hC13.lt c28.size, c28.block lb16 hC13.lt (by simp)⟩
  have ht_lb21 : lb21 < w27.heap.size ∧ w27.heap[lb21]? = w10.heap[lb21]? := ⟨Nat.lt_of_lt_of_le hC18.lt c28.size, c28.block lb21 hC18.lt (by simp)⟩
  have ht_lb26 : lb26 < w27.heap.size ∧ w27.heap[lb26]? = w10.heap[lb26]? := ⟨Nat.lt_of_lt_of_le hC23.lt c28.size, c28.block lb26 hC23.lt (by simp)⟩
  replace HC := HC.then c28
  replace hT := hT.tr0 c28
  replace hmx := hmx.tr0 c28
  replace hl := hl.tr0 c28
  replace ht := ht.tr0 c28
  replace hb4 := hb4.tr0 c28
  refine sq_q rfl (fun W hT => r_move (v := .slice _ _ _) rfl) <| sq_q rfl (fun W hT => r_indexAddr T.u25 T.size9 (congrArg (fun z => Value.slice z _ _) hA12) rfl (by decide) (by decide)) <| sq_q rfl (fun W hT => r_load1 (v := S _) T.one9 rfl (Cells.at (j := 0) (Cells.tr hC13 hT.2.1) rfl)) <| sq_q rfl (fun W hT => r_move (v := .slice _ _ _) rfl) <| sq_q rfl (fun W hT => r_indexAddr T.u25 T.size9 (congrArg (fun z => Value.slice z _ _) hA17) rfl (by decide) (by decide)) <| sq_q rfl (fun W hT => r_load1 (v := S _) T.one9 rfl (Cells.at (j := 0) (Cells.tr hC18 hT.2.2.1) rfl)) <| sq_q rfl (fun W hT => r_move (v := .slice _ _ _) rfl) <| sq_q rfl (fun W hT => r_indexAddr T.u25 T.size9 (congrArg (fun z => Value.slice z _ _) hA22) rfl (by decide) (by decide)) <| sq_q rfl (fun W hT => r_load1 (v := S _) T.one9 rfl (Cells.at (j := 0) (Cells.tr hC23 hT.2.2.2.1) rfl)) <| sq_call1 rfl (r_call (ags := [_, _, _]) rfl rfl T.ent30 rfl) (binary_spec a b d _ (by omega) (by omega)) ?_
  rintro _ w30 ⟨rfl, c31⟩
  replace HC := HC.then c31
  replace hT := hT.tr0 c31
  replace hmx := hmx.tr0 c31
  replace hl := hl.tr0 c31
  replace ht := ht.tr0 c31
  replace hb4 := hb4.tr0 c31
  replace ht_lb16 := And.intro (Nat.lt_of_lt_of_le ht_lb16.1 c31.size) ((c31.block lb16 ht_lb16.1 (by simp)).trans ht_lb16.2)
  replace ht_lb21 := And.intro (Nat.lt_of_lt_of_le ht_lb21.1 c31.size) ((c31.block lb21 ht_lb21.1 (by simp)).trans ht_lb21.2)
  replace ht_lb26 := And.intro (Nat.lt_of_lt_of_le ht_lb26.1 c31.size) ((c31.block lb26 ht_lb26.1 (by simp)).trans ht_lb26.2)
  refine ⟨_, fun _ h => h, ⟨(Eq.trans hb4 o29.symm), (by first | assumption | exact ht_lb16.2), (by first | assumption | exact ht_lb21.2), (by first | assumption | exact ht_lb26.2), trivial⟩, ?_⟩
  refine sq_q rfl (fun W hT => r_assign (v := .int _ _) rfl) ?_
  clear o29
  refine sq_nil <| then_n <| x_ret <| block_r <| then_r <| ret_tmp (v := .int _ _) rfl rfl <| ⟨?_, HC⟩
  unfold threeV; rw [if_pos (by first | assumption | simpa using h0)]
 ·try simp only [nm, ne_eq] at h0
  refine sr rfl <| mL rfl ?_
  obtain ⟨lb36, _, vs35, hA32, hR34, hC33⟩ := hl.at (i := 0) (x := a) (rfl)
  obtain rfl : vs35 = [S a] := hR34
  refine Wp rfl <| st_indexAddr T.u25 T.size9 (congrArg (fun z => Value.slice z _ _) hA32) rfl (by decide) (by decide) <| lS T.one9 rfl (hC33.at (j := 0) rfl) <| Wp rfl <| st_seql rfl rfl <| aB rfl <| en <| x_cond rfl (fun h1 => ?_) (fun h1 => ?_)
  ·try simp only [nm, ne_eq] at h1
   refine x_seq <| x_draw [(0, 0), (1, 0), (2, 0), (3, 1), (4, 1), (5, 0)] T.mixed rfl rfl rfl (fun W => W.heap[b4]? = w10.heap[b4]? ∧ True) ⟨rfl, trivial⟩ ?_
   have o39 := hb4
   have c38 := Chg.drew w10
   generalize World.drew w10 = w37 at c38 ⊢
   replace HC := HC.then c38
   replace hT := hT.tr0 c38
   replace hmx := hmx.tr0 c38
   replace hl := hl.tr0 c38
   replace ht := ht.tr0 c38
   replace hb4 := hb4.tr0 c38
   refine sq_q rfl (fun W hT => r_loadA (vs := [_, _, _, _]) T.agg34 rfl (Blk.cells (n := 4) (vs := [_, _, _, _]) (show Blk W b4 _ _ from hT.1.trans o39) rfl) rfl) <| sq_q rfl (fun W hT => r_move (v := .slice _ _ _) rfl) <| sq_q rfl (fun W hT => r_part (i := 1) (j := 3) T.u25 T.size9 rfl ⟨_, rfl⟩ rfl (by decide) (by omega) (by omega)) <| sq_call1 rfl (r_call (ags := [_, _]) rfl rfl T.ent14 rfl) (two_spec hT hTl hF (a := b) (b := d) (by have h9 := hl.drop 1; simpa [Addr.add_lit, sE, Enc.flat] using h9) (by omega) hmx hb hd) ?_
   rintro _ w40 ⟨rfl, c41⟩
   replace HC := HC.then c41
   replace hT := hT.tr0 c41
   replace hmx := hmx.tr0 c41
   replace hl := hl.tr0 c41
   replace ht := ht.tr0 c41
   replace hb4 := hb4.tr0 c41
   refine ⟨_, fun _ h => h, ⟨(Eq.trans hb4 o39.symm), trivial⟩, ?_⟩
   refine sq_call1 rfl (r_call (ags := [_]) rfl rfl T.ent27 rfl) (turned_spec _ (two_in _ _ _ _) _) ?_
   rintro _ w42 ⟨rfl, c43⟩
   replace HC := HC.then c43
   replace hT := hT.tr0 c43
   replace hmx := hmx.tr0 c43
   replace hl := hl.tr0 c43
   replace ht := ht.tr0 c43
   replace hb4 := hb4.tr0 c43
   refine ⟨_, fun _ h => h, ⟨(Eq.trans hb4 o39.symm), trivial⟩, ?_⟩
   refine sq_q rfl (fun W hT => r_assign (v := .int _ _) rfl) ?_
   clear o39
   refine sq_nil <| then_n <| x_ret <| block_r <| then_r <| ret_tmp (v := .int _ _) rfl rfl <| ⟨?_, HC⟩
   unfold threeV; rw [if_neg (by first | assumption | simpa using h0), if_pos h1]
  ·try simp only [nm, ne_eq] at h1
   refine sr rfl <| mL rfl ?_
   obtain ⟨lb48, _, vs47, hA44, hR46, hC45⟩ := hl.at (i := 0) (x := a) (rfl)
   obtain rfl : vs47 = [S a] := hR46
   refine Wp rfl <| st_indexAddr T.u25 T.size9 (congrArg (fun z => Value.slice z _ _) hA44) rfl (by decide) (by decide) <| lS T.one9 rfl (hC45.at (j := 0) rfl) <| Wp rfl <| st_seql rfl rfl <| mB rfl <| w_split (d := 35) rfl (fun g49 => ?_) (fun g49 => ?_)
   ·try simp only [nm, ne_eq] at g49
    refine w_yes 4 35 true <| st_move (v := .slice _ _ _) rfl ?_
    obtain ⟨lb54, _, vs53, hA50, hR52, hC51⟩ := hl.at (i := 2) (x := d) (rfl)
    obtain rfl : vs53 = [S d] := hR52
    refine w_yes 4 35 true <| st_indexAddr T.u25 T.size9 (congrArg (fun z => Value.slice z _ _) hA50) rfl (by decide) (by decide) <| w_yes 4 35 true <| st_load1 (v := S _) T.one9 rfl (hC51.at (j := 0) rfl) <| w_yes 4 35 true <| st_seql rfl rfl <| pT rfl rfl <| aB rfl <| en <| x_cond rfl (fun h2 => ?_) (fun h2 => ?_)
    ·try simp only [nm, ne_eq] at h2
     refine x_seq <| x_draw [(0, 0), (1, 0), (2, 0), (3, 1), (4, 0)] T.mixed rfl rfl rfl (fun W => W.heap[b4]? = w10.heap[b4]? ∧ True) ⟨rfl, trivial⟩ ?_
     have o57 := hb4
     have c56 := Chg.drew w10
     generalize World.drew w10 = w55 at c56 ⊢
     replace HC := HC.then c56
     replace hT := hT.tr0 c56
     replace hmx := hmx.tr0 c56
     replace hl := hl.tr0 c56
     replace ht := ht.tr0 c56
     replace hb4 := hb4.tr0 c56
     refine sq_q rfl (fun W hT => r_loadA (vs := [_, _, _, _]) T.agg34 rfl (Blk.cells (n := 4) (vs := [_, _, _, _]) (show Blk W b4 _ _ from hT.1.trans o57) rfl) rfl) <| sq_q rfl (fun W hT => r_move (v := .slice _ _ _) rfl) <| sq_q rfl (fun W hT => r_part (i := 1) (j := 3) T.u25 T.size9 rfl ⟨_, rfl⟩ rfl (by decide) (by omega) (by omega)) <| sq_call1 rfl (r_call (ags := [_, _]) rfl rfl T.ent13 rfl) (one_spec (a := b) (r := [d]) (by have h9 := hl.drop 1; simpa [Addr.add_lit, sE, Enc.flat] using h9)) ?_
     rintro _ w58 ⟨rfl, c59⟩
     replace HC := HC.then c59
     replace hT := hT.tr0 c59
     replace hmx := hmx.tr0 c59
     replace hl := hl.tr0 c59
     replace ht := ht.tr0 c59
     replace hb4 := hb4.tr0 c59
     refine ⟨_, fun _ h => h, ⟨(Eq.trans hb4 o57.symm), trivial⟩, ?_⟩
     refine sq_q rfl (fun W hT => r_assign (v := .int _ _) rfl) ?_
     clear o57
     refine sq_nil <| then_n <| x_ret <| block_r <| then_r <| ret_tmp (v := .int _ _) rfl rfl <| ⟨?_, HC⟩
     unfold threeV; rw [if_neg (by first | assumption | simpa using h0), if_neg h1, if_pos ⟨by first | assumption | simp_all, by first | assumption | simp_all⟩]
    ·try simp only [nm, ne_eq] at h2
     refine x_skip <| block_n <| then_n <| sr rfl <| aI rfl <| en <| x_ret <| ret_tmp (v := .int _ _) rfl rfl <| ⟨?_, HC⟩
     unfold threeV; rw [if_neg (by first | assumption | simpa using h0), if_neg h1, if_neg (fun h => absurd h.2 (by first | assumption | simp_all))]
   ·try simp only [nm, ne_eq] at g49
    iterate 4 refine w_no 4 35 true ?_
    refine pF rfl rfl <| aB rfl <| en <| x_cond (t := false) rfl (fun h2 => ?_) (fun h2 => ?_)
    · exact absurd h2 (by decide)
    refine x_skip <| block_n <| then_n <| sr rfl <| aI rfl <| en <| x_ret <| ret_tmp (v := .int _ _) rfl rfl <| ⟨?_, HC⟩
    unfold threeV; rw [if_neg (by first | assumption | simpa using h0), if_neg h1, if_neg (fun h => absurd h.1 (by first | assumption | simp_all))]

theorem four_spec {Z : Tre} {An : Option Addr} {capn : Nat} {mx my : Int} {cwd : Int} {D : Nat → Prop} {w : World} (hT : Sl inE w D An Z) (hTl : Z.length ≤ 1000000000) (hF : FitT Z) {bl ol c : Nat} {Dl : Nat → Prop} {a b d e : Bytes} (hl : Sl sE w Dl (some ⟨bl, ol, none⟩) [a, b, d, e]) (hc : 4 ≤ c) (hmx : MaxT w) (ht : Tab w) (ha : a.length ≤ 140737488355328) (hb : b.length ≤ 140737488355328) (hd : d.length ≤ 140737488355328) (he : e.length ≤ 140737488355328) : CallR Tryz.prog 16 #[.agg ⟨[.slice An Z.length capn, .int .i64 mx, .int .i64 my, .int .i64 cwd]⟩, .slice (some ⟨bl, ol, none⟩) 4 c] w fun v w' => v = .int .i64 (fourV Z cwd a b d e) ∧ Chg [] w w' := by
 replace hT := hT.mono (D' := fun k => k < w.heap.size) (fun k hk _ => hk)
 refine callR_of_wp (args := [_, _]) Tryz.func16 rfl (Nat.le_of_ble_eq_true rfl) ?_
 have HC : Chg [] w w := .refl _
 have hm1 := hmx.lt
 have ht1 := ht.lt
 refine sr rfl <| Wp rfl <| st_box (v := .agg ⟨[.slice _ _ _, .int _ _, .int _ _, .int _ _]⟩) (vs := [_, _, _, _]) rfl rfl ?_
 intro b4 w1 e2 c3 hb4
 have ge_b4 : w.heap.size ≤ b4 := by rw [e2]; exact HC.size
 have nf_hl_b4 : [a, b, d, e] = [] ∨ b4 ∉ ob ((some ⟨bl, ol, none⟩)) := hl.fresh (by rw [e2]; exact Nat.le_refl _)
 replace HC := HC.then c3
 replace hT := hT.tr0 c3
 replace hmx := hmx.tr0 c3
 replace hl := hl.tr0 c3
 replace ht := ht.tr0 c3
 clear e2
 refine aI rfl <| en <| x_seq <| x_block <| sr rfl <| mL rfl ?_
 obtain ⟨lb9, _, vs8, hA5, hR7, hC6⟩ := hl.at (i := 0) (x := a) (rfl)
 obtain rfl : vs8 = [S a] := hR7
 refine Wp rfl <| st_indexAddr T.u25 T.size9 (congrArg (fun z => Value.slice z _ _) hA5) rfl (by decide) (by decide) <| lS T.one9 rfl (hC6.at (j := 0) rfl) <| Wp rfl <| st_seql rfl rfl <| aB rfl <| en <| x_cond rfl (fun h0 => ?_) (fun h0 => ?_)
 ·try simp only [nm, ne_eq] at h0
  refine x_seq <| x_draw [(0, 0), (1, 0), (2, 0), (3, 1), (4, 1), (5, 0)] T.mixed rfl rfl rfl (fun W => W.heap[b4]? = w1.heap[b4]? ∧ True) ⟨rfl, trivial⟩ ?_
  have o12 := hb4
  have c11 := Chg.drew w1
  generalize World.drew w1 = w10 at c11 ⊢
  replace HC := HC.then c11
  replace hT := hT.tr0 c11
  replace hmx := hmx.tr0 c11
  replace hl := hl.tr0 c11
  replace ht := ht.tr0 c11
  replace hb4 := hb4.tr0 c11
  refine sq_q rfl (fun W hT => r_loadA (vs := [_, _, _, _]) T.agg34 rfl (Blk.cells (n := 4) (vs := [_, _, _, _]) (show Blk W b4 _ _ from hT.1.trans o12) rfl) rfl) <| sq_q rfl (fun W hT => r_move (v := .slice _ _ _) rfl) <| sq_q rfl (fun W hT => r_part (i := 1) (j := 4) T.u25 T.size9 rfl ⟨_, rfl⟩ rfl (by decide) (by omega) (by omega)) <| sq_call1 rfl (r_call (ags := [_, _]) rfl rfl T.ent15 rfl) (three_spec hT hTl hF (a := b) (b := d) (d := e) (by have h9 := hl.drop 1; simpa [Addr.add_lit, sE, Enc.flat] using h9) (by omega) hmx ht hb hd he) ?_
  rintro _ w13 ⟨rfl, c14⟩
  replace HC := HC.then c14
  replace hT := hT.tr0 c14
  replace hmx := hmx.tr0 c14
  replace hl := hl.tr0 c14
  replace ht := ht.tr0 c14
  replace hb4 := hb4.tr0 c14
  refine ⟨_, fun _ h => h, ⟨(Eq.trans hb4 o12.symm), trivial⟩, ?_⟩
  refine sq_call1 rfl (r_call (ags := [_]) rfl rfl T.ent27 rfl) (turned_spec _ (three_in _ _ _ _ _) _) ?_
  rintro _ w15 ⟨rfl, c16⟩
  replace HC := HC.then c16
  replace hT := hT.tr0 c16
  replace hmx := hmx.tr0 c16
  replace hl := hl.tr0 c16
  replace ht := ht.tr0 c16
  replace hb4 := hb4.tr0 c16
  refine ⟨_, fun _ h => h, ⟨(Eq.trans hb4 o12.symm), trivial⟩, ?_⟩
  refine sq_q rfl (fun W hT => r_assign (v := .int _ _) rfl) ?_
  clear o12
  refine sq_nil <| then_n <| x_ret <| block_r <| then_r <| ret_tmp (v := .int _ _) rfl rfl <| ⟨?_, HC⟩
  unfold fourV; rw [if_pos h0]
 ·try simp only [nm, ne_eq] at h0
  refine sr rfl <| mL rfl ?_
  obtain ⟨lb21, _, vs20, hA17, hR19, hC18⟩ := hl.at (i := 0) (x := a) (rfl)
  obtain rfl : vs20 = [S a] := hR19
  refine Wp rfl <| st_indexAddr T.u25 T.size9 (congrArg (fun z => Value.slice z _ _) hA17) rfl (by decide) (by decide) <| lS T.one9 rfl (hC18.at (j := 0) rfl) <| Wp rfl <| st_seql rfl rfl <| mB rfl <| w_split (d := 20) rfl (fun g22 => ?_) (fun g22 => ?_)
  ·try simp only [nm, ne_eq] at g22
   refine w_yes 4 20 true <| st_move (v := .slice _ _ _) rfl ?_
   obtain ⟨lb27, _, vs26, hA23, hR25, hC24⟩ := hl.at (i := 3) (x := e) (rfl)
   obtain rfl : vs26 = [S e] := hR25
   refine w_yes 4 20 true <| st_indexAddr T.u25 T.size9 (congrArg (fun z => Value.slice z _ _) hA23) rfl (by decide) (by decide) <| w_yes 4 20 true <| st_load1 (v := S _) T.one9 rfl (hC24.at (j := 0) rfl) <| w_yes 4 20 true <| st_seql rfl rfl <| pT rfl rfl <| aB rfl <| en <| x_cond rfl (fun h1 => ?_) (fun h1 => ?_)
   ·try simp only [nm, ne_eq] at h1
    refine x_seq <| x_draw [(0, 0), (1, 0), (2, 0), (3, 1), (4, 0)] T.mixed rfl rfl rfl (fun W => W.heap[b4]? = w1.heap[b4]? ∧ True) ⟨rfl, trivial⟩ ?_
    have o30 := hb4
    have c29 := Chg.drew w1
    generalize World.drew w1 = w28 at c29 ⊢
    replace HC := HC.then c29
    replace hT := hT.tr0 c29
    replace hmx := hmx.tr0 c29
    replace hl := hl.tr0 c29
    replace ht := ht.tr0 c29
    replace hb4 := hb4.tr0 c29
    refine sq_q rfl (fun W hT => r_loadA (vs := [_, _, _, _]) T.agg34 rfl (Blk.cells (n := 4) (vs := [_, _, _, _]) (show Blk W b4 _ _ from hT.1.trans o30) rfl) rfl) <| sq_q rfl (fun W hT => r_move (v := .slice _ _ _) rfl) <| sq_q rfl (fun W hT => r_part (i := 1) (j := 3) T.u25 T.size9 rfl ⟨_, rfl⟩ ⟨_, rfl⟩ (by decide) (by omega) (by omega)) <| sq_call1 rfl (r_call (ags := [_, _]) rfl rfl T.ent14 rfl) (two_spec hT hTl hF (a := b) (b := d) (by have h9 := (hl.drop 1).take 2; simpa [Addr.add_lit, sE, Enc.flat] using h9) (by omega) hmx hb hd) ?_
    rintro _ w31 ⟨rfl, c32⟩
    replace HC := HC.then c32
    replace hT := hT.tr0 c32
    replace hmx := hmx.tr0 c32
    replace hl := hl.tr0 c32
    replace ht := ht.tr0 c32
    replace hb4 := hb4.tr0 c32
    refine ⟨_, fun _ h => h, ⟨(Eq.trans hb4 o30.symm), trivial⟩, ?_⟩
    refine sq_q rfl (fun W hT => r_assign (v := .int _ _) rfl) ?_
    clear o30
    refine sq_nil <| then_n <| x_ret <| block_r <| then_r <| ret_tmp (v := .int _ _) rfl rfl <| ⟨?_, HC⟩
    unfold fourV; rw [if_neg h0, if_pos ⟨by first | assumption | simp_all, by first | assumption | simp_all⟩]
   ·try simp only [nm, ne_eq] at h1
    refine x_skip <| block_n <| then_n <| sr rfl <| aI rfl <| en <| x_ret <| ret_tmp (v := .int _ _) rfl rfl <| ⟨?_, HC⟩
    unfold fourV; rw [if_neg h0, if_neg (fun h => absurd h.2 (by first | assumption | simp_all))]
  ·try simp only [nm, ne_eq] at g22
   iterate 4 refine w_no 4 20 true ?_
   refine pF rfl rfl <| aB rfl <| en <| x_cond (t := false) rfl (fun h1 => ?_) (fun h1 => ?_)
   · exact absurd h1 (by decide)
   refine x_skip <| block_n <| then_n <| sr rfl <| aI rfl <| en <| x_ret <| ret_tmp (v := .int _ _) rfl rfl <| ⟨?_, HC⟩
   unfold fourV; rw [if_neg h0, if_neg (fun h => absurd h.1 (by first | assumption | simp_all))]

end Go.Proofs.YtpelmhoocepenaaGreatDoor.K
