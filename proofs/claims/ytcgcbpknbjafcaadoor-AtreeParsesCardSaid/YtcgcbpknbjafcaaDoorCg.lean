/- Rows that are the same. -/
import Derived.Test.YtcgcbpknbjafcaaDoorCf
import Derived.Test.YtcgcbpknbjafcaaDoorKitN
set_option linter.unusedVariables false
set_option linter.unusedSimpArgs false
set_option autoImplicit false
set_option maxRecDepth 20000
namespace Go.Proofs.YtcgcbpknbjafcaaDoor.K
open Go Go.Proofs Go.RowKit

theorem nd_same {x y : Nd} : x = y ↔ x.op = y.op ∧ x.num = y.num ∧ x.name = y.name ∧ x.kids = y.kids := by
  cases x; cases y; simp

theorem RSameN_spec {a b : List Nd} {Aa Ab : Option Addr} {capa capb : Nat} {D D2 : Nat → Prop} {w : World} (ha : Sl ndE w D Aa a) (hb : Sl ndE w D2 Ab b) (hla : a.length ≤ 140737488355328) : CallR Tryd.prog 23 #[.slice Aa a.length capa, .slice Ab b.length capb] w fun v w' => v = .bool (decide (a = b)) ∧ Chg [] w w' := by
 refine callR_of_wp (args := [_, _]) Tryd.func23 rfl (Nat.le_of_ble_eq_true rfl) ?_
 have HC : Chg [] w w := .refl _
 refine sr rfl <| aB rfl <| en <| x_seq <| sr rfl <| mL rfl <| Wp rfl <| st_len (ct := #[39]) (by rw [show ((#[39] : Array TypeId)[0]?).bind Tryd.prog.underlying = some (.slice 60) from T.u39]; rfl) rfl <| mL rfl <| Wp rfl <| st_len (ct := #[39]) (by rw [show ((#[39] : Array TypeId)[0]?).bind Tryd.prog.underlying = some (.slice 60) from T.u39]; rfl) rfl <| Wp rfl <| st_neq rfl rfl <| en <| x_cond rfl (fun h0 => ?_) (fun h0 => ?_)
 ·try simp only [nm, ne_eq] at h0
  refine sr rfl <| aB rfl <| en <| x_ret <| then_r <| ret_tmp (v := .bool _) rfl rfl <| ⟨?_, HC⟩
  rw [decide_eq_false (fun e => h0 (by rw [e]))]
 ·try simp only [nm, ne_eq] at h0
  have hll : a.length = b.length := by omega
  refine x_skip <| then_n <| x_seq <| sr rfl <| aI rfl <| en <| x_block <| x_loop (ι := Nat) [4, 5, 6, 12, 13, 14, 15, 16, 17, 18, 19, 20, 21, 22, 23, 24, 25, 26, 27, 28, 29, 30, 31, 32, 33, 34, 35, 36, 37, 38, 39, 40, 41, 42, 43, 44, 45, 46, 47, 48, 49, 50, 51, 52, 53, 54, 55, 56, 57, 58, 59, 60, 61, 62, 63, 64, 65, 66, 67, 68, 69, 70, 71, 72, 73, 74, 75, 76, 77, 78, 79, 80, 81, 82, 83, 84, 85, 86, 87, 88, 89, 90, 91, 92, 93, 94, 95, 96] (fun i => [(5, .int .i64 (i : Int))]) (fun i W => (i ≤ a.length ∧ a.take i = b.take i) ∧ (Chg [] w W) ∧ (Sl ndE W D Aa a) ∧ (Sl ndE W D2 Ab b)) (fun i => a.length - i) 0 ?_ ?_ ?_
  · exact ⟨rfl, trivial⟩
  ·refine ⟨?_, HC, ha, hb⟩
   exact ⟨Nat.zero_le _, rfl⟩
  intro i G2 w1 ⟨⟨hi, ht⟩, HC, ha, hb⟩
  change wp _ _ _ _ _ (upds (over _ _ G2) [(5, .int .i64 (i : Int))]) _ _
  refine x_seq <| sr rfl <| mI rfl <| mL rfl <| Wp rfl <| st_len (ct := #[39]) (by rw [show ((#[39] : Array TypeId)[0]?).bind Tryd.prog.underlying = some (.slice 60) from T.u39]; rfl) rfl <| Wp rfl <| st_lss rfl rfl <| en <| x_cond rfl (fun h1 => ?_) (fun h1 => ?_)
  ·try simp only [nm, ne_eq] at h1
   refine x_skip <| then_n <| x_seq <| x_block <| x_seq <| x_seq ?_
   obtain ⟨p20, hx3⟩ : ∃ zz, a[i]? = some zz := ⟨_, List.getElem?_eq_getElem (by omega)⟩
   obtain ⟨lb8, _, vs7, hA4, hR6, hC5⟩ := ha.at hx3
   obtain ⟨K9, cK9, rfl, hk1_9, hk2_9, hk3_9⟩ := hR6
   obtain ⟨p25, hx10⟩ : ∃ zz, b[i]? = some zz := ⟨_, List.getElem?_eq_getElem (by omega)⟩
   obtain ⟨lb15, _, vs14, hA11, hR13, hC12⟩ := hb.at hx10
   obtain ⟨K16, cK16, rfl, hk1_16, hk2_16, hk3_16⟩ := hR13
   obtain ⟨p32, hx17⟩ : ∃ zz, a[i]? = some zz := ⟨_, List.getElem?_eq_getElem (by omega)⟩
   obtain ⟨lb22, _, vs21, hA18, hR20, hC19⟩ := ha.at hx17
   obtain ⟨K23, cK23, rfl, hk1_23, hk2_23, hk3_23⟩ := hR20
   obtain ⟨p37, hx24⟩ : ∃ zz, b[i]? = some zz := ⟨_, List.getElem?_eq_getElem (by omega)⟩
   obtain ⟨lb29, _, vs28, hA25, hR27, hC26⟩ := hb.at hx24
   obtain ⟨K30, cK30, rfl, hk1_30, hk2_30, hk3_30⟩ := hR27
   obtain ⟨p45, hx31⟩ : ∃ zz, a[i]? = some zz := ⟨_, List.getElem?_eq_getElem (by omega)⟩
   obtain ⟨lb36, _, vs35, hA32, hR34, hC33⟩ := ha.at hx31
   obtain ⟨K37, cK37, rfl, hk1_37, hk2_37, hk3_37⟩ := hR34
   obtain ⟨p50, hx38⟩ : ∃ zz, b[i]? = some zz := ⟨_, List.getElem?_eq_getElem (by omega)⟩
   obtain ⟨lb43, _, vs42, hA39, hR41, hC40⟩ := hb.at hx38
   obtain ⟨K44, cK44, rfl, hk1_44, hk2_44, hk3_44⟩ := hR41
   obtain ⟨p58, hx45⟩ : ∃ zz, a[i]? = some zz := ⟨_, List.getElem?_eq_getElem (by omega)⟩
   obtain ⟨lb50, _, vs49, hA46, hR48, hC47⟩ := ha.at hx45
   obtain ⟨K51, cK51, rfl, hk1_51, hk2_51, hk3_51⟩ := hR48
   obtain ⟨p64, hx52⟩ : ∃ zz, b[i]? = some zz := ⟨_, List.getElem?_eq_getElem (by omega)⟩
   obtain ⟨lb57, _, vs56, hA53, hR55, hC54⟩ := hb.at hx52
   obtain ⟨K58, cK58, rfl, hk1_58, hk2_58, hk3_58⟩ := hR55
   refine x_draw [(0, 0), (1, 0), (2, 0), (3, 0), (4, 0), (5, 0), (6, 0), (7, 0), (8, 0), (9, 0), (10, 0), (11, 0), (12, 0), (13, 0), (14, 0), (15, 0), (16, 0), (17, 0), (18, 0), (19, 0), (20, 0), (21, 0), (22, 0), (23, 0), (24, 0), (25, 0), (26, 0), (27, 0), (28, 0), (29, 0), (30, 0), (31, 0), (32, 0), (33, 0), (34, 0), (35, 0), (36, 0), (37, 0), (38, 0), (39, 0), (40, 0), (41, 0), (42, 0), (43, 0), (44, 0), (45, 0), (46, 0), (47, 0), (48, 0), (49, 0), (50, 0), (51, 0)] T.mixed rfl rfl rfl (fun W => W.heap[lb8]? = w1.heap[lb8]? ∧ W.heap[lb15]? = w1.heap[lb15]? ∧ W.heap[lb22]? = w1.heap[lb22]? ∧ W.heap[lb29]? = w1.heap[lb29]? ∧ W.heap[lb36]? = w1.heap[lb36]? ∧ W.heap[lb43]? = w1.heap[lb43]? ∧ W.heap[lb50]? = w1.heap[lb50]? ∧ W.heap[lb57]? = w1.heap[lb57]? ∧ True) ⟨rfl, rfl, rfl, rfl, rfl, rfl, rfl, rfl, trivial⟩ ?_
   have c60 := Chg.drew w1
   generalize World.drew w1 = w59 at c60 ⊢
   have ht_lb8 : lb8 < w59.heap.size ∧ w59.heap[lb8]? = w1.heap[lb8]? := ⟨Nat.lt_of_lt_of_le hC5.lt c60.size, c60.block lb8 hC5.lt (by simp)⟩
   have ht_lb15 : lb15 < w59.heap.size ∧ w59.heap[lb15]? = w1.heap[lb15]? := ⟨Nat.lt_of_lt_of_le hC12.lt c60.size, c60.block lb15 hC12.lt (by simp)⟩
   have ht_lb22 : lb22 < w59.heap.size ∧ w59.heap[lb22]? = w1.heap[lb22]? := ⟨Nat.lt_of_lt_of_le hC19.lt c60.size, c60.block lb22 hC19.lt (by simp)⟩
   have ht_lb29 : lb29 < w59.heap.size ∧ w59.heap[lb29]? = w1.heap[lb29]? := ⟨Nat.lt_of_lt_of_le hC26.lt c60.size, c60.block lb29 hC26.lt (by simp)⟩
   have ht_lb36 : lb36 < w59.heap.size ∧ w59.heap[lb36]? = w1.heap[lb36]? := ⟨Nat.lt_of_lt_of_le hC33.lt c60.size, c60.block lb36 hC33.lt (by simp)⟩
   have ht_lb43 : lb43 < w59.heap.size ∧ w59.heap[lb43]? = w1.heap[lb43]? := ⟨Nat.lt_of_lt_of_le hC40.lt c60.size, c60.block lb43 hC40.lt (by simp)⟩
   have ht_lb50 : lb50 < w59.heap.size ∧ w59.heap[lb50]? = w1.heap[lb50]? := ⟨Nat.lt_of_lt_of_le hC47.lt c60.size, c60.block lb50 hC47.lt (by simp)⟩
   have ht_lb57 : lb57 < w59.heap.size ∧ w59.heap[lb57]? = w1.heap[lb57]? := ⟨Nat.lt_of_lt_of_le hC54.lt c60.size, c60.block lb57 hC54.lt (by simp)⟩
   replace HC := HC.then c60
   replace ha := ha.tr0 c60
   replace hb := hb.tr0 c60
   replace hk3_9 := hk3_9.tr0 c60
   replace hk3_16 := hk3_16.tr0 c60
   replace hk3_23 := hk3_23.tr0 c60
   replace hk3_30 := hk3_30.tr0 c60
   replace hk3_37 := hk3_37.tr0 c60
   replace hk3_44 := hk3_44.tr0 c60
   replace hk3_51 := hk3_51.tr0 c60
   replace hk3_58 := hk3_58.tr0 c60
   have he14 : p32 = p20 := Option.some.inj (hx17.symm.trans hx3)
   have he27 : p45 = p20 := Option.some.inj (hx31.symm.trans hx3)
   have he40 : p58 = p20 := Option.some.inj (hx45.symm.trans hx3)
   have he19 : p37 = p25 := Option.some.inj (hx24.symm.trans hx10)
   have he32 : p50 = p25 := Option.some.inj (hx38.symm.trans hx10)
   have he46 : p64 = p25 := Option.some.inj (hx52.symm.trans hx10)
   refine sq_q rfl (fun W hT => r_move (v := .slice _ _ _) rfl) <| sq_q rfl (fun W hT => r_move (v := .int _ _) rfl) <| sq_q rfl (fun W hT => r_indexAddr T.u39 T.size60 (congrArg (fun z => Value.slice z _ _) hA4) rfl (by omega) (by omega)) <| sq_q rfl (fun W hT => r_fieldAddr T.fld60_0 rfl) <| sq_q rfl (fun W hT => r_load1 (v := S _) T.one9 rfl (Cells.at (j := 0) (Cells.tr hC5 hT.1) rfl)) <| sq_q rfl (fun W hT => r_move (v := .slice _ _ _) rfl) <| sq_q rfl (fun W hT => r_move (v := .int _ _) rfl) <| sq_q rfl (fun W hT => r_indexAddr T.u39 T.size60 (congrArg (fun z => Value.slice z _ _) hA11) rfl (by omega) (by omega)) <| sq_q rfl (fun W hT => r_fieldAddr T.fld60_0 rfl) <| sq_q rfl (fun W hT => r_load1 (v := S _) T.one9 rfl (Cells.at (j := 0) (Cells.tr hC12 hT.2.1) rfl)) <| sq_q rfl (fun W hT => r_sneq rfl rfl) <| sq_q rfl (fun W hT => r_move (v := .bool _) rfl) <| sq_split (d := 29) rfl (fun g61 => ?_) (fun g61 => ?_)
   ·try simp only [nm, ne_eq] at g61
    refine sq_no rfl rfl <| sq_no rfl rfl <| sq_no rfl rfl <| sq_no rfl rfl <| sq_no rfl rfl <| sq_no rfl rfl <| sq_no rfl rfl <| sq_no rfl rfl <| sq_no rfl rfl <| sq_no rfl rfl <| sq_no rfl rfl <| sq_q rfl (fun W hT => r_pick (b := true) (v := .bool _) rfl rfl) <| sq_q rfl (fun W hT => r_move (v := .bool _) rfl) <| sq_no rfl rfl <| sq_no rfl rfl <| sq_no rfl rfl <| sq_no rfl rfl <| sq_no rfl rfl <| sq_no rfl rfl <| sq_no rfl rfl <| sq_no rfl rfl <| sq_no rfl rfl <| sq_no rfl rfl <| sq_no rfl rfl <| sq_q rfl (fun W hT => r_pick (b := true) (v := .bool _) rfl rfl) <| sq_q rfl (fun W hT => r_move (v := .bool _) rfl) <| sq_no rfl rfl <| sq_no rfl rfl <| sq_no rfl rfl <| sq_no rfl rfl <| sq_no rfl rfl <| sq_no rfl rfl <| sq_no rfl rfl <| sq_no rfl rfl <| sq_no rfl rfl <| sq_no rfl rfl <| sq_no rfl rfl <| sq_no rfl rfl <| sq_no rfl rfl <| sq_q rfl (fun W hT => r_pick (b := true) (v := .bool _) rfl rfl) ?_
    refine sq_nil <| then_n <| x_cond (t := true) rfl (fun h2 => ?_) (fun h2 => ?_)
    rotate_left
    · exact absurd h2 (by decide)
    have hbad : decide (a = b) = false := decide_eq_false (fun e => by subst e; have hxy := Option.some.inj (hx3.symm.trans hx10); simp only [he14, he27, he40, he19, he32, he46] at *; rw [hxy] at *; simp_all)
    refine sr rfl <| aB rfl <| en <| x_ret <| then_r <| block_r <| then_r <| then_r <| block_r <| then_r <| ret_tmp (v := .bool _) rfl rfl <| ⟨?_, HC⟩
    rw [hbad]
   ·try simp only [nm, ne_eq] at g61
    refine sq_q rfl (fun W hT => r_move (v := .slice _ _ _) rfl) <| sq_q rfl (fun W hT => r_move (v := .int _ _) rfl) <| sq_q rfl (fun W hT => r_indexAddr T.u39 T.size60 (congrArg (fun z => Value.slice z _ _) hA18) rfl (by omega) (by omega)) <| sq_q rfl (fun W hT => r_fieldAddr T.fld60_1 rfl) <| sq_q rfl (fun W hT => r_load1 (v := .int _ _) T.one2 rfl (Cells.at (j := 1) (Cells.tr hC19 hT.2.2.1) rfl)) <| sq_q rfl (fun W hT => r_move (v := .slice _ _ _) rfl) <| sq_q rfl (fun W hT => r_move (v := .int _ _) rfl) <| sq_q rfl (fun W hT => r_indexAddr T.u39 T.size60 (congrArg (fun z => Value.slice z _ _) hA25) rfl (by omega) (by omega)) <| sq_q rfl (fun W hT => r_fieldAddr T.fld60_1 rfl) <| sq_q rfl (fun W hT => r_load1 (v := .int _ _) T.one2 rfl (Cells.at (j := 1) (Cells.tr hC26 hT.2.2.2.1) rfl)) <| sq_q rfl (fun W hT => r_neq rfl rfl) <| sq_q rfl (fun W hT => r_pick (b := false) (v := .bool _) rfl rfl) <| sq_q rfl (fun W hT => r_move (v := .bool _) rfl) <| sq_split (d := 42) rfl (fun g62 => ?_) (fun g62 => ?_)
    ·try simp only [nm, ne_eq] at g62
     refine sq_no rfl rfl <| sq_no rfl rfl <| sq_no rfl rfl <| sq_no rfl rfl <| sq_no rfl rfl <| sq_no rfl rfl <| sq_no rfl rfl <| sq_no rfl rfl <| sq_no rfl rfl <| sq_no rfl rfl <| sq_no rfl rfl <| sq_q rfl (fun W hT => r_pick (b := true) (v := .bool _) rfl rfl) <| sq_q rfl (fun W hT => r_move (v := .bool _) rfl) <| sq_no rfl rfl <| sq_no rfl rfl <| sq_no rfl rfl <| sq_no rfl rfl <| sq_no rfl rfl <| sq_no rfl rfl <| sq_no rfl rfl <| sq_no rfl rfl <| sq_no rfl rfl <| sq_no rfl rfl <| sq_no rfl rfl <| sq_no rfl rfl <| sq_no rfl rfl <| sq_q rfl (fun W hT => r_pick (b := true) (v := .bool _) rfl rfl) <| sq_nil <| then_n <| x_cond (t := true) rfl (fun h2 => ?_) (fun h2 => ?_)
     rotate_left
     · exact absurd h2 (by decide)
     have hbad : decide (a = b) = false := decide_eq_false (fun e => by subst e; have hxy := Option.some.inj (hx3.symm.trans hx10); simp only [he14, he27, he40, he19, he32, he46] at *; rw [hxy] at *; simp_all)
     refine sr rfl <| aB rfl <| en <| x_ret <| then_r <| block_r <| then_r <| then_r <| block_r <| then_r <| ret_tmp (v := .bool _) rfl rfl <| ⟨?_, HC⟩
     rw [hbad]
    ·try simp only [nm, ne_eq] at g62
     refine sq_q rfl (fun W hT => r_move (v := .slice _ _ _) rfl) <| sq_q rfl (fun W hT => r_move (v := .int _ _) rfl) <| sq_q rfl (fun W hT => r_indexAddr T.u39 T.size60 (congrArg (fun z => Value.slice z _ _) hA32) rfl (by omega) (by omega)) <| sq_q rfl (fun W hT => r_fieldAddr T.fld60_2 rfl) <| sq_q rfl (fun W hT => r_load1 (v := S _) T.one9 rfl (Cells.at (j := 2) (Cells.tr hC33 hT.2.2.2.2.1) rfl)) <| sq_q rfl (fun W hT => r_move (v := .slice _ _ _) rfl) <| sq_q rfl (fun W hT => r_move (v := .int _ _) rfl) <| sq_q rfl (fun W hT => r_indexAddr T.u39 T.size60 (congrArg (fun z => Value.slice z _ _) hA39) rfl (by omega) (by omega)) <| sq_q rfl (fun W hT => r_fieldAddr T.fld60_2 rfl) <| sq_q rfl (fun W hT => r_load1 (v := S _) T.one9 rfl (Cells.at (j := 2) (Cells.tr hC40 hT.2.2.2.2.2.1) rfl)) <| sq_q rfl (fun W hT => r_sneq rfl rfl) <| sq_q rfl (fun W hT => r_pick (b := false) (v := .bool _) rfl rfl) <| sq_q rfl (fun W hT => r_move (v := .bool _) rfl) <| sq_split (d := 55) rfl (fun g63 => ?_) (fun g63 => ?_)
     ·try simp only [nm, ne_eq] at g63
      refine sq_no rfl rfl <| sq_no rfl rfl <| sq_no rfl rfl <| sq_no rfl rfl <| sq_no rfl rfl <| sq_no rfl rfl <| sq_no rfl rfl <| sq_no rfl rfl <| sq_no rfl rfl <| sq_no rfl rfl <| sq_no rfl rfl <| sq_no rfl rfl <| sq_no rfl rfl <| sq_q rfl (fun W hT => r_pick (b := true) (v := .bool _) rfl rfl) <| sq_nil <| then_n <| x_cond (t := true) rfl (fun h2 => ?_) (fun h2 => ?_)
      rotate_left
      · exact absurd h2 (by decide)
      have hbad : decide (a = b) = false := decide_eq_false (fun e => by subst e; have hxy := Option.some.inj (hx3.symm.trans hx10); simp only [he14, he27, he40, he19, he32, he46] at *; rw [hxy] at *; simp_all)
      refine sr rfl <| aB rfl <| en <| x_ret <| then_r <| block_r <| then_r <| then_r <| block_r <| then_r <| ret_tmp (v := .bool _) rfl rfl <| ⟨?_, HC⟩
      rw [hbad]
     ·try simp only [nm, ne_eq] at g63
      refine sq_q rfl (fun W hT => r_move (v := .slice _ _ _) rfl) <| sq_q rfl (fun W hT => r_move (v := .int _ _) rfl) <| sq_q rfl (fun W hT => r_indexAddr T.u39 T.size60 (congrArg (fun z => Value.slice z _ _) hA46) rfl (by omega) (by omega)) <| sq_q rfl (fun W hT => r_fieldAddr T.fld60_3 rfl) <| sq_q rfl (fun W hT => r_load1 (v := .slice _ _ _) T.one58 rfl (Cells.at (j := 3) (Cells.tr hC47 hT.2.2.2.2.2.2.1) rfl)) <| sq_q rfl (fun W hT => r_len (ct := #[58]) (by rw [show ((#[58] : Array TypeId)[0]?).bind Tryd.prog.underlying = some (.slice 3) from T.u58]; rfl) rfl) <| sq_q rfl (fun W hT => r_move (v := .slice _ _ _) rfl) <| sq_q rfl (fun W hT => r_move (v := .int _ _) rfl) <| sq_q rfl (fun W hT => r_indexAddr T.u39 T.size60 (congrArg (fun z => Value.slice z _ _) hA53) rfl (by omega) (by omega)) <| sq_q rfl (fun W hT => r_fieldAddr T.fld60_3 rfl) <| sq_q rfl (fun W hT => r_load1 (v := .slice _ _ _) T.one58 rfl (Cells.at (j := 3) (Cells.tr hC54 hT.2.2.2.2.2.2.2.1) rfl)) <| sq_q rfl (fun W hT => r_len (ct := #[58]) (by rw [show ((#[58] : Array TypeId)[0]?).bind Tryd.prog.underlying = some (.slice 3) from T.u58]; rfl) rfl) <| sq_q rfl (fun W hT => r_neq rfl rfl) <| sq_q rfl (fun W hT => r_pick (b := false) (v := .bool _) rfl rfl) <| sq_nil <| then_n <| x_cond rfl (fun h2 => ?_) (fun h2 => ?_)
      ·try simp only [nm, ne_eq] at h2
       have hbad : decide (a = b) = false := decide_eq_false (fun e => by subst e; have hxy := Option.some.inj (hx3.symm.trans hx10); simp only [he14, he27, he40, he19, he32, he46] at *; rw [hxy] at *; simp_all)
       refine sr rfl <| aB rfl <| en <| x_ret <| then_r <| block_r <| then_r <| then_r <| block_r <| then_r <| ret_tmp (v := .bool _) rfl rfl <| ⟨?_, HC⟩
       rw [hbad]
      ·try simp only [nm, ne_eq] at h2
       simp only [he14, he27, he40, he19, he32, he46] at *
       have hop : p20.op = p25.op := by simp_all
       have hnum : p20.num = p25.num := by simp_all
       have hnam : p20.name = p25.name := by simp_all
       have hkl : p20.kids.length = p25.kids.length := by omega
       refine x_skip <| then_n <| sr rfl <| aI rfl <| en <| x_block <| x_loop (ι := Nat) [4, 6, 70, 71, 72, 73, 74, 75, 76, 77, 78, 79, 80, 81, 82, 83, 84, 85, 86, 87, 88, 89, 90, 91, 92, 93, 94, 95, 96] (fun j => [(6, .int .i64 (j : Int))]) (fun j W => (j ≤ p20.kids.length ∧ p20.kids.take j = p25.kids.take j) ∧ (Chg [] w W) ∧ (Sl ndE W D Aa a) ∧ (Sl ndE W D2 Ab b)) (fun j => p20.kids.length - j) 0 ?_ ?_ ?_
       · exact ⟨rfl, trivial⟩
       ·refine ⟨?_, HC, ha, hb⟩
        exact ⟨Nat.zero_le _, rfl⟩
       intro j G65 w64 ⟨⟨hj, hjt⟩, HC, ha, hb⟩
       change wp _ _ _ _ _ (upds (over _ _ G65) [(6, .int .i64 (j : Int))]) _ _
       refine x_seq <| sr rfl <| mI rfl <| mL rfl <| mI rfl ?_
       obtain ⟨lb70, _, vs69, hA66, hR68, hC67⟩ := ha.at (i := i) (x := p20) (hx3)
       obtain ⟨K71, cK71, rfl, hk1_71, hk2_71, hk3_71⟩ := hR68
       refine Wp rfl <| st_indexAddr T.u39 T.size60 (congrArg (fun z => Value.slice z _ _) hA66) rfl (by omega) (by omega) <| fa T.fld60_3 rfl <| lL T.one58 rfl (hC67.at (j := 3) rfl) <| Wp rfl <| st_len (ct := #[58]) (by rw [show ((#[58] : Array TypeId)[0]?).bind Tryd.prog.underlying = some (.slice 3) from T.u58]; rfl) rfl <| Wp rfl <| st_lss rfl rfl <| en <| x_cond rfl (fun h3 => ?_) (fun h3 => ?_)
       ·try simp only [nm, ne_eq] at h3
        refine x_skip <| then_n <| x_seq <| x_block <| x_seq ?_
        obtain ⟨lb76, _, vs75, hA72, hR74, hC73⟩ := ha.at (i := i) (x := p20) (hx3)
        obtain ⟨K77, cK77, rfl, hk1_77, hk2_77, hk3_77⟩ := hR74
        obtain ⟨x78, hx79⟩ : ∃ zz, p20.kids[j]? = some zz := ⟨_, List.getElem?_eq_getElem (by omega)⟩
        obtain ⟨lb84, _, vs83, hA80, hR82, hC81⟩ := hk3_77.at hx79
        obtain rfl : vs83 = [.int .i64 x78] := hR82
        obtain ⟨lb89, _, vs88, hA85, hR87, hC86⟩ := hb.at (i := i) (x := p25) (hx10)
        obtain ⟨K90, cK90, rfl, hk1_90, hk2_90, hk3_90⟩ := hR87
        obtain ⟨x91, hx92⟩ : ∃ zz, p25.kids[j]? = some zz := ⟨_, List.getElem?_eq_getElem (by omega)⟩
        obtain ⟨lb97, _, vs96, hA93, hR95, hC94⟩ := hk3_90.at hx92
        obtain rfl : vs96 = [.int .i64 x91] := hR95
        refine x_draw [(0, 0), (1, 0), (2, 0), (3, 0), (4, 0), (5, 0), (6, 0), (7, 0), (8, 0), (9, 0), (10, 0), (11, 0), (12, 0), (13, 0), (14, 0), (15, 0), (16, 0)] T.mixed rfl rfl rfl (fun W => W.heap[lb76]? = w64.heap[lb76]? ∧ W.heap[lb84]? = w64.heap[lb84]? ∧ W.heap[lb89]? = w64.heap[lb89]? ∧ W.heap[lb97]? = w64.heap[lb97]? ∧ True) ⟨rfl, rfl, rfl, rfl, trivial⟩ ?_
        have c99 := Chg.drew w64
        generalize World.drew w64 = w98 at c99 ⊢
        have ht_lb76 : lb76 < w98.heap.size ∧ w98.heap[lb76]? = w64.heap[lb76]? := ⟨Nat.lt_of_lt_of_le hC73.lt c99.size, c99.block lb76 hC73.lt (by simp)⟩
        have ht_lb84 : lb84 < w98.heap.size ∧ w98.heap[lb84]? = w64.heap[lb84]? := ⟨Nat.lt_of_lt_of_le hC81.lt c99.size, c99.block lb84 hC81.lt (by simp)⟩
        have ht_lb89 : lb89 < w98.heap.size ∧ w98.heap[lb89]? = w64.heap[lb89]? := ⟨Nat.lt_of_lt_of_le hC86.lt c99.size, c99.block lb89 hC86.lt (by simp)⟩
        have ht_lb97 : lb97 < w98.heap.size ∧ w98.heap[lb97]? = w64.heap[lb97]? := ⟨Nat.lt_of_lt_of_le hC94.lt c99.size, c99.block lb97 hC94.lt (by simp)⟩
        replace HC := HC.then c99
        replace ha := ha.tr0 c99
        replace hb := hb.tr0 c99
        replace hk3_71 := hk3_71.tr0 c99
        replace hk3_77 := hk3_77.tr0 c99
        replace hk3_90 := hk3_90.tr0 c99
        refine sq_q rfl (fun W hT => r_move (v := .slice _ _ _) rfl) <| sq_q rfl (fun W hT => r_move (v := .int _ _) rfl) <| sq_q rfl (fun W hT => r_indexAddr T.u39 T.size60 (congrArg (fun z => Value.slice z _ _) hA72) rfl (by omega) (by omega)) <| sq_q rfl (fun W hT => r_fieldAddr T.fld60_3 rfl) <| sq_q rfl (fun W hT => r_load1 (v := .slice _ _ _) T.one58 rfl (Cells.at (j := 3) (Cells.tr hC73 hT.1) rfl)) <| sq_q rfl (fun W hT => r_move (v := .int _ _) rfl) <| sq_q rfl (fun W hT => r_indexAddr T.u58 T.size3 (congrArg (fun z => Value.slice z _ _) hA80) rfl (by omega) (by omega)) <| sq_q rfl (fun W hT => r_load1 (v := .int _ _) T.one3 rfl (Cells.at (j := 0) (Cells.tr hC81 hT.2.1) rfl)) <| sq_q rfl (fun W hT => r_move (v := .slice _ _ _) rfl) <| sq_q rfl (fun W hT => r_move (v := .int _ _) rfl) <| sq_q rfl (fun W hT => r_indexAddr T.u39 T.size60 (congrArg (fun z => Value.slice z _ _) hA85) rfl (by omega) (by omega)) <| sq_q rfl (fun W hT => r_fieldAddr T.fld60_3 rfl) <| sq_q rfl (fun W hT => r_load1 (v := .slice _ _ _) T.one58 rfl (Cells.at (j := 3) (Cells.tr hC86 hT.2.2.1) rfl)) <| sq_q rfl (fun W hT => r_move (v := .int _ _) rfl) <| sq_q rfl (fun W hT => r_indexAddr T.u58 T.size3 (congrArg (fun z => Value.slice z _ _) hA93) rfl (by omega) (by omega)) <| sq_q rfl (fun W hT => r_load1 (v := .int _ _) T.one3 rfl (Cells.at (j := 0) (Cells.tr hC94 hT.2.2.2.1) rfl)) <| sq_q rfl (fun W hT => r_neq rfl rfl) <| sq_nil <| then_n <| x_cond rfl (fun h4 => ?_) (fun h4 => ?_)
        ·try simp only [nm, ne_eq] at h4
         have hbad : decide (a = b) = false := decide_eq_false (fun e => by subst e; have hxy := Option.some.inj (hx3.symm.trans hx10); subst hxy; exact h4 (Option.some.inj (hx79.symm.trans hx92)))
         refine sr rfl <| aB rfl <| en <| x_ret <| block_r <| then_r <| then_r <| block_r <| block_r <| then_r <| then_r <| block_r <| then_r <| ret_tmp (v := .bool _) rfl rfl <| ⟨?_, HC⟩
         rw [hbad]
        ·try simp only [nm, ne_eq] at h4
         refine x_skip <| block_n <| then_n <| x_region rfl <| mI rfl <| Wp rfl <| st_addn rfl rfl (by constructor <;> omega) <| aI rfl <| en <| ⟨j + 1, ?_, ?_, rfl, ⟨rfl, trivial⟩, ?_⟩
         ·refine ⟨?_, HC, ha, hb⟩
          exact ⟨by omega, take_same hjt hx79 hx92 h4⟩
         ·show p20.kids.length - (j + 1) < p20.kids.length - j; omega
         repeat (first | exact agree_upds agree_over rfl | refine agree_upd ?_ rfl | refine agree_upds ?_ rfl | refine agree_over_sub ?_ rfl)
       ·try simp only [nm, ne_eq] at h3
        have hkd : p20.kids = p25.kids := by rw [List.take_of_length_le (by omega), List.take_of_length_le (by omega)] at hjt; exact hjt
        refine x_exit <| then_x <| then_x <| block_x <| block_n <| then_n <| x_region rfl <| mI rfl <| Wp rfl <| st_addn rfl rfl (by constructor <;> omega) <| aI rfl <| en <| ⟨i + 1, ?_, ?_, rfl, ⟨rfl, trivial⟩, ?_⟩
        ·refine ⟨?_, HC, ha, hb⟩
         exact ⟨by omega, take_same ht hx3 hx10 (nd_same.2 ⟨hop, hnum, hnam, hkd⟩)⟩
        ·show a.length - (i + 1) < a.length - i; omega
        repeat (first | exact agree_upds agree_over rfl | refine agree_upd ?_ rfl | refine agree_upds ?_ rfl | refine agree_over_sub ?_ rfl)
  ·try simp only [nm, ne_eq] at h1
   refine x_exit <| then_x <| then_x <| block_x <| then_n <| sr rfl <| aB rfl <| en <| x_ret <| ret_tmp (v := .bool _) rfl rfl <| ⟨?_, HC⟩
   rw [decide_eq_true (by rw [List.take_of_length_le (by omega), List.take_of_length_le (by omega)] at ht; exact ht)]

end Go.Proofs.YtcgcbpknbjafcaaDoor.K
