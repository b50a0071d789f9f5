import Derived.Test.YtghjmiggobpmoaaGreatDoorTok
import Derived.Test.YtghjmiggobpmoaaGreatDoorGq
set_option linter.unusedVariables false
set_option linter.unusedSimpArgs false
set_option autoImplicit false
set_option maxRecDepth 20000
namespace Go.Proofs.YtghjmiggobpmoaaGreatDoor.K
open Go Go.Proofs Go.RowKit

theorem it_at {w : World} {D : Nat → Prop} {x : List Bytes × List Cm} {A1 A2 : Option Addr} {c1 c2 : Nat} (h : itE.R w D x [.slice A1 x.1.length c1, .slice A2 x.2.length c2]) : Sl sE w D A1 x.1 ∧ Sl cmE w D A2 x.2 ∧ capOk x.1.length c1 ∧ capOk x.2.length c2 := by
  obtain ⟨_, _, he, ⟨B1, b1, rfl, k1, k2, h1⟩, ⟨B2, b2, rfl, k3, k4, h2⟩⟩ := h
  simp only [List.cons_append, List.nil_append, List.cons.injEq, Value.slice.injEq, and_true, true_and] at he
  obtain ⟨⟨rfl, rfl⟩, rfl, rfl⟩ := he
  exact ⟨h1, h2, ⟨k1, k2⟩, ⟨k3, k4⟩⟩

theorem rtexts_spec {a b : List Bytes} {Aa Ab : Option Addr} {capa capb : Nat} {D D2 : Nat → Prop} {w : World} (ha : Sl sE w D Aa a) (hb : Sl sE w D2 Ab b) (hla : a.length ≤ 9223372036854775807) : CallR Tryz.prog 18 #[.slice Aa a.length capa, .slice Ab b.length capb] w fun v w' => EqT a b w w' v := by
 refine callR_of_wp (args := [_, _]) Tryz.func18 rfl (Nat.le_of_ble_eq_true rfl) ?_
 have HC : Chg [] w w := .refl _
 refine sr rfl <| aB rfl <| en <| x_seq <| sr rfl <| mL rfl <| Wp rfl <| st_len (ct := #[23]) (by rw [show ((#[23] : Array TypeId)[0]?).bind Tryz.prog.underlying = some (.slice 9) from T.u23]; rfl) rfl <| mL rfl <| Wp rfl <| st_len (ct := #[23]) (by rw [show ((#[23] : Array TypeId)[0]?).bind Tryz.prog.underlying = some (.slice 9) from T.u23]; rfl) rfl <| Wp rfl <| st_neq rfl rfl <| en <| x_cond rfl (fun h0 => ?_) (fun h0 => ?_)
 ·try simp only [nm, ne_eq] at h0
  refine sr rfl <| aB rfl <| en <| x_ret <| then_r <| ret_tmp (v := .bool _) rfl rfl ?_
  exact ⟨_, rfl, eq_no (fun e => h0 (by rw [e])), HC⟩
 ·try simp only [nm, ne_eq] at h0
  have hll : a.length = b.length := by omega
  refine x_skip <| then_n <| x_seq <| sr rfl <| aI rfl <| en <| x_block <| x_loop (ι := Nat) [4, 5, 11, 12, 13, 14, 15, 16, 17, 18, 19, 20, 21, 22, 23, 24, 25] (fun i => [(5, .int .i64 (i : Int))]) (fun i W => (i ≤ a.length ∧ a.take i = b.take i) ∧ (Chg [] w W) ∧ (Sl sE W D Aa a) ∧ (Sl sE W D2 Ab b)) (fun i => a.length - i) 0 ?_ ?_ ?_
  · exact ⟨rfl, trivial⟩
  ·refine ⟨?_, HC, ha, hb⟩
   exact ⟨Nat.zero_le _, rfl⟩
  intro i G2 w1 ⟨⟨hi, ht⟩, HC, ha, hb⟩
  change wp _ _ _ _ _ (upds (over _ _ G2) [(5, .int .i64 (i : Int))]) _ _
  refine x_seq <| sr rfl <| mI rfl <| mL rfl <| Wp rfl <| st_len (ct := #[23]) (by rw [show ((#[23] : Array TypeId)[0]?).bind Tryz.prog.underlying = some (.slice 9) from T.u23]; rfl) rfl <| Wp rfl <| st_lss rfl rfl <| en <| x_cond rfl (fun h1 => ?_) (fun h1 => ?_)
  ·try simp only [nm, ne_eq] at h1
   refine x_skip <| then_n <| x_seq <| x_block <| x_seq ?_
   obtain ⟨x3, hx4⟩ : ∃ zz, a[i]? = some zz := ⟨_, List.getElem?_eq_getElem (by omega)⟩
   obtain ⟨lb9, _, vs8, hA5, hR7, hC6⟩ := ha.at hx4
   obtain rfl : vs8 = [S x3] := hR7
   obtain ⟨x10, hx11⟩ : ∃ zz, b[i]? = some zz := ⟨_, List.getElem?_eq_getElem (by omega)⟩
   obtain ⟨lb16, _, vs15, hA12, hR14, hC13⟩ := hb.at hx11
   obtain rfl : vs15 = [S x10] := hR14
   refine x_draw [(0, 0), (1, 0), (2, 0), (3, 0), (4, 0), (5, 0), (6, 0), (7, 0), (8, 0)] T.mixed rfl rfl rfl (fun W => W.heap[lb9]? = w1.heap[lb9]? ∧ W.heap[lb16]? = w1.heap[lb16]? ∧ True) ⟨rfl, rfl, trivial⟩ ?_
   have c18 := Chg.drew w1
   generalize World.drew w1 = w17 at c18 ⊢
   have ht_lb9 : lb9 < w17.heap.size ∧ w17.heap[lb9]? = w1.heap[lb9]? := ⟨Nat.lt_of_lt_of_le hC6.lt c18.size, c18.block lb9 hC6.lt (by simp)⟩
   have ht_lb16 : lb16 < w17.heap.size ∧ w17.heap[lb16]? = w1.heap[lb16]? := ⟨Nat.lt_of_lt_of_le hC13.lt c18.size, c18.block lb16 hC13.lt (by simp)⟩
   replace HC := HC.then c18
   replace ha := ha.tr0 c18
   replace hb := hb.tr0 c18
   refine sq_q rfl (fun W hT => r_move (v := .slice _ _ _) rfl) <| sq_q rfl (fun W hT => r_move (v := .int _ _) rfl) <| sq_q rfl (fun W hT => r_indexAddr T.u23 T.size9 (congrArg (fun z => Value.slice z _ _) hA5) rfl (by omega) (by omega)) <| sq_q rfl (fun W hT => r_load1 (v := S _) T.one9 rfl (Cells.at (j := 0) (Cells.tr hC6 hT.1) rfl)) <| sq_q rfl (fun W hT => r_move (v := .slice _ _ _) rfl) <| sq_q rfl (fun W hT => r_move (v := .int _ _) rfl) <| sq_q rfl (fun W hT => r_indexAddr T.u23 T.size9 (congrArg (fun z => Value.slice z _ _) hA12) rfl (by omega) (by omega)) <| sq_q rfl (fun W hT => r_load1 (v := S _) T.one9 rfl (Cells.at (j := 0) (Cells.tr hC13 hT.2.1) rfl)) <| sq_q rfl (fun W hT => r_sneq rfl rfl) <| sq_nil <| then_n <| x_cond rfl (fun h2 => ?_) (fun h2 => ?_)
   ·try simp only [nm, ne_eq] at h2
    have hxn : x3 ≠ x10 := by intro e; rw [e] at h2; simp at h2
    refine sr rfl <| aB rfl <| en <| x_ret <| block_r <| then_r <| then_r <| block_r <| then_r <| ret_tmp (v := .bool _) rfl rfl ?_
    exact ⟨_, rfl, eq_no (get_ne hx4 hx11 hxn), HC⟩
   ·try simp only [nm, ne_eq] at h2
    have hxy : x3 = x10 := by simp_all
    refine x_skip <| block_n <| then_n <| x_region rfl <| mI rfl <| Wp rfl <| st_addn rfl rfl (by constructor <;> omega) <| aI rfl <| en <| ⟨i + 1, ?_, ?_, rfl, ⟨rfl, trivial⟩, ?_⟩
    ·refine ⟨?_, HC, ha, hb⟩
     exact ⟨by omega, take_same ht hx4 hx11 hxy⟩
    ·show a.length - (i + 1) < a.length - i; omega
    exact q9
  ·try simp only [nm, ne_eq] at h1
   refine x_exit <| then_x <| then_x <| block_x <| then_n <| sr rfl <| aB rfl <| en <| x_ret <| ret_tmp (v := .bool _) rfl rfl ?_
   exact ⟨_, rfl, eq_yes (by rw [List.take_of_length_le (by omega), List.take_of_length_le (by omega)] at ht; exact ht), HC⟩

theorem rcmds_spec {a b : List Cm} {Aa Ab : Option Addr} {capa capb : Nat} {D D2 : Nat → Prop} {w : World} (ha : Sl cmE w D Aa a) (hb : Sl cmE w D2 Ab b) (hla : a.length ≤ 9223372036854775807) (hp : ∀ x, x ∈ a → ∀ (y : Cm) (vx vy : List Value) (W : World) {D1 D2 : Nat → Prop}, cmE.R W D1 x vx → cmE.R W D2 y vy → CallR Tryz.prog 8 #[.agg ⟨vx⟩, .agg ⟨vy⟩] W fun v w' => EqT x y W w' v) : CallR Tryz.prog 19 #[.slice Aa a.length capa, .slice Ab b.length capb] w fun v w' => EqT a b w w' v := by
 refine callR_of_wp (args := [_, _]) Tryz.func19 rfl (Nat.le_of_ble_eq_true rfl) ?_
 have HC : Chg [] w w := .refl _
 replace ha := ha.mono (D' := (fun k => k < w.heap.size)) (fun k hk _ => hk)
 replace hb := hb.mono (D' := (fun k => k < w.heap.size)) (fun k hk _ => hk)
 refine sr rfl <| aB rfl <| en <| x_seq <| sr rfl <| mL rfl <| Wp rfl <| st_len (ct := #[27]) (by rw [show ((#[27] : Array TypeId)[0]?).bind Tryz.prog.underlying = some (.slice 30) from T.u27]; rfl) rfl <| mL rfl <| Wp rfl <| st_len (ct := #[27]) (by rw [show ((#[27] : Array TypeId)[0]?).bind Tryz.prog.underlying = some (.slice 30) from T.u27]; rfl) rfl <| Wp rfl <| st_neq rfl rfl <| en <| x_cond rfl (fun h0 => ?_) (fun h0 => ?_)
 ·try simp only [nm, ne_eq] at h0
  refine sr rfl <| aB rfl <| en <| x_ret <| then_r <| ret_tmp (v := .bool _) rfl rfl ?_
  exact ⟨_, rfl, eq_no (fun e => h0 (by rw [e])), HC⟩
 ·try simp only [nm, ne_eq] at h0
  have hll : a.length = b.length := by omega
  refine x_skip <| then_n <| x_seq <| sr rfl <| aI rfl <| en <| x_block <| x_loop (ι := Nat) [4, 5, 11, 12, 13, 14, 15, 16, 17, 18, 19, 20, 21, 22, 23, 24, 25, 26] (fun i => [(5, .int .i64 (i : Int))]) (fun i W => (i ≤ a.length ∧ a.take i = b.take i) ∧ (Chg [] w W) ∧ (Sl cmE W (fun k => k < w.heap.size) Aa a) ∧ (Sl cmE W (fun k => k < w.heap.size) Ab b)) (fun i => a.length - i) 0 ?_ ?_ ?_
  · exact ⟨rfl, trivial⟩
  ·refine ⟨?_, HC, ha, hb⟩
   exact ⟨Nat.zero_le _, rfl⟩
  intro i G2 w1 ⟨⟨hi, ht⟩, HC, ha, hb⟩
  change wp _ _ _ _ _ (upds (over _ _ G2) [(5, .int .i64 (i : Int))]) _ _
  refine x_seq <| sr rfl <| mI rfl <| mL rfl <| Wp rfl <| st_len (ct := #[27]) (by rw [show ((#[27] : Array TypeId)[0]?).bind Tryz.prog.underlying = some (.slice 30) from T.u27]; rfl) rfl <| Wp rfl <| st_lss rfl rfl <| en <| x_cond rfl (fun h1 => ?_) (fun h1 => ?_)
  ·try simp only [nm, ne_eq] at h1
   refine x_skip <| then_n <| x_seq <| x_block <| x_seq ?_
   obtain ⟨x3, hx4⟩ : ∃ zz, a[i]? = some zz := ⟨_, List.getElem?_eq_getElem (by omega)⟩
   obtain ⟨lb9, _, vs8, hA5, hR7, hC6⟩ := ha.at hx4
   have hvU := hR7
   obtain ⟨A1U, n1U, A2U, n2U, A3U, n3U, A4U, n4U, A5U, n5U, rfl, hAU, k1U, k2U, k3U, k4U, k5U⟩ := cm_open hR7
   obtain ⟨x10, hx11⟩ : ∃ zz, b[i]? = some zz := ⟨_, List.getElem?_eq_getElem (by omega)⟩
   obtain ⟨lb16, _, vs15, hA12, hR14, hC13⟩ := hb.at hx11
   have hvV := hR14
   obtain ⟨A1V, n1V, A2V, n2V, A3V, n3V, A4V, n4V, A5V, n5V, rfl, hAV, k1V, k2V, k3V, k4V, k5V⟩ := cm_open hR14
   refine x_draw [(0, 0), (1, 0), (2, 0), (3, 0), (4, 0), (5, 0), (6, 0), (7, 0), (8, 1), (9, 0)] T.mixed rfl rfl rfl (fun W => W.heap[lb9]? = w1.heap[lb9]? ∧ W.heap[lb16]? = w1.heap[lb16]? ∧ True) ⟨rfl, rfl, trivial⟩ ?_
   have c18 := Chg.drew w1
   generalize World.drew w1 = w17 at c18 ⊢
   have ht_lb9 : lb9 < w17.heap.size ∧ w17.heap[lb9]? = w1.heap[lb9]? := ⟨Nat.lt_of_lt_of_le hC6.lt c18.size, c18.block lb9 hC6.lt (by simp)⟩
   have ht_lb16 : lb16 < w17.heap.size ∧ w17.heap[lb16]? = w1.heap[lb16]? := ⟨Nat.lt_of_lt_of_le hC13.lt c18.size, c18.block lb16 hC13.lt (by simp)⟩
   replace HC := HC.then c18
   replace ha := ha.tr0 c18
   replace hb := hb.tr0 c18
   replace hvU := Enc.chg hvU c18 q8
   replace hvV := Enc.chg hvV c18 q8
   refine sq_q rfl (fun W hT => r_move (v := .slice _ _ _) rfl) <| sq_q rfl (fun W hT => r_move (v := .int _ _) rfl) <| sq_q rfl (fun W hT => r_indexAddr T.u27 T.size30 (congrArg (fun z => Value.slice z _ _) hA5) rfl (by omega) (by omega)) <| sq_q rfl (fun W hT => r_loadA (vs := [_, _, _, _, _, _, _, _, _]) T.agg30 rfl (Cells.tr hC6 hT.1) rfl) <| sq_q rfl (fun W hT => r_move (v := .slice _ _ _) rfl) <| sq_q rfl (fun W hT => r_move (v := .int _ _) rfl) <| sq_q rfl (fun W hT => r_indexAddr T.u27 T.size30 (congrArg (fun z => Value.slice z _ _) hA12) rfl (by omega) (by omega)) <| sq_q rfl (fun W hT => r_loadA (vs := [_, _, _, _, _, _, _, _, _]) T.agg30 rfl (Cells.tr hC13 hT.2.1) rfl) <| sq_call1 rfl (r_call (ags := [_, _]) rfl rfl T.ent8 rfl) (hp _ (List.mem_of_getElem? hx4) _ _ _ _ hvU hvV) ?_
   rintro _ w19 ⟨r, rfl, hr, c20⟩
   replace HC := HC.then c20
   replace ha := ha.tr0 c20
   replace hb := hb.tr0 c20
   replace ht_lb9 := And.intro (Nat.lt_of_lt_of_le ht_lb9.1 c20.size) ((c20.block lb9 ht_lb9.1 (by simp)).trans ht_lb9.2)
   replace ht_lb16 := And.intro (Nat.lt_of_lt_of_le ht_lb16.1 c20.size) ((c20.block lb16 ht_lb16.1 (by simp)).trans ht_lb16.2)
   refine ⟨_, fun _ h => h, ⟨(by first | assumption | exact ht_lb9.2), (by first | assumption | exact ht_lb16.2), trivial⟩, ?_⟩
   refine sq_q rfl (fun W hT => r_not rfl) <| sq_nil <| then_n <| x_cond rfl (fun h2 => ?_) (fun h2 => ?_)
   ·try simp only [nm, ne_eq] at h2
    refine sr rfl <| aB rfl <| en <| x_ret <| block_r <| then_r <| then_r <| block_r <| then_r <| ret_tmp (v := .bool _) rfl rfl ?_
    exact ⟨_, rfl, eq_no (get_ne hx4 hx11 (fun e => by have h7 := hr.2 e; simp_all)), HC⟩
   ·try simp only [nm, ne_eq] at h2
    have hxy : x3 = x10 := hr.1 (by first | assumption | simp_all)
    refine x_skip <| block_n <| then_n <| x_region rfl <| mI rfl <| Wp rfl <| st_addn rfl rfl (by constructor <;> omega) <| aI rfl <| en <| ⟨i + 1, ?_, ?_, rfl, ⟨rfl, trivial⟩, ?_⟩
    ·refine ⟨?_, HC, ha, hb⟩
     exact ⟨by omega, take_same ht hx4 hx11 hxy⟩
    ·show a.length - (i + 1) < a.length - i; omega
    exact q9
  ·try simp only [nm, ne_eq] at h1
   refine x_exit <| then_x <| then_x <| block_x <| then_n <| sr rfl <| aB rfl <| en <| x_ret <| ret_tmp (v := .bool _) rfl rfl ?_
   exact ⟨_, rfl, eq_yes (by rw [List.take_of_length_le (by omega), List.take_of_length_le (by omega)] at ht; exact ht), HC⟩

set_option maxHeartbeats 1600000 in
theorem rsame_step {a b : Cm} {va vb : List Value} {D1 D2 : Nat → Prop} (w : World) (ha : cmE.R w D1 a va) (hb : cmE.R w D2 b vb) (hrec : ∀ x : Cm, SizeOf.sizeOf x < SizeOf.sizeOf a → ∀ (y : Cm) (vx vy : List Value) (W : World) {D1 D2 : Nat → Prop}, cmE.R W D1 x vx → cmE.R W D2 y vy → CallR Tryz.prog 8 #[.agg ⟨vx⟩, .agg ⟨vy⟩] W fun v w' => EqT x y W w' v) : CallR Tryz.prog 8 #[.agg ⟨va⟩, .agg ⟨vb⟩] w fun v w' => EqT a b w w' v := by
 obtain ⟨A1A, n1A, A2A, n2A, A3A, n3A, A4A, n4A, A5A, n5A, rfl, hAA, k1A, k2A, k3A, k4A, k5A⟩ := cm_open ha
 obtain ⟨A1B, n1B, A2B, n2B, A3B, n3B, A4B, n4B, A5B, n5B, rfl, hAB, k1B, k2B, k3B, k4B, k5B⟩ := cm_open hb
 have ha5 := hAA.items.mono (D' := (fun k => k < w.heap.size)) (fun k hk _ => hk)
 have hb5q := hAB.items.mono (D' := (fun k => k < w.heap.size)) (fun k hk _ => hk)
 have lk1 := Nat.le_trans k1A.1 k1A.2
 have lk3 := Nat.le_trans k3A.1 k3A.2
 have lk5 := Nat.le_trans k5A.1 k5A.2
 refine callR_of_wp (args := [_, _]) Tryz.func8 rfl (Nat.le_of_ble_eq_true rfl) ?_
 have HC : Chg [] w w := .refl _
 refine sr rfl <| Wp rfl <| st_box (v := .agg ⟨[.int _ _, S _, .bool _, .bool _, .slice _ _ _, .slice _ _ _, .slice _ _ _, .slice _ _ _, .slice _ _ _]⟩) (vs := [_, _, _, _, _, _, _, _, _]) rfl rfl ?_
 intro b2 w1 e2 c3 hb4
 have ge_b2 := gB e2 HC.size
 replace HC := HC.then c3
 replace hAA := CmAt.chg hAA c3 q8
 replace hAB := CmAt.chg hAB c3 q8
 replace ha5 := ha5.tr0 c3
 replace hb5q := hb5q.tr0 c3
 clear e2
 refine Wp rfl <| st_box (v := .agg ⟨[.int _ _, S _, .bool _, .bool _, .slice _ _ _, .slice _ _ _, .slice _ _ _, .slice _ _ _, .slice _ _ _]⟩) (vs := [_, _, _, _, _, _, _, _, _]) rfl rfl ?_
 intro b3 w5 e6 c7 hb8
 have ge_b3 := gB e6 HC.size
 have ne_b2_b3 := nF e6 hb4.ne_size
 replace HC := HC.then c7
 replace hAA := CmAt.chg hAA c7 q8
 replace hAB := CmAt.chg hAB c7 q8
 replace ha5 := ha5.tr0 c7
 replace hb5q := hb5q.tr0 c7
 replace hb4 := hb4.tr0 c7
 clear e6
 refine aB rfl <| en <| x_seq <| sr rfl <| fa T.fld30_0 rfl <| lI T.one3 rfl (hb4.cell rfl) <| fa T.fld30_0 rfl <| lI T.one3 rfl (hb8.cell rfl) <| Wp rfl <| st_neq rfl rfl <| mB rfl <| w_split (d := 13) rfl (fun g9 => ?_) (fun g9 => ?_)
 ·try simp only [nm, ne_eq] at g9
  iterate 5 refine w_no 5 13 false ?_
  refine pT rfl rfl <| mB rfl ?_
  iterate 5 refine w_no 12 20 false ?_
  refine pT rfl rfl <| mB rfl ?_
  iterate 5 refine w_no 19 27 false ?_
  refine pT rfl rfl <| mB rfl ?_
  iterate 7 refine w_no 26 34 false ?_
  refine pT rfl rfl <| mB rfl ?_
  iterate 7 refine w_no 35 43 false ?_
  refine pT rfl rfl <| mB rfl ?_
  iterate 7 refine w_no 44 52 false ?_
  refine pT rfl rfl <| en <| x_cond (t := true) rfl (fun h0 => ?_) (fun h0 => ?_)
  rotate_left
  · exact absurd h0 (by decide)
  refine sr rfl <| aB rfl <| en <| x_ret <| then_r <| ret_tmp (v := .bool _) rfl rfl ?_
  exact ⟨_, rfl, eq_no (fun e => by subst e; simp_all), HC⟩
 ·try simp only [nm, ne_eq] at g9
  refine w_yes 5 13 false <| st_fieldAddr T.fld30_1 rfl <| w_yes 5 13 false <| st_load1 (v := S _) T.one9 rfl (hb4.cell rfl) <| w_yes 5 13 false <| st_fieldAddr T.fld30_1 rfl <| w_yes 5 13 false <| st_load1 (v := S _) T.one9 rfl (hb8.cell rfl) <| w_yes 5 13 false <| st_sneq rfl rfl <| pF rfl rfl <| mB rfl <| w_split (d := 20) rfl (fun g10 => ?_) (fun g10 => ?_)
  ·try simp only [nm, ne_eq] at g10
   iterate 5 refine w_no 12 20 false ?_
   refine pT rfl rfl <| mB rfl ?_
   iterate 5 refine w_no 19 27 false ?_
   refine pT rfl rfl <| mB rfl ?_
   iterate 7 refine w_no 26 34 false ?_
   refine pT rfl rfl <| mB rfl ?_
   iterate 7 refine w_no 35 43 false ?_
   refine pT rfl rfl <| mB rfl ?_
   iterate 7 refine w_no 44 52 false ?_
   refine pT rfl rfl <| en <| x_cond (t := true) rfl (fun h0 => ?_) (fun h0 => ?_)
   rotate_left
   · exact absurd h0 (by decide)
   refine sr rfl <| aB rfl <| en <| x_ret <| then_r <| ret_tmp (v := .bool _) rfl rfl ?_
   exact ⟨_, rfl, eq_no (fun e => by subst e; simp_all), HC⟩
  ·try simp only [nm, ne_eq] at g10
   refine w_yes 12 20 false <| st_fieldAddr T.fld30_2 rfl <| w_yes 12 20 false <| st_load1 (v := .bool _) T.one4 rfl (hb4.cell rfl) <| w_yes 12 20 false <| st_fieldAddr T.fld30_2 rfl <| w_yes 12 20 false <| st_load1 (v := .bool _) T.one4 rfl (hb8.cell rfl) <| w_yes 12 20 false <| st_bneq T.u4 rfl rfl <| pF rfl rfl <| mB rfl <| w_split (d := 27) rfl (fun g11 => ?_) (fun g11 => ?_)
   ·try simp only [nm, ne_eq] at g11
    iterate 5 refine w_no 19 27 false ?_
    refine pT rfl rfl <| mB rfl ?_
    iterate 7 refine w_no 26 34 false ?_
    refine pT rfl rfl <| mB rfl ?_
    iterate 7 refine w_no 35 43 false ?_
    refine pT rfl rfl <| mB rfl ?_
    iterate 7 refine w_no 44 52 false ?_
    refine pT rfl rfl <| en <| x_cond (t := true) rfl (fun h0 => ?_) (fun h0 => ?_)
    rotate_left
    · exact absurd h0 (by decide)
    refine sr rfl <| aB rfl <| en <| x_ret <| then_r <| ret_tmp (v := .bool _) rfl rfl ?_
    exact ⟨_, rfl, eq_no (fun e => by subst e; simp_all), HC⟩
   ·try simp only [nm, ne_eq] at g11
    refine w_yes 19 27 false <| st_fieldAddr T.fld30_3 rfl <| w_yes 19 27 false <| st_load1 (v := .bool _) T.one4 rfl (hb4.cell rfl) <| w_yes 19 27 false <| st_fieldAddr T.fld30_3 rfl <| w_yes 19 27 false <| st_load1 (v := .bool _) T.one4 rfl (hb8.cell rfl) <| w_yes 19 27 false <| st_bneq T.u4 rfl rfl <| pF rfl rfl <| mB rfl <| w_split (d := 34) rfl (fun g12 => ?_) (fun g12 => ?_)
    ·try simp only [nm, ne_eq] at g12
     iterate 7 refine w_no 26 34 false ?_
     refine pT rfl rfl <| mB rfl ?_
     iterate 7 refine w_no 35 43 false ?_
     refine pT rfl rfl <| mB rfl ?_
     iterate 7 refine w_no 44 52 false ?_
     refine pT rfl rfl <| en <| x_cond (t := true) rfl (fun h0 => ?_) (fun h0 => ?_)
     rotate_left
     · exact absurd h0 (by decide)
     refine sr rfl <| aB rfl <| en <| x_ret <| then_r <| ret_tmp (v := .bool _) rfl rfl ?_
     exact ⟨_, rfl, eq_no (fun e => by subst e; simp_all), HC⟩
    ·try simp only [nm, ne_eq] at g12
     refine w_yes 26 34 false <| st_fieldAddr T.fld30_4 rfl <| w_yes 26 34 false <| st_load1 (v := .slice _ _ _) T.one25 rfl (hb4.cell rfl) <| w_yes 26 34 false <| st_len (ct := #[25]) (by rw [show ((#[25] : Array TypeId)[0]?).bind Tryz.prog.underlying = some (.slice 56) from T.u25]; rfl) rfl <| w_yes 26 34 false <| st_fieldAddr T.fld30_4 rfl <| w_yes 26 34 false <| st_load1 (v := .slice _ _ _) T.one25 rfl (hb8.cell rfl) <| w_yes 26 34 false <| st_len (ct := #[25]) (by rw [show ((#[25] : Array TypeId)[0]?).bind Tryz.prog.underlying = some (.slice 56) from T.u25]; rfl) rfl <| w_yes 26 34 false <| st_neq rfl rfl <| pF rfl rfl <| mB rfl <| w_split (d := 43) rfl (fun g13 => ?_) (fun g13 => ?_)
     ·try simp only [nm, ne_eq] at g13
      iterate 7 refine w_no 35 43 false ?_
      refine pT rfl rfl <| mB rfl ?_
      iterate 7 refine w_no 44 52 false ?_
      refine pT rfl rfl <| en <| x_cond (t := true) rfl (fun h0 => ?_) (fun h0 => ?_)
      rotate_left
      · exact absurd h0 (by decide)
      refine sr rfl <| aB rfl <| en <| x_ret <| then_r <| ret_tmp (v := .bool _) rfl rfl ?_
      exact ⟨_, rfl, eq_no (fun e => by subst e; simp_all), HC⟩
     ·try simp only [nm, ne_eq] at g13
      refine w_yes 35 43 false <| st_fieldAddr T.fld30_6 rfl <| w_yes 35 43 false <| st_load1 (v := .slice _ _ _) T.one26 rfl (hb4.cell rfl) <| w_yes 35 43 false <| st_len (ct := #[26]) (by rw [show ((#[26] : Array TypeId)[0]?).bind Tryz.prog.underlying = some (.slice 40) from T.u26]; rfl) rfl <| w_yes 35 43 false <| st_fieldAddr T.fld30_6 rfl <| w_yes 35 43 false <| st_load1 (v := .slice _ _ _) T.one26 rfl (hb8.cell rfl) <| w_yes 35 43 false <| st_len (ct := #[26]) (by rw [show ((#[26] : Array TypeId)[0]?).bind Tryz.prog.underlying = some (.slice 40) from T.u26]; rfl) rfl <| w_yes 35 43 false <| st_neq rfl rfl <| pF rfl rfl <| mB rfl <| w_split (d := 52) rfl (fun g14 => ?_) (fun g14 => ?_)
      ·try simp only [nm, ne_eq] at g14
       iterate 7 refine w_no 44 52 false ?_
       refine pT rfl rfl <| en <| x_cond (t := true) rfl (fun h0 => ?_) (fun h0 => ?_)
       rotate_left
       · exact absurd h0 (by decide)
       refine sr rfl <| aB rfl <| en <| x_ret <| then_r <| ret_tmp (v := .bool _) rfl rfl ?_
       exact ⟨_, rfl, eq_no (fun e => by subst e; simp_all), HC⟩
      ·try simp only [nm, ne_eq] at g14
       refine w_yes 44 52 false <| st_fieldAddr T.fld30_8 rfl <| w_yes 44 52 false <| st_load1 (v := .slice _ _ _) T.one28 rfl (hb4.cell rfl) <| w_yes 44 52 false <| st_len (ct := #[28]) (by rw [show ((#[28] : Array TypeId)[0]?).bind Tryz.prog.underlying = some (.slice 59) from T.u28]; rfl) rfl <| w_yes 44 52 false <| st_fieldAddr T.fld30_8 rfl <| w_yes 44 52 false <| st_load1 (v := .slice _ _ _) T.one28 rfl (hb8.cell rfl) <| w_yes 44 52 false <| st_len (ct := #[28]) (by rw [show ((#[28] : Array TypeId)[0]?).bind Tryz.prog.underlying = some (.slice 59) from T.u28]; rfl) rfl <| w_yes 44 52 false <| st_neq rfl rfl <| pF rfl rfl <| en <| x_cond rfl (fun h0 => ?_) (fun h0 => ?_)
       ·try simp only [nm, ne_eq] at h0
        refine sr rfl <| aB rfl <| en <| x_ret <| then_r <| ret_tmp (v := .bool _) rfl rfl ?_
        exact ⟨_, rfl, eq_no (fun e => by subst e; simp_all), HC⟩
       ·try simp only [nm, ne_eq] at h0
        have hl1 : a.asg.length = b.asg.length := by first | omega | simp_all
        have hl3 : a.rds.length = b.rds.length := by first | omega | simp_all
        have hl5 : a.items.length = b.items.length := by first | omega | simp_all
        have hflat : a.kind = b.kind ∧ a.name = b.name ∧ a.bang = b.bang ∧ a.inn = b.inn := by refine ⟨?_, ?_, ?_, ?_⟩ <;> first | assumption | simp_all
        refine x_skip <| then_n <| x_seq <| x_seq ?_
        have ha1 := hAA.asg
        have hb1 := hAB.asg
        have ha3 := hAA.rds
        have hb3 := hAB.rds
        refine x_region rfl <| aI rfl <| en <| x_block <| x_loop (ι := Nat) [4, 5, 61, 62, 63, 64, 65, 66, 67, 68, 69, 70, 71, 72, 73, 74, 75, 76, 77, 78] (fun i => [(5, .int .i64 (i : Int))]) (fun i W => (i ≤ a.asg.length ∧ a.asg.take i = b.asg.take i) ∧ (Chg [] w W) ∧ (CmAt W D1 a A1A A2A A3A A4A A5A) ∧ (CmAt W D2 b A1B A2B A3B A4B A5B) ∧ (Sl itE W (fun k => k < w.heap.size) A5A a.items) ∧ (Sl itE W (fun k => k < w.heap.size) A5B b.items) ∧ (Blk W b2 (cmC a A1A n1A A2A n2A A3A n3A A4A n4A A5A n5A) 30) ∧ (Blk W b3 (cmC b A1B n1B A2B n2B A3B n3B A4B n4B A5B n5B) 30) ∧ (Sl pairE2 W D1 A1A a.asg) ∧ (Sl pairE2 W D2 A1B b.asg) ∧ (Sl rdrE W D1 A3A a.rds) ∧ (Sl rdrE W D2 A3B b.rds)) (fun i => a.asg.length - i) 0 ?_ ?_ ?_
        · exact ⟨rfl, trivial⟩
        ·refine ⟨?_, HC, hAA, hAB, ha5, hb5q, hb4, hb8, ha1, hb1, ha3, hb3⟩
         exact ⟨Nat.zero_le _, rfl⟩
        intro i G16 w15 ⟨⟨hi, ht⟩, HC, hAA, hAB, ha5, hb5q, hb4, hb8, ha1, hb1, ha3, hb3⟩
        change wp _ _ _ _ _ (upds (over _ _ G16) [(5, .int .i64 (i : Int))]) _ _
        refine x_seq <| sr rfl <| mI rfl <| fa T.fld30_4 rfl <| lL T.one25 rfl (hb4.cell rfl) <| Wp rfl <| st_len (ct := #[25]) (by rw [show ((#[25] : Array TypeId)[0]?).bind Tryz.prog.underlying = some (.slice 56) from T.u25]; rfl) rfl <| Wp rfl <| st_lss rfl rfl <| en <| x_cond rfl (fun h1 => ?_) (fun h1 => ?_)
        ·try simp only [nm, ne_eq] at h1
         refine x_skip <| then_n <| x_seq <| x_block <| x_seq ?_
         obtain ⟨x17, hx18⟩ : ∃ zz, a.asg[i]? = some zz := ⟨_, List.getElem?_eq_getElem (by omega)⟩
         obtain ⟨lb23, _, vs22, hA19, hR21, hC20⟩ := ha1.at hx18
         obtain rfl : vs22 = [S x17.1, S x17.2] := hR21
         obtain ⟨x24, hx25⟩ : ∃ zz, b.asg[i]? = some zz := ⟨_, List.getElem?_eq_getElem (by omega)⟩
         obtain ⟨lb30, _, vs29, hA26, hR28, hC27⟩ := hb1.at hx25
         obtain rfl : vs29 = [S x24.1, S x24.2] := hR28
         refine x_draw [(0, 0), (1, 0), (2, 0), (3, 0), (4, 0), (5, 0), (6, 0), (7, 0), (8, 0), (9, 0), (10, 0)] T.mixed rfl rfl rfl (fun W => W.heap[b2]? = w15.heap[b2]? ∧ W.heap[b3]? = w15.heap[b3]? ∧ W.heap[lb23]? = w15.heap[lb23]? ∧ W.heap[lb30]? = w15.heap[lb30]? ∧ True) ⟨rfl, rfl, rfl, rfl, trivial⟩ ?_
         have o33 := hb4
         have o34 := hb8
         have c32 := Chg.drew w15
         generalize World.drew w15 = w31 at c32 ⊢
         have ht_lb23 : lb23 < w31.heap.size ∧ w31.heap[lb23]? = w15.heap[lb23]? := ⟨Nat.lt_of_lt_of_le hC20.lt c32.size, c32.block lb23 hC20.lt (by simp)⟩
         have ht_lb30 : lb30 < w31.heap.size ∧ w31.heap[lb30]? = w15.heap[lb30]? := ⟨Nat.lt_of_lt_of_le hC27.lt c32.size, c32.block lb30 hC27.lt (by simp)⟩
         replace HC := HC.then c32
         replace hAA := CmAt.chg hAA c32 q8
         replace hAB := CmAt.chg hAB c32 q8
         replace ha5 := ha5.tr0 c32
         replace hb5q := hb5q.tr0 c32
         replace hb4 := hb4.tr0 c32
         replace hb8 := hb8.tr0 c32
         replace ha1 := ha1.tr0 c32
         replace hb1 := hb1.tr0 c32
         replace ha3 := ha3.tr0 c32
         replace hb3 := hb3.tr0 c32
         refine sq_q rfl (fun W hT => r_fieldAddr T.fld30_4 rfl) <| sq_q rfl (fun W hT => r_load1 (v := .slice _ _ _) T.one25 rfl (Blk.cell (show Blk W b2 _ _ from hT.1.trans o33) rfl)) <| sq_q rfl (fun W hT => r_move (v := .int _ _) rfl) <| sq_q rfl (fun W hT => r_indexAddr T.u25 T.size56 (congrArg (fun z => Value.slice z _ _) hA19) rfl (by omega) (by omega)) <| sq_q rfl (fun W hT => r_loadA (vs := [_, _]) T.agg56 rfl (Cells.tr hC20 hT.2.2.1) rfl) <| sq_q rfl (fun W hT => r_fieldAddr T.fld30_4 rfl) <| sq_q rfl (fun W hT => r_load1 (v := .slice _ _ _) T.one25 rfl (Blk.cell (show Blk W b3 _ _ from hT.2.1.trans o34) rfl)) <| sq_q rfl (fun W hT => r_move (v := .int _ _) rfl) <| sq_q rfl (fun W hT => r_indexAddr T.u25 T.size56 (congrArg (fun z => Value.slice z _ _) hA26) rfl (by omega) (by omega)) <| sq_q rfl (fun W hT => r_loadA (vs := [_, _]) T.agg56 rfl (Cells.tr hC27 hT.2.2.2.1) rfl) <| sq_q rfl (fun W hT => r_aneq (va := [_, _]) (vb := [_, _]) T.eq56 rfl rfl rfl) ?_
         clear o33
         clear o34
         refine sq_nil <| then_n <| x_cond rfl (fun h2 => ?_) (fun h2 => ?_)
         ·try simp only [nm, ne_eq] at h2
          refine sr rfl <| aB rfl <| en <| x_ret <| block_r <| then_r <| then_r <| block_r <| then_r <| ret_tmp (v := .bool _) rfl rfl ?_
          exact ⟨_, rfl, eq_no (fun e => by subst e; have h7 := hx18.symm.trans hx25; cases h7; simp at h2), HC⟩
         ·try simp only [nm, ne_eq] at h2
          have hxy : x17 = x24 := by cases x17; cases x24; simp_all
          refine x_skip <| block_n <| then_n <| x_region rfl <| mI rfl <| Wp rfl <| st_addn rfl rfl (by constructor <;> omega) <| aI rfl <| en <| ⟨i + 1, ?_, ?_, rfl, ⟨rfl, trivial⟩, ?_⟩
          ·refine ⟨?_, HC, hAA, hAB, ha5, hb5q, hb4, hb8, ha1, hb1, ha3, hb3⟩
           exact ⟨by omega, take_same ht hx18 hx25 hxy⟩
          ·show a.asg.length - (i + 1) < a.asg.length - i; omega
          exact q9
        ·try simp only [nm, ne_eq] at h1
         have he1 : a.asg = b.asg := by rw [List.take_of_length_le (by omega), List.take_of_length_le (by omega)] at ht; exact ht
         refine x_exit <| then_x <| then_x <| block_x <| then_n <| x_seq <| sr rfl <| aI rfl <| en <| x_block <| x_loop (ι := Nat) [4, 6, 79, 80, 81, 82, 83, 84, 85, 86, 87, 88, 89, 90, 91, 92, 93, 94, 95, 96] (fun i => [(6, .int .i64 (i : Int))]) (fun i W => (i ≤ a.rds.length ∧ a.rds.take i = b.rds.take i) ∧ (Chg [] w W) ∧ (CmAt W D1 a A1A A2A A3A A4A A5A) ∧ (CmAt W D2 b A1B A2B A3B A4B A5B) ∧ (Sl itE W (fun k => k < w.heap.size) A5A a.items) ∧ (Sl itE W (fun k => k < w.heap.size) A5B b.items) ∧ (Blk W b2 (cmC a A1A n1A A2A n2A A3A n3A A4A n4A A5A n5A) 30) ∧ (Blk W b3 (cmC b A1B n1B A2B n2B A3B n3B A4B n4B A5B n5B) 30) ∧ (Sl pairE2 W D1 A1A a.asg) ∧ (Sl pairE2 W D2 A1B b.asg) ∧ (Sl rdrE W D1 A3A a.rds) ∧ (Sl rdrE W D2 A3B b.rds)) (fun i => a.rds.length - i) 0 ?_ ?_ ?_
         · exact ⟨rfl, trivial⟩
         ·refine ⟨?_, HC, hAA, hAB, ha5, hb5q, hb4, hb8, ha1, hb1, ha3, hb3⟩
          exact ⟨Nat.zero_le _, rfl⟩
         intro i G36 w35 ⟨⟨hi, ht⟩, HC, hAA, hAB, ha5, hb5q, hb4, hb8, ha1, hb1, ha3, hb3⟩
         change wp _ _ _ _ _ (upds (over _ _ G36) [(6, .int .i64 (i : Int))]) _ _
         refine x_seq <| sr rfl <| mI rfl <| fa T.fld30_6 rfl <| lL T.one26 rfl (hb4.cell rfl) <| Wp rfl <| st_len (ct := #[26]) (by rw [show ((#[26] : Array TypeId)[0]?).bind Tryz.prog.underlying = some (.slice 40) from T.u26]; rfl) rfl <| Wp rfl <| st_lss rfl rfl <| en <| x_cond rfl (fun h3 => ?_) (fun h3 => ?_)
         ·try simp only [nm, ne_eq] at h3
          refine x_skip <| then_n <| x_seq <| x_block <| x_seq ?_
          obtain ⟨x37, hx38⟩ : ∃ zz, a.rds[i]? = some zz := ⟨_, List.getElem?_eq_getElem (by omega)⟩
          obtain ⟨lb43, _, vs42, hA39, hR41, hC40⟩ := ha3.at hx38
          obtain rfl : vs42 = [.int .i64 x37.fd, S x37.op, S x37.word, S x37.here, .bool x37.raw] := hR41
          obtain ⟨x44, hx45⟩ : ∃ zz, b.rds[i]? = some zz := ⟨_, List.getElem?_eq_getElem (by omega)⟩
          obtain ⟨lb50, _, vs49, hA46, hR48, hC47⟩ := hb3.at hx45
          obtain rfl : vs49 = [.int .i64 x44.fd, S x44.op, S x44.word, S x44.here, .bool x44.raw] := hR48
          refine x_draw [(0, 0), (1, 0), (2, 0), (3, 0), (4, 0), (5, 0), (6, 0), (7, 0), (8, 0), (9, 0), (10, 0)] T.mixed rfl rfl rfl (fun W => W.heap[b2]? = w35.heap[b2]? ∧ W.heap[b3]? = w35.heap[b3]? ∧ W.heap[lb43]? = w35.heap[lb43]? ∧ W.heap[lb50]? = w35.heap[lb50]? ∧ True) ⟨rfl, rfl, rfl, rfl, trivial⟩ ?_
          have o53 := hb4
          have o54 := hb8
          have c52 := Chg.drew w35
          generalize World.drew w35 = w51 at c52 ⊢
          have ht_lb43 : lb43 < w51.heap.size ∧ w51.heap[lb43]? = w35.heap[lb43]? := ⟨Nat.lt_of_lt_of_le hC40.lt c52.size, c52.block lb43 hC40.lt (by simp)⟩
          have ht_lb50 : lb50 < w51.heap.size ∧ w51.heap[lb50]? = w35.heap[lb50]? := ⟨Nat.lt_of_lt_of_le hC47.lt c52.size, c52.block lb50 hC47.lt (by simp)⟩
          replace HC := HC.then c52
          replace hAA := CmAt.chg hAA c52 q8
          replace hAB := CmAt.chg hAB c52 q8
          replace ha5 := ha5.tr0 c52
          replace hb5q := hb5q.tr0 c52
          replace hb4 := hb4.tr0 c52
          replace hb8 := hb8.tr0 c52
          replace ha1 := ha1.tr0 c52
          replace hb1 := hb1.tr0 c52
          replace ha3 := ha3.tr0 c52
          replace hb3 := hb3.tr0 c52
          refine sq_q rfl (fun W hT => r_fieldAddr T.fld30_6 rfl) <| sq_q rfl (fun W hT => r_load1 (v := .slice _ _ _) T.one26 rfl (Blk.cell (show Blk W b2 _ _ from hT.1.trans o53) rfl)) <| sq_q rfl (fun W hT => r_move (v := .int _ _) rfl) <| sq_q rfl (fun W hT => r_indexAddr T.u26 T.size40 (congrArg (fun z => Value.slice z _ _) hA39) rfl (by omega) (by omega)) <| sq_q rfl (fun W hT => r_loadA (vs := [_, _, _, _, _]) T.agg40 rfl (Cells.tr hC40 hT.2.2.1) rfl) <| sq_q rfl (fun W hT => r_fieldAddr T.fld30_6 rfl) <| sq_q rfl (fun W hT => r_load1 (v := .slice _ _ _) T.one26 rfl (Blk.cell (show Blk W b3 _ _ from hT.2.1.trans o54) rfl)) <| sq_q rfl (fun W hT => r_move (v := .int _ _) rfl) <| sq_q rfl (fun W hT => r_indexAddr T.u26 T.size40 (congrArg (fun z => Value.slice z _ _) hA46) rfl (by omega) (by omega)) <| sq_q rfl (fun W hT => r_loadA (vs := [_, _, _, _, _]) T.agg40 rfl (Cells.tr hC47 hT.2.2.2.1) rfl) <| sq_q rfl (fun W hT => r_aneq (va := [_, _, _, _, _]) (vb := [_, _, _, _, _]) T.eq40 rfl rfl rfl) ?_
          clear o53
          clear o54
          refine sq_nil <| then_n <| x_cond rfl (fun h4 => ?_) (fun h4 => ?_)
          ·try simp only [nm, ne_eq] at h4
           refine sr rfl <| aB rfl <| en <| x_ret <| block_r <| then_r <| then_r <| block_r <| then_r <| ret_tmp (v := .bool _) rfl rfl ?_
           exact ⟨_, rfl, eq_no (fun e => by subst e; have h7 := hx38.symm.trans hx45; cases h7; simp at h4), HC⟩
          ·try simp only [nm, ne_eq] at h4
           have hxy : x37 = x44 := by cases x37; cases x44; simp_all
           refine x_skip <| block_n <| then_n <| x_region rfl <| mI rfl <| Wp rfl <| st_addn rfl rfl (by constructor <;> omega) <| aI rfl <| en <| ⟨i + 1, ?_, ?_, rfl, ⟨rfl, trivial⟩, ?_⟩
           ·refine ⟨?_, HC, hAA, hAB, ha5, hb5q, hb4, hb8, ha1, hb1, ha3, hb3⟩
            exact ⟨by omega, take_same ht hx38 hx45 hxy⟩
           ·show a.rds.length - (i + 1) < a.rds.length - i; omega
           exact q9
         ·try simp only [nm, ne_eq] at h3
          have he3 : a.rds = b.rds := by rw [List.take_of_length_le (by omega), List.take_of_length_le (by omega)] at ht; exact ht
          refine x_exit <| then_x <| then_x <| block_x <| then_n <| x_seq <| sr rfl <| aI rfl <| en <| x_block <| x_loop (ι := Nat) [4, 7, 97, 98, 99, 100, 101, 102, 103, 104, 105, 106, 107, 108, 109, 110, 111, 112, 113, 114, 115, 116, 117, 118, 119, 120, 121, 122, 123, 124, 125, 126, 127, 128, 129, 130, 131, 132, 133] (fun i => [(7, .int .i64 (i : Int))]) (fun i W => (i ≤ a.items.length ∧ a.items.take i = b.items.take i) ∧ (Chg [] w W) ∧ (CmAt W D1 a A1A A2A A3A A4A A5A) ∧ (CmAt W D2 b A1B A2B A3B A4B A5B) ∧ (Sl itE W (fun k => k < w.heap.size) A5A a.items) ∧ (Sl itE W (fun k => k < w.heap.size) A5B b.items) ∧ (Blk W b2 (cmC a A1A n1A A2A n2A A3A n3A A4A n4A A5A n5A) 30) ∧ (Blk W b3 (cmC b A1B n1B A2B n2B A3B n3B A4B n4B A5B n5B) 30) ∧ (Sl pairE2 W D1 A1A a.asg) ∧ (Sl pairE2 W D2 A1B b.asg) ∧ (Sl rdrE W D1 A3A a.rds) ∧ (Sl rdrE W D2 A3B b.rds)) (fun i => a.items.length - i) 0 ?_ ?_ ?_
          · exact ⟨rfl, trivial⟩
          ·refine ⟨?_, HC, hAA, hAB, ha5, hb5q, hb4, hb8, ha1, hb1, ha3, hb3⟩
           exact ⟨Nat.zero_le _, rfl⟩
          intro i G56 w55 ⟨⟨hi, ht⟩, HC, hAA, hAB, ha5, hb5q, hb4, hb8, ha1, hb1, ha3, hb3⟩
          change wp _ _ _ _ _ (upds (over _ _ G56) [(7, .int .i64 (i : Int))]) _ _
          refine x_seq <| sr rfl <| mI rfl <| fa T.fld30_8 rfl <| lL T.one28 rfl (hb4.cell rfl) <| Wp rfl <| st_len (ct := #[28]) (by rw [show ((#[28] : Array TypeId)[0]?).bind Tryz.prog.underlying = some (.slice 59) from T.u28]; rfl) rfl <| Wp rfl <| st_lss rfl rfl <| en <| x_cond rfl (fun h5 => ?_) (fun h5 => ?_)
          ·try simp only [nm, ne_eq] at h5
           refine x_skip <| then_n <| x_seq <| x_block <| x_seq ?_
           obtain ⟨x57, hx58⟩ : ∃ zz, a.items[i]? = some zz := ⟨_, List.getElem?_eq_getElem (by omega)⟩
           obtain ⟨lb63, _, vs62, hA59, hR61, hC60⟩ := ha5.at hx58
           have hvU := hR61
           obtain ⟨_, _, rfl, ⟨I1U, m1U, rfl, k1U, k2U, hI1U⟩, ⟨I2U, m2U, rfl, k3U, k4U, hI2U⟩⟩ := hR61
           obtain ⟨x64, hx65⟩ : ∃ zz, b.items[i]? = some zz := ⟨_, List.getElem?_eq_getElem (by omega)⟩
           obtain ⟨lb70, _, vs69, hA66, hR68, hC67⟩ := hb5q.at hx65
           have hvV := hR68
           obtain ⟨_, _, rfl, ⟨I1V, m1V, rfl, k1V, k2V, hI1V⟩, ⟨I2V, m2V, rfl, k3V, k4V, hI2V⟩⟩ := hR68
           refine x_draw [(0, 0), (1, 0), (2, 0), (3, 0), (4, 0), (5, 0), (6, 0), (7, 0), (8, 0), (9, 0), (10, 0), (11, 0), (12, 1), (13, 0), (14, 0), (15, 0), (16, 0), (17, 0), (18, 0), (19, 0), (20, 0), (21, 0), (22, 0), (23, 0), (24, 0), (25, 0), (26, 0), (27, 1), (28, 0), (29, 0)] T.mixed rfl rfl rfl (fun W => W.heap[b2]? = w55.heap[b2]? ∧ W.heap[b3]? = w55.heap[b3]? ∧ W.heap[lb63]? = w55.heap[lb63]? ∧ W.heap[lb70]? = w55.heap[lb70]? ∧ W.heap[lb63]? = w55.heap[lb63]? ∧ W.heap[lb70]? = w55.heap[lb70]? ∧ True) ⟨rfl, rfl, rfl, rfl, rfl, rfl, trivial⟩ ?_
           have o73 := hb4
           have o74 := hb8
           have c72 := Chg.drew w55
           generalize World.drew w55 = w71 at c72 ⊢
           have ht_lb63 : lb63 < w71.heap.size ∧ w71.heap[lb63]? = w55.heap[lb63]? := ⟨Nat.lt_of_lt_of_le hC60.lt c72.size, c72.block lb63 hC60.lt (by simp)⟩
           have ht_lb70 : lb70 < w71.heap.size ∧ w71.heap[lb70]? = w55.heap[lb70]? := ⟨Nat.lt_of_lt_of_le hC67.lt c72.size, c72.block lb70 hC67.lt (by simp)⟩
           have ht_lb63 : lb63 < w71.heap.size ∧ w71.heap[lb63]? = w55.heap[lb63]? := ⟨Nat.lt_of_lt_of_le hC60.lt c72.size, c72.block lb63 hC60.lt (by simp)⟩
           have ht_lb70 : lb70 < w71.heap.size ∧ w71.heap[lb70]? = w55.heap[lb70]? := ⟨Nat.lt_of_lt_of_le hC67.lt c72.size, c72.block lb70 hC67.lt (by simp)⟩
           replace HC := HC.then c72
           replace hAA := CmAt.chg hAA c72 q8
           replace hAB := CmAt.chg hAB c72 q8
           replace ha5 := ha5.tr0 c72
           replace hb5q := hb5q.tr0 c72
           replace hb4 := hb4.tr0 c72
           replace hb8 := hb8.tr0 c72
           replace ha1 := ha1.tr0 c72
           replace hb1 := hb1.tr0 c72
           replace ha3 := ha3.tr0 c72
           replace hb3 := hb3.tr0 c72
           replace hvU := Enc.chg hvU c72 q8
           replace hvV := Enc.chg hvV c72 q8
           refine sq_q rfl (fun W hT => r_fieldAddr T.fld30_8 rfl) <| sq_q rfl (fun W hT => r_load1 (v := .slice _ _ _) T.one28 rfl (Blk.cell (show Blk W b2 _ _ from hT.1.trans o73) rfl)) <| sq_q rfl (fun W hT => r_move (v := .int _ _) rfl) <| sq_q rfl (fun W hT => r_indexAddr T.u28 T.size59 (congrArg (fun z => Value.slice z _ _) hA59) rfl (by omega) (by omega)) <| sq_q rfl (fun W hT => r_fieldAddr T.fld59_0 rfl) <| sq_q rfl (fun W hT => r_load1 (v := .slice _ _ _) T.one23 rfl (Cells.at (j := 0) (Cells.tr hC60 hT.2.2.2.2.1) rfl)) <| sq_q rfl (fun W hT => r_fieldAddr T.fld30_8 rfl) <| sq_q rfl (fun W hT => r_load1 (v := .slice _ _ _) T.one28 rfl (Blk.cell (show Blk W b3 _ _ from hT.2.1.trans o74) rfl)) <| sq_q rfl (fun W hT => r_move (v := .int _ _) rfl) <| sq_q rfl (fun W hT => r_indexAddr T.u28 T.size59 (congrArg (fun z => Value.slice z _ _) hA66) rfl (by omega) (by omega)) <| sq_q rfl (fun W hT => r_fieldAddr T.fld59_0 rfl) <| sq_q rfl (fun W hT => r_load1 (v := .slice _ _ _) T.one23 rfl (Cells.at (j := 0) (Cells.tr hC67 hT.2.2.2.2.2.1) rfl)) <| sq_call1 rfl (r_call (ags := [_, _]) rfl rfl T.ent18 rfl) (rtexts_spec (it_at hvU).1 (it_at hvV).1 (Nat.le_trans (it_at hvU).2.2.1.1 (it_at hvU).2.2.1.2)) ?_
           rintro _ w75 ⟨r1, rfl, hr1, c76⟩
           replace HC := HC.then c76
           replace hAA := CmAt.chg hAA c76 q8
           replace hAB := CmAt.chg hAB c76 q8
           replace ha5 := ha5.tr0 c76
           replace hb5q := hb5q.tr0 c76
           replace hb4 := hb4.tr0 c76
           replace hb8 := hb8.tr0 c76
           replace ha1 := ha1.tr0 c76
           replace hb1 := hb1.tr0 c76
           replace ha3 := ha3.tr0 c76
           replace hb3 := hb3.tr0 c76
           replace hvU := Enc.chg hvU c76 q8
           replace hvV := Enc.chg hvV c76 q8
           replace ht_lb63 := And.intro (Nat.lt_of_lt_of_le ht_lb63.1 c76.size) ((c76.block lb63 ht_lb63.1 (by simp)).trans ht_lb63.2)
           replace ht_lb70 := And.intro (Nat.lt_of_lt_of_le ht_lb70.1 c76.size) ((c76.block lb70 ht_lb70.1 (by simp)).trans ht_lb70.2)
           refine ⟨_, fun _ h => h, ⟨(Eq.trans hb4 o73.symm), (Eq.trans hb8 o74.symm), (by first | assumption | exact ht_lb63.2), (by first | assumption | exact ht_lb70.2), (by first | assumption | exact ht_lb63.2), (by first | assumption | exact ht_lb70.2), trivial⟩, ?_⟩
           refine sq_q rfl (fun W hT => r_not rfl) <| sq_q rfl (fun W hT => r_move (v := .bool _) rfl) <| sq_split (d := 118) rfl (fun g77 => ?_) (fun g77 => ?_)
           ·try simp only [nm, ne_eq] at g77
            refine sq_no rfl rfl <| sq_no rfl rfl <| sq_no rfl rfl <| sq_no rfl rfl <| sq_no rfl rfl <| sq_no rfl rfl <| sq_no rfl rfl <| sq_no rfl rfl <| sq_no rfl rfl <| sq_no rfl rfl <| sq_no rfl rfl <| sq_no rfl rfl <| sq_no rfl rfl <| sq_no rfl rfl <| sq_q rfl (fun W hT => r_pick (b := true) (v := .bool _) rfl rfl) ?_
            clear o73
            clear o74
            refine sq_nil <| then_n <| x_cond (t := true) rfl (fun h6 => ?_) (fun h6 => ?_)
            rotate_left
            · exact absurd h6 (by decide)
            refine sr rfl <| aB rfl <| en <| x_ret <| block_r <| then_r <| then_r <| block_r <| then_r <| ret_tmp (v := .bool _) rfl rfl ?_
            exact ⟨_, rfl, eq_no (fun e => by subst e; have h7 := hx58.symm.trans hx65; cases h7; simp_all), HC⟩
           ·try simp only [nm, ne_eq] at g77
            refine sq_q rfl (fun W hT => r_fieldAddr T.fld30_8 rfl) <| sq_q rfl (fun W hT => r_load1 (v := .slice _ _ _) T.one28 rfl (Blk.cell (show Blk W b2 _ _ from hT.1.trans o73) rfl)) <| sq_q rfl (fun W hT => r_move (v := .int _ _) rfl) <| sq_q rfl (fun W hT => r_indexAddr T.u28 T.size59 (congrArg (fun z => Value.slice z _ _) hA59) rfl (by omega) (by omega)) <| sq_q rfl (fun W hT => r_fieldAddr T.fld59_1 rfl) <| sq_q rfl (fun W hT => r_load1 (v := .slice _ _ _) T.one27 rfl (Cells.at (j := 1) (Cells.tr hC60 hT.2.2.2.2.1) rfl)) <| sq_q rfl (fun W hT => r_fieldAddr T.fld30_8 rfl) <| sq_q rfl (fun W hT => r_load1 (v := .slice _ _ _) T.one28 rfl (Blk.cell (show Blk W b3 _ _ from hT.2.1.trans o74) rfl)) <| sq_q rfl (fun W hT => r_move (v := .int _ _) rfl) <| sq_q rfl (fun W hT => r_indexAddr T.u28 T.size59 (congrArg (fun z => Value.slice z _ _) hA66) rfl (by omega) (by omega)) <| sq_q rfl (fun W hT => r_fieldAddr T.fld59_1 rfl) <| sq_q rfl (fun W hT => r_load1 (v := .slice _ _ _) T.one27 rfl (Cells.at (j := 1) (Cells.tr hC67 hT.2.2.2.2.2.1) rfl)) <| sq_call1 rfl (r_call (ags := [_, _]) rfl rfl T.ent19 rfl) (rcmds_spec (it_at hvU).2.1 (it_at hvV).2.1 (Nat.le_trans (it_at hvU).2.2.2.1 (it_at hvU).2.2.2.2) (fun k hk y vx vy W {_ _} q1 q2 => hrec k (item_size (List.mem_of_getElem? hx58) hk) y vx vy W q1 q2)) ?_
            rintro _ w78 ⟨r2, rfl, hr2, c79⟩
            replace HC := HC.then c79
            replace hAA := CmAt.chg hAA c79 q8
            replace hAB := CmAt.chg hAB c79 q8
            replace ha5 := ha5.tr0 c79
            replace hb5q := hb5q.tr0 c79
            replace hb4 := hb4.tr0 c79
            replace hb8 := hb8.tr0 c79
            replace ha1 := ha1.tr0 c79
            replace hb1 := hb1.tr0 c79
            replace ha3 := ha3.tr0 c79
            replace hb3 := hb3.tr0 c79
            replace ht_lb63 := And.intro (Nat.lt_of_lt_of_le ht_lb63.1 c79.size) ((c79.block lb63 ht_lb63.1 (by simp)).trans ht_lb63.2)
            replace ht_lb70 := And.intro (Nat.lt_of_lt_of_le ht_lb70.1 c79.size) ((c79.block lb70 ht_lb70.1 (by simp)).trans ht_lb70.2)
            refine ⟨_, fun _ h => h, ⟨(Eq.trans hb4 o73.symm), (Eq.trans hb8 o74.symm), (by first | assumption | exact ht_lb63.2), (by first | assumption | exact ht_lb70.2), (by first | assumption | exact ht_lb63.2), (by first | assumption | exact ht_lb70.2), trivial⟩, ?_⟩
            refine sq_q rfl (fun W hT => r_not rfl) <| sq_q rfl (fun W hT => r_pick (b := false) (v := .bool _) rfl rfl) ?_
            clear o73
            clear o74
            refine sq_nil <| then_n <| x_cond rfl (fun h6 => ?_) (fun h6 => ?_)
            ·try simp only [nm, ne_eq] at h6
             refine sr rfl <| aB rfl <| en <| x_ret <| block_r <| then_r <| then_r <| block_r <| then_r <| ret_tmp (v := .bool _) rfl rfl ?_
             exact ⟨_, rfl, eq_no (fun e => by subst e; have h7 := hx58.symm.trans hx65; cases h7; simp_all), HC⟩
            ·try simp only [nm, ne_eq] at h6
             have hxy : x57 = x64 := Prod.ext (hr1.1 (by first | assumption | simp_all)) (hr2.1 (by first | assumption | simp_all))
             refine x_skip <| block_n <| then_n <| x_region rfl <| mI rfl <| Wp rfl <| st_addn rfl rfl (by constructor <;> omega) <| aI rfl <| en <| ⟨i + 1, ?_, ?_, rfl, ⟨rfl, trivial⟩, ?_⟩
             ·refine ⟨?_, HC, hAA, hAB, ha5, hb5q, hb4, hb8, ha1, hb1, ha3, hb3⟩
              exact ⟨by omega, take_same ht hx58 hx65 hxy⟩
             ·show a.items.length - (i + 1) < a.items.length - i; omega
             exact q9
          ·try simp only [nm, ne_eq] at h5
           have he5 : a.items = b.items := by rw [List.take_of_length_le (by omega), List.take_of_length_le (by omega)] at ht; exact ht
           refine x_exit <| then_x <| then_x <| block_x <| then_n <| sr rfl <| fa T.fld30_5 rfl <| lL T.one23 rfl (hb4.cell rfl) <| fa T.fld30_5 rfl <| lL T.one23 rfl (hb8.cell rfl) <| Wp rfl <| st_call (ags := [_, _]) rfl rfl T.ent18 rfl (rtexts_spec hAA.words hAB.words (Nat.le_trans k2A.1 k2A.2)) ?_
           rintro _ w80 ⟨r3, rfl, hr3, c81⟩
           replace HC := HC.then c81
           replace hAA := CmAt.chg hAA c81 q8
           replace hAB := CmAt.chg hAB c81 q8
           replace hb4 := hb4.tr0 c81
           replace hb8 := hb8.tr0 c81
           refine mB rfl <| w_split (d := 139) rfl (fun g82 => ?_) (fun g82 => ?_)
           ·try simp only [nm, ne_eq] at g82
            refine w_yes 5 139 true <| st_fieldAddr T.fld30_7 rfl <| w_yes 5 139 true <| st_load1 (v := .slice _ _ _) T.one27 rfl (hb4.cell rfl) <| w_yes 5 139 true <| st_fieldAddr T.fld30_7 rfl <| w_yes 5 139 true <| st_load1 (v := .slice _ _ _) T.one27 rfl (hb8.cell rfl) <| w_yes 5 139 true <| st_call (ags := [_, _]) rfl rfl T.ent19 rfl (rcmds_spec hAA.kids hAB.kids (Nat.le_trans k4A.1 k4A.2) (fun k hk y vx vy W {_ _} q1 q2 => hrec k (kid_size hk) y vx vy W q1 q2)) ?_
            rintro _ w83 ⟨r4, rfl, hr4, c84⟩
            replace HC := HC.then c84
            refine pT rfl rfl <| aB rfl <| en <| x_ret <| ret_tmp (v := .bool _) rfl rfl <| ⟨_, rfl, ?_, HC⟩
            rw [Cm.ext]
            clear hrec
            obtain ⟨f1, f2, f3, f4⟩ := hflat
            first | (simp_all; done) | (simp [*]; done)
           ·try simp only [nm, ne_eq] at g82
            iterate 5 refine w_no 5 139 true ?_
            refine pF rfl rfl <| aB rfl <| en <| x_ret <| ret_tmp (v := .bool _) rfl rfl <| ⟨_, rfl, ?_, HC⟩
            rw [Cm.ext]
            clear hrec
            obtain ⟨f1, f2, f3, f4⟩ := hflat
            first | (simp_all; done) | (simp [*]; done)

theorem rsame_le : ∀ (n : Nat) (a : Cm), SizeOf.sizeOf a ≤ n → ∀ (b : Cm) (va vb : List Value) (w : World) {D1 D2 : Nat → Prop}, cmE.R w D1 a va → cmE.R w D2 b vb → CallR Tryz.prog 8 #[.agg ⟨va⟩, .agg ⟨vb⟩] w fun v w' => EqT a b w w' v
  | 0, a, hn, b, va, vb, w, _, _, ha, hb => rsame_step w ha hb fun x hx => absurd hx (by omega)
  | n + 1, a, hn, b, va, vb, w, _, _, ha, hb => rsame_step w ha hb fun x hx y vx vy W {_ _} h1 h2 => rsame_le n x (by omega) y vx vy W h1 h2
theorem rsame_spec {a b : Cm} {va vb : List Value} {D1 D2 : Nat → Prop} (w : World) (ha : cmE.R w D1 a va) (hb : cmE.R w D2 b vb) : CallR Tryz.prog 8 #[.agg ⟨va⟩, .agg ⟨vb⟩] w fun v w' => EqT a b w w' v := rsame_le _ a (Nat.le_refl _) b va vb w ha hb

end Go.Proofs.YtghjmiggobpmoaaGreatDoor.K
