import Derived.Test.YtghjmiggobpmoaaGreatDoorGm
import Derived.Test.YtghjmiggobpmoaaGreatDoorGramQ
set_option linter.unusedVariables false
set_option linter.unusedSimpArgs false
set_option autoImplicit false
set_option maxRecDepth 20000
namespace Go.Proofs.YtghjmiggobpmoaaGreatDoor.K
open Go Go.Proofs Go.RowKit

theorem take_same {α : Type} {a b : List α} {i : Nat} {x y : α} (h : a.take i = b.take i) (hx : a[i]? = some x) (hy : b[i]? = some y) (he : x = y) : a.take (i + 1) = b.take (i + 1) := by
  rw [List.take_add_one, List.take_add_one, h, hx, hy, he]
/-- Whether two are the same, told. -/
def EqT {α : Type} (a b : α) (w w' : World) (v : Value) : Prop := ∃ r : Bool, v = .bool r ∧ (r = true ↔ a = b) ∧ Chg [] w w'
theorem eq_no {α : Type} {a b : α} (h : a ≠ b) : (false = true ↔ a = b) := ⟨(fun h => by cases h), fun e => absurd e h⟩
theorem eq_yes {α : Type} {a b : α} (h : a = b) : (true = true ↔ a = b) := ⟨fun _ => h, fun _ => rfl⟩
theorem get_ne {α : Type} {a b : List α} {i : Nat} {x y : α} (hx : a[i]? = some x) (hy : b[i]? = some y) (h : x ≠ y) : a ≠ b := fun e => by subst e; exact h (Option.some.inj (hx.symm.trans hy))
theorem Cm.ext {a b : Cm} : a = b ↔ a.kind = b.kind ∧ a.name = b.name ∧ a.bang = b.bang ∧ a.inn = b.inn ∧ a.asg = b.asg ∧ a.words = b.words ∧ a.rds = b.rds ∧ a.kids = b.kids ∧ a.items = b.items := by
  cases a; cases b; simp only [Cm.mk.injEq, kind, name, bang, inn, asg, words, rds, kids, items]
theorem kid_size {a k : Cm} (h : k ∈ a.kids) : SizeOf.sizeOf k < SizeOf.sizeOf a := by
  cases a with
  | mk q1 q2 q3 q4 q5 q6 q7 kids items =>
    have h1 := List.sizeOf_lt_of_mem (show k ∈ kids from h)
    simp only [Cm.mk.sizeOf_spec]; omega
theorem item_size {a k : Cm} {y : List Bytes × List Cm} (hy : y ∈ a.items) (h : k ∈ y.2) : SizeOf.sizeOf k < SizeOf.sizeOf a := by
  cases a with
  | mk q1 q2 q3 q4 q5 q6 q7 kids items =>
    have h1 := List.sizeOf_lt_of_mem (show y ∈ items from hy)
    have h2 := List.sizeOf_lt_of_mem h
    obtain ⟨p, l⟩ := y
    simp only [Cm.mk.sizeOf_spec, Prod.mk.sizeOf_spec] at *; omega

theorem eqPair_spec {a b : List (Bytes × Bytes)} {Aa Ab : Option Addr} {capa capb : Nat} {D D2 : Nat → Prop} {w : World} (ha : Sl pairE2 w D Aa a) (hb : Sl pairE2 w D2 Ab b) (hla : a.length ≤ 9223372036854775807) : CallR Tryz.prog 20 #[.slice Aa a.length capa, .slice Ab b.length capb] w fun v w' => EqT a b w w' v := by
 refine callR_of_wp (args := [_, _]) Tryz.func20 rfl (Nat.le_of_ble_eq_true rfl) ?_
 have HC : Chg [] w w := .refl _
 refine sr rfl <| aB rfl <| en <| x_seq <| sr rfl <| mL rfl <| Wp rfl <| st_len (ct := #[25]) (by rw [show ((#[25] : Array TypeId)[0]?).bind Tryz.prog.underlying = some (.slice 56) from T.u25]; rfl) rfl <| mL rfl <| Wp rfl <| st_len (ct := #[25]) (by rw [show ((#[25] : Array TypeId)[0]?).bind Tryz.prog.underlying = some (.slice 56) from T.u25]; rfl) rfl <| Wp rfl <| st_neq rfl rfl <| en <| x_cond rfl (fun h0 => ?_) (fun h0 => ?_)
 ·try simp only [nm, ne_eq] at h0
  refine sr rfl <| aB rfl <| en <| x_ret <| then_r <| ret_tmp (v := .bool _) rfl rfl ?_
  exact ⟨_, rfl, eq_no (fun e => h0 (by rw [e])), HC⟩
 ·try simp only [nm, ne_eq] at h0
  have hll : a.length = b.length := by omega
  refine x_skip <| then_n <| x_seq <| sr rfl <| mL rfl <| Wp rfl <| st_len (ct := #[25]) (by rw [show ((#[25] : Array TypeId)[0]?).bind Tryz.prog.underlying = some (.slice 56) from T.u25]; rfl) rfl <| mI rfl <| en <| x_block <| x_loop (ι := Nat) [4, 5, 13, 14, 15, 16, 17, 18, 19, 20, 21, 22, 23, 24, 25] (fun i => [(13, .int .i64 (i : Int))]) (fun i W => (i ≤ a.length ∧ a.take i = b.take i) ∧ (Chg [] w W) ∧ (Sl pairE2 W D Aa a) ∧ (Sl pairE2 W D2 Ab b)) (fun i => a.length - i) 0 ?_ ?_ ?_
  · exact ⟨rfl, trivial⟩
  ·refine ⟨?_, HC, ha, hb⟩
   exact ⟨Nat.zero_le _, rfl⟩
  intro i G2 w1 ⟨⟨hi, ht⟩, HC, ha, hb⟩
  change wp _ _ _ _ _ (upds (over _ _ G2) [(13, .int .i64 (i : Int))]) _ _
  refine sr rfl <| Wp rfl <| st_lss rfl rfl <| en <| x_seq <| x_cond rfl (fun h1 => ?_) (fun h1 => ?_)
  ·try simp only [nm, ne_eq] at h1
   refine x_skip <| then_n <| x_seq <| x_block <| sr rfl <| mI rfl <| aI rfl <| en <| x_seq ?_
   obtain ⟨x3, hx4⟩ : ∃ zz, a[i]? = some zz := ⟨_, List.getElem?_eq_getElem (by omega)⟩
   obtain ⟨lb9, _, vs8, hA5, hR7, hC6⟩ := ha.at hx4
   obtain rfl : vs8 = [S x3.1, S x3.2] := hR7
   obtain ⟨x10, hx11⟩ : ∃ zz, b[i]? = some zz := ⟨_, List.getElem?_eq_getElem (by omega)⟩
   obtain ⟨lb16, _, vs15, hA12, hR14, hC13⟩ := hb.at hx11
   obtain rfl : vs15 = [S x10.1, S x10.2] := hR14
   refine x_draw [(0, 0), (1, 0), (2, 0), (3, 0), (4, 0), (5, 0), (6, 0), (7, 0), (8, 0)] T.mixed rfl rfl rfl (fun W => W.heap[lb9]? = w1.heap[lb9]? ∧ W.heap[lb16]? = w1.heap[lb16]? ∧ True) ⟨rfl, rfl, trivial⟩ ?_
   have c18 := Chg.drew w1
   generalize World.drew w1 = w17 at c18 ⊢
   have ht_lb9 : lb9 < w17.heap.size ∧ w17.heap[lb9]? = w1.heap[lb9]? := ⟨Nat.lt_of_lt_of_le hC6.lt c18.size, c18.block lb9 hC6.lt (by simp)⟩
   have ht_lb16 : lb16 < w17.heap.size ∧ w17.heap[lb16]? = w1.heap[lb16]? := ⟨Nat.lt_of_lt_of_le hC13.lt c18.size, c18.block lb16 hC13.lt (by simp)⟩
   replace HC := HC.then c18
   replace ha := ha.tr0 c18
   replace hb := hb.tr0 c18
   refine sq_q rfl (fun W hT => r_move (v := .slice _ _ _) rfl) <| sq_q rfl (fun W hT => r_move (v := .int _ _) rfl) <| sq_q rfl (fun W hT => r_indexAddr T.u25 T.size56 (congrArg (fun z => Value.slice z _ _) hA5) rfl (by omega) (by omega)) <| sq_q rfl (fun W hT => r_loadA (vs := [_, _]) T.agg56 rfl (Cells.tr hC6 hT.1) rfl) <| sq_q rfl (fun W hT => r_move (v := .slice _ _ _) rfl) <| sq_q rfl (fun W hT => r_move (v := .int _ _) rfl) <| sq_q rfl (fun W hT => r_indexAddr T.u25 T.size56 (congrArg (fun z => Value.slice z _ _) hA12) rfl (by omega) (by omega)) <| sq_q rfl (fun W hT => r_loadA (vs := [_, _]) T.agg56 rfl (Cells.tr hC13 hT.2.1) rfl) <| sq_q rfl (fun W hT => r_aneq (va := [_, _]) (vb := [_, _]) T.eq56 rfl rfl rfl) <| sq_nil <| then_n <| x_cond rfl (fun h2 => ?_) (fun h2 => ?_)
   ·try simp only [nm, ne_eq] at h2
    have hxn : x3 ≠ x10 := by intro e; rw [e] at h2; simp at h2
    refine sr rfl <| aB rfl <| en <| x_ret <| block_r <| then_r <| then_r <| block_r <| then_r <| ret_tmp (v := .bool _) rfl rfl ?_
    exact ⟨_, rfl, eq_no (get_ne hx4 hx11 hxn), HC⟩
   ·try simp only [nm, ne_eq] at h2
    have hxy : x3 = x10 := by cases x3; cases x10; simp_all
    refine x_skip <| block_n <| then_n <| x_region rfl <| Wp rfl <| st_addn rfl rfl (by constructor <;> omega) <| mI rfl <| en <| ⟨i + 1, ?_, ?_, rfl, ⟨rfl, trivial⟩, ?_⟩
    ·refine ⟨?_, HC, ha, hb⟩
     exact ⟨by omega, take_same ht hx4 hx11 hxy⟩
    ·show a.length - (i + 1) < a.length - i; omega
    repeat (first | exact agree_upds agree_over rfl | refine agree_upd ?_ rfl | refine agree_upds ?_ rfl | refine agree_over_sub ?_ rfl)
  ·try simp only [nm, ne_eq] at h1
   refine x_exit <| then_x <| then_x <| block_x <| then_n <| sr rfl <| aB rfl <| en <| x_ret <| ret_tmp (v := .bool _) rfl rfl ?_
   exact ⟨_, rfl, eq_yes (by rw [List.take_of_length_le (by omega), List.take_of_length_le (by omega)] at ht; exact ht), HC⟩

theorem eqStr_spec {a b : List Bytes} {Aa Ab : Option Addr} {capa capb : Nat} {D D2 : Nat → Prop} {w : World} (ha : Sl sE w D Aa a) (hb : Sl sE w D2 Ab b) (hla : a.length ≤ 9223372036854775807) : CallR Tryz.prog 21 #[.slice Aa a.length capa, .slice Ab b.length capb] w fun v w' => EqT a b w w' v := by
 refine callR_of_wp (args := [_, _]) Tryz.func21 rfl (Nat.le_of_ble_eq_true rfl) ?_
 have HC : Chg [] w w := .refl _
 refine sr rfl <| aB rfl <| en <| x_seq <| sr rfl <| mL rfl <| Wp rfl <| st_len (ct := #[23]) (by rw [show ((#[23] : Array TypeId)[0]?).bind Tryz.prog.underlying = some (.slice 9) from T.u23]; rfl) rfl <| mL rfl <| Wp rfl <| st_len (ct := #[23]) (by rw [show ((#[23] : Array TypeId)[0]?).bind Tryz.prog.underlying = some (.slice 9) from T.u23]; rfl) rfl <| Wp rfl <| st_neq rfl rfl <| en <| x_cond rfl (fun h0 => ?_) (fun h0 => ?_)
 ·try simp only [nm, ne_eq] at h0
  refine sr rfl <| aB rfl <| en <| x_ret <| then_r <| ret_tmp (v := .bool _) rfl rfl ?_
  exact ⟨_, rfl, eq_no (fun e => h0 (by rw [e])), HC⟩
 ·try simp only [nm, ne_eq] at h0
  have hll : a.length = b.length := by omega
  refine x_skip <| then_n <| x_seq <| sr rfl <| mL rfl <| Wp rfl <| st_len (ct := #[23]) (by rw [show ((#[23] : Array TypeId)[0]?).bind Tryz.prog.underlying = some (.slice 9) from T.u23]; rfl) rfl <| mI rfl <| en <| x_block <| x_loop (ι := Nat) [4, 5, 13, 14, 15, 16, 17, 18, 19, 20, 21, 22, 23, 24, 25] (fun i => [(13, .int .i64 (i : Int))]) (fun i W => (i ≤ a.length ∧ a.take i = b.take i) ∧ (Chg [] w W) ∧ (Sl sE W D Aa a) ∧ (Sl sE W D2 Ab b)) (fun i => a.length - i) 0 ?_ ?_ ?_
  · exact ⟨rfl, trivial⟩
  ·refine ⟨?_, HC, ha, hb⟩
   exact ⟨Nat.zero_le _, rfl⟩
  intro i G2 w1 ⟨⟨hi, ht⟩, HC, ha, hb⟩
  change wp _ _ _ _ _ (upds (over _ _ G2) [(13, .int .i64 (i : Int))]) _ _
  refine sr rfl <| Wp rfl <| st_lss rfl rfl <| en <| x_seq <| x_cond rfl (fun h1 => ?_) (fun h1 => ?_)
  ·try simp only [nm, ne_eq] at h1
   refine x_skip <| then_n <| x_seq <| x_block <| sr rfl <| mI rfl <| aI rfl <| en <| x_seq ?_
   obtain ⟨x3, hx4⟩ : ∃ zz, a[i]? = some zz := ⟨_, List.getElem?_eq_getElem (by omega)⟩
   obtain ⟨lb9, _, vs8, hA5, hR7, hC6⟩ := ha.at hx4
   obtain rfl : vs8 = [S x3] := hR7
   obtain ⟨x10, hx11⟩ : ∃ zz, b[i]? = some zz := ⟨_, List.getElem?_eq_getElem (by omega)⟩
   obtain ⟨lb16, _, vs15, hA12, hR14, hC13⟩ := hb.at hx11
   obtain rfl : vs15 = [S x10] := hR14
   refine x_draw [(0, 0), (1, 0), (2, 0), (3, 0), (4, 0), (5, 0), (6, 0), (7, 0), (8, 0)] T.mixed rfl rfl rfl (fun W => W.heap[lb9]? = w1.heap[lb9]? ∧ W.heap[lb16]? = w1.heap[lb16]? ∧ True) ⟨rfl, rfl, trivial⟩ ?_
   have c18 := Chg.drew w1
   generalize World.drew w1 = w17 at c18 ⊢
   have ht_lb9 : lb9 < w17.heap.size ∧ w17.heap[lb9]? = w1.heap[lb9]? := ⟨Nat.lt_of_lt_of_le hC6.lt c18.size, c18.block lb9 hC6.lt (by simp)⟩
   have ht_lb16 : lb16 < w17.heap.size ∧ w17.heap[lb16]? = w1.heap[lb16]? := ⟨Nat.lt_of_lt_of_le hC13.lt c18.size, c18.block lb16 hC13.lt (by simp)⟩
   replace HC := HC.then c18
   replace ha := ha.tr0 c18
   replace hb := hb.tr0 c18
   refine sq_q rfl (fun W hT => r_move (v := .slice _ _ _) rfl) <| sq_q rfl (fun W hT => r_move (v := .int _ _) rfl) <| sq_q rfl (fun W hT => r_indexAddr T.u23 T.size9 (congrArg (fun z => Value.slice z _ _) hA5) rfl (by omega) (by omega)) <| sq_q rfl (fun W hT => r_load1 (v := S _) T.one9 rfl (Cells.at (j := 0) (Cells.tr hC6 hT.1) rfl)) <| sq_q rfl (fun W hT => r_move (v := .slice _ _ _) rfl) <| sq_q rfl (fun W hT => r_move (v := .int _ _) rfl) <| sq_q rfl (fun W hT => r_indexAddr T.u23 T.size9 (congrArg (fun z => Value.slice z _ _) hA12) rfl (by omega) (by omega)) <| sq_q rfl (fun W hT => r_load1 (v := S _) T.one9 rfl (Cells.at (j := 0) (Cells.tr hC13 hT.2.1) rfl)) <| sq_q rfl (fun W hT => r_sneq rfl rfl) <| sq_nil <| then_n <| x_cond rfl (fun h2 => ?_) (fun h2 => ?_)
   ·try simp only [nm, ne_eq] at h2
    have hxn : x3 ≠ x10 := by intro e; rw [e] at h2; simp at h2
    refine sr rfl <| aB rfl <| en <| x_ret <| block_r <| then_r <| then_r <| block_r <| then_r <| ret_tmp (v := .bool _) rfl rfl ?_
    exact ⟨_, rfl, eq_no (get_ne hx4 hx11 hxn), HC⟩
   ·try simp only [nm, ne_eq] at h2
    have hxy : x3 = x10 := by simp_all
    refine x_skip <| block_n <| then_n <| x_region rfl <| Wp rfl <| st_addn rfl rfl (by constructor <;> omega) <| mI rfl <| en <| ⟨i + 1, ?_, ?_, rfl, ⟨rfl, trivial⟩, ?_⟩
    ·refine ⟨?_, HC, ha, hb⟩
     exact ⟨by omega, take_same ht hx4 hx11 hxy⟩
    ·show a.length - (i + 1) < a.length - i; omega
    repeat (first | exact agree_upds agree_over rfl | refine agree_upd ?_ rfl | refine agree_upds ?_ rfl | refine agree_over_sub ?_ rfl)
  ·try simp only [nm, ne_eq] at h1
   refine x_exit <| then_x <| then_x <| block_x <| then_n <| sr rfl <| aB rfl <| en <| x_ret <| ret_tmp (v := .bool _) rfl rfl ?_
   exact ⟨_, rfl, eq_yes (by rw [List.take_of_length_le (by omega), List.take_of_length_le (by omega)] at ht; exact ht), HC⟩

theorem eqRdr_spec {a b : List Rdr} {Aa Ab : Option Addr} {capa capb : Nat} {D D2 : Nat → Prop} {w : World} (ha : Sl rdrE w D Aa a) (hb : Sl rdrE w D2 Ab b) (hla : a.length ≤ 9223372036854775807) : CallR Tryz.prog 22 #[.slice Aa a.length capa, .slice Ab b.length capb] w fun v w' => EqT a b w w' v := by
 refine callR_of_wp (args := [_, _]) Tryz.func22 rfl (Nat.le_of_ble_eq_true rfl) ?_
 have HC : Chg [] w w := .refl _
 refine sr rfl <| aB rfl <| en <| x_seq <| sr rfl <| mL rfl <| Wp rfl <| st_len (ct := #[26]) (by rw [show ((#[26] : Array TypeId)[0]?).bind Tryz.prog.underlying = some (.slice 40) from T.u26]; rfl) rfl <| mL rfl <| Wp rfl <| st_len (ct := #[26]) (by rw [show ((#[26] : Array TypeId)[0]?).bind Tryz.prog.underlying = some (.slice 40) from T.u26]; rfl) rfl <| Wp rfl <| st_neq rfl rfl <| en <| x_cond rfl (fun h0 => ?_) (fun h0 => ?_)
 ·try simp only [nm, ne_eq] at h0
  refine sr rfl <| aB rfl <| en <| x_ret <| then_r <| ret_tmp (v := .bool _) rfl rfl ?_
  exact ⟨_, rfl, eq_no (fun e => h0 (by rw [e])), HC⟩
 ·try simp only [nm, ne_eq] at h0
  have hll : a.length = b.length := by omega
  refine x_skip <| then_n <| x_seq <| sr rfl <| mL rfl <| Wp rfl <| st_len (ct := #[26]) (by rw [show ((#[26] : Array TypeId)[0]?).bind Tryz.prog.underlying = some (.slice 40) from T.u26]; rfl) rfl <| mI rfl <| en <| x_block <| x_loop (ι := Nat) [4, 5, 13, 14, 15, 16, 17, 18, 19, 20, 21, 22, 23, 24, 25] (fun i => [(13, .int .i64 (i : Int))]) (fun i W => (i ≤ a.length ∧ a.take i = b.take i) ∧ (Chg [] w W) ∧ (Sl rdrE W D Aa a) ∧ (Sl rdrE W D2 Ab b)) (fun i => a.length - i) 0 ?_ ?_ ?_
  · exact ⟨rfl, trivial⟩
  ·refine ⟨?_, HC, ha, hb⟩
   exact ⟨Nat.zero_le _, rfl⟩
  intro i G2 w1 ⟨⟨hi, ht⟩, HC, ha, hb⟩
  change wp _ _ _ _ _ (upds (over _ _ G2) [(13, .int .i64 (i : Int))]) _ _
  refine sr rfl <| Wp rfl <| st_lss rfl rfl <| en <| x_seq <| x_cond rfl (fun h1 => ?_) (fun h1 => ?_)
  ·try simp only [nm, ne_eq] at h1
   refine x_skip <| then_n <| x_seq <| x_block <| sr rfl <| mI rfl <| aI rfl <| en <| x_seq ?_
   obtain ⟨x3, hx4⟩ : ∃ zz, a[i]? = some zz := ⟨_, List.getElem?_eq_getElem (by omega)⟩
   obtain ⟨lb9, _, vs8, hA5, hR7, hC6⟩ := ha.at hx4
   obtain rfl : vs8 = [.int .i64 x3.fd, S x3.op, S x3.word, S x3.here, .bool x3.raw] := hR7
   obtain ⟨x10, hx11⟩ : ∃ zz, b[i]? = some zz := ⟨_, List.getElem?_eq_getElem (by omega)⟩
   obtain ⟨lb16, _, vs15, hA12, hR14, hC13⟩ := hb.at hx11
   obtain rfl : vs15 = [.int .i64 x10.fd, S x10.op, S x10.word, S x10.here, .bool x10.raw] := hR14
   refine x_draw [(0, 0), (1, 0), (2, 0), (3, 0), (4, 0), (5, 0), (6, 0), (7, 0), (8, 0)] T.mixed rfl rfl rfl (fun W => W.heap[lb9]? = w1.heap[lb9]? ∧ W.heap[lb16]? = w1.heap[lb16]? ∧ True) ⟨rfl, rfl, trivial⟩ ?_
   have c18 := Chg.drew w1
   generalize World.drew w1 = w17 at c18 ⊢
   have ht_lb9 : lb9 < w17.heap.size ∧ w17.heap[lb9]? = w1.heap[lb9]? := ⟨Nat.lt_of_lt_of_le hC6.lt c18.size, c18.block lb9 hC6.lt (by simp)⟩
   have ht_lb16 : lb16 < w17.heap.size ∧ w17.heap[lb16]? = w1.heap[lb16]? := ⟨Nat.lt_of_lt_of_le hC13.lt c18.size, c18.block lb16 hC13.lt (by simp)⟩
   replace HC := HC.then c18
   replace ha := ha.tr0 c18
   replace hb := hb.tr0 c18
   refine sq_q rfl (fun W hT => r_move (v := .slice _ _ _) rfl) <| sq_q rfl (fun W hT => r_move (v := .int _ _) rfl) <| sq_q rfl (fun W hT => r_indexAddr T.u26 T.size40 (congrArg (fun z => Value.slice z _ _) hA5) rfl (by omega) (by omega)) <| sq_q rfl (fun W hT => r_loadA (vs := [_, _, _, _, _]) T.agg40 rfl (Cells.tr hC6 hT.1) rfl) <| sq_q rfl (fun W hT => r_move (v := .slice _ _ _) rfl) <| sq_q rfl (fun W hT => r_move (v := .int _ _) rfl) <| sq_q rfl (fun W hT => r_indexAddr T.u26 T.size40 (congrArg (fun z => Value.slice z _ _) hA12) rfl (by omega) (by omega)) <| sq_q rfl (fun W hT => r_loadA (vs := [_, _, _, _, _]) T.agg40 rfl (Cells.tr hC13 hT.2.1) rfl) <| sq_q rfl (fun W hT => r_aneq (va := [_, _, _, _, _]) (vb := [_, _, _, _, _]) T.eq40 rfl rfl rfl) <| sq_nil <| then_n <| x_cond rfl (fun h2 => ?_) (fun h2 => ?_)
   ·try simp only [nm, ne_eq] at h2
    have hxn : x3 ≠ x10 := by intro e; rw [e] at h2; simp at h2
    refine sr rfl <| aB rfl <| en <| x_ret <| block_r <| then_r <| then_r <| block_r <| then_r <| ret_tmp (v := .bool _) rfl rfl ?_
    exact ⟨_, rfl, eq_no (get_ne hx4 hx11 hxn), HC⟩
   ·try simp only [nm, ne_eq] at h2
    have hxy : x3 = x10 := by cases x3; cases x10; simp_all
    refine x_skip <| block_n <| then_n <| x_region rfl <| Wp rfl <| st_addn rfl rfl (by constructor <;> omega) <| mI rfl <| en <| ⟨i + 1, ?_, ?_, rfl, ⟨rfl, trivial⟩, ?_⟩
    ·refine ⟨?_, HC, ha, hb⟩
     exact ⟨by omega, take_same ht hx4 hx11 hxy⟩
    ·show a.length - (i + 1) < a.length - i; omega
    repeat (first | exact agree_upds agree_over rfl | refine agree_upd ?_ rfl | refine agree_upds ?_ rfl | refine agree_over_sub ?_ rfl)
  ·try simp only [nm, ne_eq] at h1
   refine x_exit <| then_x <| then_x <| block_x <| then_n <| sr rfl <| aB rfl <| en <| x_ret <| ret_tmp (v := .bool _) rfl rfl ?_
   exact ⟨_, rfl, eq_yes (by rw [List.take_of_length_le (by omega), List.take_of_length_le (by omega)] at ht; exact ht), HC⟩

theorem eqfC_spec {k : FuncId} {caps : Array Value} {a b : List Cm} {Aa Ab : Option Addr} {capa capb : Nat} {D D2 : Nat → Prop} {w : World} (ha : Sl cmE w D Aa a) (hb : Sl cmE w D2 Ab b) (hla : a.length ≤ 9223372036854775807) (hent : ∀ args (w : World), (callFunc k args).run Tryz.prog w = .ok (.enter k args) w) (hp : ∀ x, x ∈ a → ∀ (y : Cm) (vx vy : List Value) (W : World) {D1 D2 : Nat → Prop}, cmE.R W D1 x vx → cmE.R W D2 y vy → CallR Tryz.prog k ⟨.agg ⟨vx⟩ :: .agg ⟨vy⟩ :: caps.toList⟩ W fun v w' => EqT x y W w' v) : CallR Tryz.prog 23 #[.slice Aa a.length capa, .slice Ab b.length capb, .func (.func k) #[] caps] w fun v w' => EqT a b w w' v := by
 refine callR_of_wp (args := [_, _, _]) Tryz.func23 rfl (Nat.le_of_ble_eq_true rfl) ?_
 have HC : Chg [] w w := .refl _
 replace ha := ha.mono (D' := (fun k => k < w.heap.size)) (fun k hk _ => hk)
 replace hb := hb.mono (D' := (fun k => k < w.heap.size)) (fun k hk _ => hk)
 refine sr rfl <| aB rfl <| en <| x_seq <| sr rfl <| mL rfl <| Wp rfl <| st_len (ct := #[27]) (by rw [show ((#[27] : Array TypeId)[0]?).bind Tryz.prog.underlying = some (.slice 30) from T.u27]; rfl) rfl <| mL rfl <| Wp rfl <| st_len (ct := #[27]) (by rw [show ((#[27] : Array TypeId)[0]?).bind Tryz.prog.underlying = some (.slice 30) from T.u27]; rfl) rfl <| Wp rfl <| st_neq rfl rfl <| en <| x_cond rfl (fun h0 => ?_) (fun h0 => ?_)
 ·try simp only [nm, ne_eq] at h0
  refine sr rfl <| aB rfl <| en <| x_ret <| then_r <| ret_tmp (v := .bool _) rfl rfl ?_
  exact ⟨_, rfl, eq_no (fun e => h0 (by rw [e])), HC⟩
 ·try simp only [nm, ne_eq] at h0
  have hll : a.length = b.length := by omega
  refine x_skip <| then_n <| x_seq <| sr rfl <| mL rfl <| Wp rfl <| st_len (ct := #[27]) (by rw [show ((#[27] : Array TypeId)[0]?).bind Tryz.prog.underlying = some (.slice 30) from T.u27]; rfl) rfl <| mI rfl <| en <| x_block <| x_loop (ι := Nat) [6, 7, 8, 9, 17, 18, 19, 20, 21, 22, 23, 24, 25, 26, 27, 28, 29, 30, 31] (fun i => [(17, .int .i64 (i : Int))]) (fun i W => (i ≤ a.length ∧ a.take i = b.take i) ∧ (Chg [] w W) ∧ (Sl cmE W (fun k => k < w.heap.size) Aa a) ∧ (Sl cmE W (fun k => k < w.heap.size) Ab b)) (fun i => a.length - i) 0 ?_ ?_ ?_
  · exact ⟨rfl, trivial⟩
  ·refine ⟨?_, HC, ha, hb⟩
   exact ⟨Nat.zero_le _, rfl⟩
  intro i G2 w1 ⟨⟨hi, ht⟩, HC, ha, hb⟩
  change wp _ _ _ _ _ (upds (over _ _ G2) [(17, .int .i64 (i : Int))]) _ _
  refine sr rfl <| Wp rfl <| st_lss rfl rfl <| en <| x_seq <| x_cond rfl (fun h1 => ?_) (fun h1 => ?_)
  ·try simp only [nm, ne_eq] at h1
   refine x_skip <| then_n <| x_seq <| x_block <| sr rfl <| mI rfl ?_
   obtain ⟨x3, hx4⟩ : ∃ zz, a[i]? = some zz := ⟨_, List.getElem?_eq_getElem (by omega)⟩
   obtain ⟨lb9, _, vs8, hA5, hR7, hC6⟩ := ha.at hx4
   have hvU := hR7
   obtain ⟨A1U, n1U, A2U, n2U, A3U, n3U, A4U, n4U, A5U, n5U, rfl, hAU, k1U, k2U, k3U, k4U, k5U⟩ := cm_open hR7
   refine Wp rfl <| st_indexAddr T.u27 T.size30 (congrArg (fun z => Value.slice z _ _) hA5) rfl (by omega) (by omega) <| Wp rfl <| st_loadA (vs := [_, _, _, _, _, _, _, _, _]) T.agg30 rfl hC6 rfl <| Wp rfl <| st_alloc T.zero30 ?_
   intro b8 w10 e11 c12 hb13
   have ge_b8 : w.heap.size ≤ b8 := by rw [e11]; exact HC.size
   replace HC := HC.then c12
   replace ha := ha.tr0 c12
   replace hb := hb.tr0 c12
   replace hvU := Enc.chg hvU c12 (by intro k hx; cases hx)
   clear e11
   refine aI rfl <| Wp rfl <| st_store (v := .agg ⟨[.int _ _, S _, .bool _, .bool _, .slice _ _ _, .slice _ _ _, .slice _ _ _, .slice _ _ _, .slice _ _ _]⟩) T.size30 rfl rfl rfl hb13 rfl (Nat.le_of_ble_eq_true rfl) (by simp [Value.oneCell', S]) rfl ?_
   intro w14 c15 hb16; simp only [setVs, setV] at hb16
   clear hb13
   replace HC := HC.then1 c15 ge_b8
   replace ha := ha.tr c15 (by intro k hx hD; have hD : k < _ := hD; simp only [List.mem_cons, List.mem_nil_iff, or_false] at hx; omega)
   replace hb := hb.tr c15 (by intro k hx hD; have hD : k < _ := hD; simp only [List.mem_cons, List.mem_nil_iff, or_false] at hx; omega)
   replace hvU := Enc.chg hvU c15 (by intro k hx hD; have hD : k < _ := hD; simp only [List.mem_cons, List.mem_nil_iff, or_false] at hx; omega)
   refine en <| sr rfl <| mL rfl <| mI rfl ?_
   obtain ⟨x17, hx18⟩ : ∃ zz, b[i]? = some zz := ⟨_, List.getElem?_eq_getElem (by omega)⟩
   obtain ⟨lb23, _, vs22, hA19, hR21, hC20⟩ := hb.at hx18
   have hvV := hR21
   obtain ⟨A1V, n1V, A2V, n2V, A3V, n3V, A4V, n4V, A5V, n5V, rfl, hAV, k1V, k2V, k3V, k4V, k5V⟩ := cm_open hR21
   refine Wp rfl <| st_indexAddr T.u27 T.size30 (congrArg (fun z => Value.slice z _ _) hA19) rfl (by omega) (by omega) <| Wp rfl <| st_loadA (vs := [_, _, _, _, _, _, _, _, _]) T.agg30 rfl hC20 rfl <| Wp rfl <| st_alloc T.zero30 ?_
   intro b9 w24 e25 c26 hb27
   have ge_b9 : w.heap.size ≤ b9 := by rw [e25]; exact HC.size
   have ne_b8_b9 : b8 ≠ b9 := by rw [e25]; exact hb16.ne_size
   replace HC := HC.then c26
   replace ha := ha.tr0 c26
   replace hb := hb.tr0 c26
   replace hvU := Enc.chg hvU c26 (by intro k hx; cases hx)
   replace hb16 := hb16.tr0 c26
   replace hvV := Enc.chg hvV c26 (by intro k hx; cases hx)
   clear e25
   refine Wp rfl <| st_store (v := .agg ⟨[.int _ _, S _, .bool _, .bool _, .slice _ _ _, .slice _ _ _, .slice _ _ _, .slice _ _ _, .slice _ _ _]⟩) T.size30 rfl rfl rfl hb27 rfl (Nat.le_of_ble_eq_true rfl) (by simp [Value.oneCell', S]) rfl ?_
   intro w28 c29 hb30; simp only [setVs, setV] at hb30
   clear hb27
   replace HC := HC.then1 c29 ge_b9
   replace ha := ha.tr c29 (by intro k hx hD; have hD : k < _ := hD; simp only [List.mem_cons, List.mem_nil_iff, or_false] at hx; omega)
   replace hb := hb.tr c29 (by intro k hx hD; have hD : k < _ := hD; simp only [List.mem_cons, List.mem_nil_iff, or_false] at hx; omega)
   replace hvU := Enc.chg hvU c29 (by intro k hx hD; have hD : k < _ := hD; simp only [List.mem_cons, List.mem_nil_iff, or_false] at hx; omega)
   replace hb16 := hb16.tr1 c29 ne_b8_b9
   replace hvV := Enc.chg hvV c29 (by intro k hx hD; have hD : k < _ := hD; simp only [List.mem_cons, List.mem_nil_iff, or_false] at hx; omega)
   refine en <| sr rfl <| mv (v := .func _ _ _) rfl <| Wp rfl <| st_loadA (vs := [_, _, _, _, _, _, _, _, _]) T.agg30 rfl (hb16.cells (n := 9) (vs := [_, _, _, _, _, _, _, _, _]) rfl) rfl <| Wp rfl <| st_loadA (vs := [_, _, _, _, _, _, _, _, _]) T.agg30 rfl (hb30.cells (n := 9) (vs := [_, _, _, _, _, _, _, _, _]) rfl) rfl <| Wp rfl <| st_call (f := k) (cap := caps) (ags := .agg _ :: .agg _ :: caps.toList) rfl rfl hent rfl (hp _ (List.mem_of_getElem? hx4) _ _ _ _ hvU hvV) ?_
   rintro _ w31 ⟨r, rfl, hr, c32⟩
   replace HC := HC.then c32
   replace ha := ha.tr0 c32
   replace hb := hb.tr0 c32
   replace hvU := Enc.chg hvU c32 (by intro k hx; cases hx)
   replace hb16 := hb16.tr0 c32
   replace hvV := Enc.chg hvV c32 (by intro k hx; cases hx)
   replace hb30 := hb30.tr0 c32
   refine Wp rfl <| st_not rfl <| en <| x_cond rfl (fun h2 => ?_) (fun h2 => ?_)
   ·try simp only [nm, ne_eq] at h2
    refine sr rfl <| aB rfl <| en <| x_ret <| block_r <| then_r <| then_r <| block_r <| then_r <| ret_tmp (v := .bool _) rfl rfl ?_
    exact ⟨_, rfl, eq_no (get_ne hx4 hx18 (fun e => by have h7 := hr.2 e; simp_all)), HC⟩
   ·try simp only [nm, ne_eq] at h2
    have hxy : x3 = x17 := hr.1 (by first | assumption | simp_all)
    refine x_skip <| block_n <| then_n <| x_region rfl <| Wp rfl <| st_addn rfl rfl (by constructor <;> omega) <| mI rfl <| en <| ⟨i + 1, ?_, ?_, rfl, ⟨rfl, trivial⟩, ?_⟩
    ·refine ⟨?_, HC, ha, hb⟩
     exact ⟨by omega, take_same ht hx4 hx18 hxy⟩
    ·show a.length - (i + 1) < a.length - i; omega
    repeat (first | exact agree_upds agree_over rfl | refine agree_upd ?_ rfl | refine agree_upds ?_ rfl | refine agree_over_sub ?_ rfl)
  ·try simp only [nm, ne_eq] at h1
   refine x_exit <| then_x <| then_x <| block_x <| then_n <| sr rfl <| aB rfl <| en <| x_ret <| ret_tmp (v := .bool _) rfl rfl ?_
   exact ⟨_, rfl, eq_yes (by rw [List.take_of_length_le (by omega), List.take_of_length_le (by omega)] at ht; exact ht), HC⟩

theorem eqfI_spec {k : FuncId} {caps : Array Value} {a b : List (List Bytes × List Cm)} {Aa Ab : Option Addr} {capa capb : Nat} {D D2 : Nat → Prop} {w : World} (ha : Sl itE w D Aa a) (hb : Sl itE w D2 Ab b) (hla : a.length ≤ 9223372036854775807) (hent : ∀ args (w : World), (callFunc k args).run Tryz.prog w = .ok (.enter k args) w) (hp : ∀ x, x ∈ a → ∀ (y : (List Bytes × List Cm)) (vx vy : List Value) (W : World) {D1 D2 : Nat → Prop}, itE.R W D1 x vx → itE.R W D2 y vy → CallR Tryz.prog k ⟨.agg ⟨vx⟩ :: .agg ⟨vy⟩ :: caps.toList⟩ W fun v w' => EqT x y W w' v) : CallR Tryz.prog 24 #[.slice Aa a.length capa, .slice Ab b.length capb, .func (.func k) #[] caps] w fun v w' => EqT a b w w' v := by
 refine callR_of_wp (args := [_, _, _]) Tryz.func24 rfl (Nat.le_of_ble_eq_true rfl) ?_
 have HC : Chg [] w w := .refl _
 replace ha := ha.mono (D' := (fun k => k < w.heap.size)) (fun k hk _ => hk)
 replace hb := hb.mono (D' := (fun k => k < w.heap.size)) (fun k hk _ => hk)
 refine sr rfl <| aB rfl <| en <| x_seq <| sr rfl <| mL rfl <| Wp rfl <| st_len (ct := #[28]) (by rw [show ((#[28] : Array TypeId)[0]?).bind Tryz.prog.underlying = some (.slice 59) from T.u28]; rfl) rfl <| mL rfl <| Wp rfl <| st_len (ct := #[28]) (by rw [show ((#[28] : Array TypeId)[0]?).bind Tryz.prog.underlying = some (.slice 59) from T.u28]; rfl) rfl <| Wp rfl <| st_neq rfl rfl <| en <| x_cond rfl (fun h0 => ?_) (fun h0 => ?_)
 ·try simp only [nm, ne_eq] at h0
  refine sr rfl <| aB rfl <| en <| x_ret <| then_r <| ret_tmp (v := .bool _) rfl rfl ?_
  exact ⟨_, rfl, eq_no (fun e => h0 (by rw [e])), HC⟩
 ·try simp only [nm, ne_eq] at h0
  have hll : a.length = b.length := by omega
  refine x_skip <| then_n <| x_seq <| sr rfl <| mL rfl <| Wp rfl <| st_len (ct := #[28]) (by rw [show ((#[28] : Array TypeId)[0]?).bind Tryz.prog.underlying = some (.slice 59) from T.u28]; rfl) rfl <| mI rfl <| en <| x_block <| x_loop (ι := Nat) [6, 7, 8, 9, 17, 18, 19, 20, 21, 22, 23, 24, 25, 26, 27, 28, 29, 30, 31] (fun i => [(17, .int .i64 (i : Int))]) (fun i W => (i ≤ a.length ∧ a.take i = b.take i) ∧ (Chg [] w W) ∧ (Sl itE W (fun k => k < w.heap.size) Aa a) ∧ (Sl itE W (fun k => k < w.heap.size) Ab b)) (fun i => a.length - i) 0 ?_ ?_ ?_
  · exact ⟨rfl, trivial⟩
  ·refine ⟨?_, HC, ha, hb⟩
   exact ⟨Nat.zero_le _, rfl⟩
  intro i G2 w1 ⟨⟨hi, ht⟩, HC, ha, hb⟩
  change wp _ _ _ _ _ (upds (over _ _ G2) [(17, .int .i64 (i : Int))]) _ _
  refine sr rfl <| Wp rfl <| st_lss rfl rfl <| en <| x_seq <| x_cond rfl (fun h1 => ?_) (fun h1 => ?_)
  ·try simp only [nm, ne_eq] at h1
   refine x_skip <| then_n <| x_seq <| x_block <| sr rfl <| mI rfl ?_
   obtain ⟨x3, hx4⟩ : ∃ zz, a[i]? = some zz := ⟨_, List.getElem?_eq_getElem (by omega)⟩
   obtain ⟨lb9, _, vs8, hA5, hR7, hC6⟩ := ha.at hx4
   have hvU := hR7
   obtain ⟨_, _, rfl, ⟨I1U, m1U, rfl, k1U, k2U, hI1U⟩, ⟨I2U, m2U, rfl, k3U, k4U, hI2U⟩⟩ := hR7
   refine Wp rfl <| st_indexAddr T.u28 T.size59 (congrArg (fun z => Value.slice z _ _) hA5) rfl (by omega) (by omega) <| Wp rfl <| st_loadA (vs := [_, _]) T.agg59 rfl hC6 rfl <| Wp rfl <| st_alloc T.zero59 ?_
   intro b8 w10 e11 c12 hb13
   have ge_b8 : w.heap.size ≤ b8 := by rw [e11]; exact HC.size
   replace HC := HC.then c12
   replace ha := ha.tr0 c12
   replace hb := hb.tr0 c12
   replace hvU := Enc.chg hvU c12 (by intro k hx; cases hx)
   clear e11
   refine aI rfl <| Wp rfl <| st_store (v := .agg ⟨[.slice _ _ _, .slice _ _ _]⟩) T.size59 rfl rfl rfl hb13 rfl (Nat.le_of_ble_eq_true rfl) (by simp [Value.oneCell', S]) rfl ?_
   intro w14 c15 hb16; simp only [setVs, setV] at hb16
   clear hb13
   replace HC := HC.then1 c15 ge_b8
   replace ha := ha.tr c15 (by intro k hx hD; have hD : k < _ := hD; simp only [List.mem_cons, List.mem_nil_iff, or_false] at hx; omega)
   replace hb := hb.tr c15 (by intro k hx hD; have hD : k < _ := hD; simp only [List.mem_cons, List.mem_nil_iff, or_false] at hx; omega)
   replace hvU := Enc.chg hvU c15 (by intro k hx hD; have hD : k < _ := hD; simp only [List.mem_cons, List.mem_nil_iff, or_false] at hx; omega)
   refine en <| sr rfl <| mL rfl <| mI rfl ?_
   obtain ⟨x17, hx18⟩ : ∃ zz, b[i]? = some zz := ⟨_, List.getElem?_eq_getElem (by omega)⟩
   obtain ⟨lb23, _, vs22, hA19, hR21, hC20⟩ := hb.at hx18
   have hvV := hR21
   obtain ⟨_, _, rfl, ⟨I1V, m1V, rfl, k1V, k2V, hI1V⟩, ⟨I2V, m2V, rfl, k3V, k4V, hI2V⟩⟩ := hR21
   refine Wp rfl <| st_indexAddr T.u28 T.size59 (congrArg (fun z => Value.slice z _ _) hA19) rfl (by omega) (by omega) <| Wp rfl <| st_loadA (vs := [_, _]) T.agg59 rfl hC20 rfl <| Wp rfl <| st_alloc T.zero59 ?_
   intro b9 w24 e25 c26 hb27
   have ge_b9 : w.heap.size ≤ b9 := by rw [e25]; exact HC.size
   have ne_b8_b9 : b8 ≠ b9 := by rw [e25]; exact hb16.ne_size
   replace HC := HC.then c26
   replace ha := ha.tr0 c26
   replace hb := hb.tr0 c26
   replace hvU := Enc.chg hvU c26 (by intro k hx; cases hx)
   replace hb16 := hb16.tr0 c26
   replace hvV := Enc.chg hvV c26 (by intro k hx; cases hx)
   clear e25
   refine Wp rfl <| st_store (v := .agg ⟨[.slice _ _ _, .slice _ _ _]⟩) T.size59 rfl rfl rfl hb27 rfl (Nat.le_of_ble_eq_true rfl) (by simp [Value.oneCell', S]) rfl ?_
   intro w28 c29 hb30; simp only [setVs, setV] at hb30
   clear hb27
   replace HC := HC.then1 c29 ge_b9
   replace ha := ha.tr c29 (by intro k hx hD; have hD : k < _ := hD; simp only [List.mem_cons, List.mem_nil_iff, or_false] at hx; omega)
   replace hb := hb.tr c29 (by intro k hx hD; have hD : k < _ := hD; simp only [List.mem_cons, List.mem_nil_iff, or_false] at hx; omega)
   replace hvU := Enc.chg hvU c29 (by intro k hx hD; have hD : k < _ := hD; simp only [List.mem_cons, List.mem_nil_iff, or_false] at hx; omega)
   replace hb16 := hb16.tr1 c29 ne_b8_b9
   replace hvV := Enc.chg hvV c29 (by intro k hx hD; have hD : k < _ := hD; simp only [List.mem_cons, List.mem_nil_iff, or_false] at hx; omega)
   refine en <| sr rfl <| mv (v := .func _ _ _) rfl <| Wp rfl <| st_loadA (vs := [_, _]) T.agg59 rfl (hb16.cells (n := 2) (vs := [_, _]) rfl) rfl <| Wp rfl <| st_loadA (vs := [_, _]) T.agg59 rfl (hb30.cells (n := 2) (vs := [_, _]) rfl) rfl <| Wp rfl <| st_call (f := k) (cap := caps) (ags := .agg _ :: .agg _ :: caps.toList) rfl rfl hent rfl (hp _ (List.mem_of_getElem? hx4) _ _ _ _ hvU hvV) ?_
   rintro _ w31 ⟨r, rfl, hr, c32⟩
   replace HC := HC.then c32
   replace ha := ha.tr0 c32
   replace hb := hb.tr0 c32
   replace hvU := Enc.chg hvU c32 (by intro k hx; cases hx)
   replace hb16 := hb16.tr0 c32
   replace hvV := Enc.chg hvV c32 (by intro k hx; cases hx)
   replace hb30 := hb30.tr0 c32
   refine Wp rfl <| st_not rfl <| en <| x_cond rfl (fun h2 => ?_) (fun h2 => ?_)
   ·try simp only [nm, ne_eq] at h2
    refine sr rfl <| aB rfl <| en <| x_ret <| block_r <| then_r <| then_r <| block_r <| then_r <| ret_tmp (v := .bool _) rfl rfl ?_
    exact ⟨_, rfl, eq_no (get_ne hx4 hx18 (fun e => by have h7 := hr.2 e; simp_all)), HC⟩
   ·try simp only [nm, ne_eq] at h2
    have hxy : x3 = x17 := hr.1 (by first | assumption | simp_all)
    refine x_skip <| block_n <| then_n <| x_region rfl <| Wp rfl <| st_addn rfl rfl (by constructor <;> omega) <| mI rfl <| en <| ⟨i + 1, ?_, ?_, rfl, ⟨rfl, trivial⟩, ?_⟩
    ·refine ⟨?_, HC, ha, hb⟩
     exact ⟨by omega, take_same ht hx4 hx18 hxy⟩
    ·show a.length - (i + 1) < a.length - i; omega
    repeat (first | exact agree_upds agree_over rfl | refine agree_upd ?_ rfl | refine agree_upds ?_ rfl | refine agree_over_sub ?_ rfl)
  ·try simp only [nm, ne_eq] at h1
   refine x_exit <| then_x <| then_x <| block_x <| then_n <| sr rfl <| aB rfl <| en <| x_ret <| ret_tmp (v := .bool _) rfl rfl ?_
   exact ⟨_, rfl, eq_yes (by rw [List.take_of_length_le (by omega), List.take_of_length_le (by omega)] at ht; exact ht), HC⟩

end Go.Proofs.YtghjmiggobpmoaaGreatDoor.K
set_option linter.unusedVariables false
set_option linter.unusedSimpArgs false
set_option autoImplicit false
set_option maxRecDepth 20000
namespace Go.Proofs.YtghjmiggobpmoaaGreatDoor.K
open Go Go.Proofs Go.RowKit

theorem gsame1_spec {x y : List Bytes × List Cm} {vx vy : List Value} {D1 D2 : Nat → Prop} (w : World) (h1 : itE.R w D1 x vx) (h2 : itE.R w D2 y vy) (hrec : ∀ k, k ∈ x.2 → ∀ (y : Cm) (vx vy : List Value) (W : World) {D1 D2 : Nat → Prop}, cmE.R W D1 k vx → cmE.R W D2 y vy → CallR Tryz.prog 11 #[.agg ⟨vx⟩, .agg ⟨vy⟩] W fun v w' => EqT k y W w' v) : CallR Tryz.prog 25 #[.agg ⟨vx⟩, .agg ⟨vy⟩] w fun v w' => EqT x y w w' v := by
 obtain ⟨_, _, rfl, ⟨I1, m1, rfl, k1, k2, hI1⟩, ⟨I2, m2, rfl, k3, k4, hI2⟩⟩ := h1
 obtain ⟨_, _, rfl, ⟨J1, n1, rfl, l1, l2, hJ1⟩, ⟨J2, n2, rfl, l3, l4, hJ2⟩⟩ := h2
 refine callR_of_wp (args := [_, _]) Tryz.func25 rfl (Nat.le_of_ble_eq_true rfl) ?_
 have HC : Chg [] w w := .refl _
 refine sr rfl <| Wp rfl <| st_box (v := .agg ⟨[.slice _ _ _, .slice _ _ _]⟩) (vs := [_, _]) rfl rfl ?_
 intro b2 w1 e2 c3 hb4
 have ge_b2 : w.heap.size ≤ b2 := by rw [e2]; exact HC.size
 replace HC := HC.then c3
 replace hI1 := hI1.tr0 c3
 replace hI2 := hI2.tr0 c3
 replace hJ1 := hJ1.tr0 c3
 replace hJ2 := hJ2.tr0 c3
 clear e2
 refine Wp rfl <| st_box (v := .agg ⟨[.slice _ _ _, .slice _ _ _]⟩) (vs := [_, _]) rfl rfl ?_
 intro b3 w5 e6 c7 hb8
 have ge_b3 : w.heap.size ≤ b3 := by rw [e6]; exact HC.size
 have ne_b2_b3 : b2 ≠ b3 := by rw [e6]; exact hb4.ne_size
 replace HC := HC.then c7
 replace hI1 := hI1.tr0 c7
 replace hI2 := hI2.tr0 c7
 replace hJ1 := hJ1.tr0 c7
 replace hJ2 := hJ2.tr0 c7
 replace hb4 := hb4.tr0 c7
 clear e6
 refine aB rfl <| en <| sr rfl <| fa T.fld59_0 rfl <| lL T.one23 rfl (hb4.cell rfl) <| fa T.fld59_0 rfl <| lL T.one23 rfl (hb8.cell rfl) <| Wp rfl <| st_call (ags := [_, _]) rfl rfl T.ent21 rfl (eqStr_spec hI1 hJ1 (Nat.le_trans k1 k2)) ?_
 rintro _ w9 ⟨r1, rfl, hr1, c10⟩
 replace HC := HC.then c10
 replace hI1 := hI1.tr0 c10
 replace hI2 := hI2.tr0 c10
 replace hJ1 := hJ1.tr0 c10
 replace hJ2 := hJ2.tr0 c10
 replace hb4 := hb4.tr0 c10
 replace hb8 := hb8.tr0 c10
 refine mB rfl <| w_split (d := 10) rfl (fun g11 => ?_) (fun g11 => ?_)
 ·try simp only [nm, ne_eq] at g11
  refine w_yes 5 10 true <| st_fieldAddr T.fld59_1 rfl <| w_yes 5 10 true <| st_load1 (v := .slice _ _ _) T.one27 rfl (hb4.cell rfl) <| w_yes 5 10 true <| st_fieldAddr T.fld59_1 rfl <| w_yes 5 10 true <| st_load1 (v := .slice _ _ _) T.one27 rfl (hb8.cell rfl) <| w_yes 5 10 true <| st_call (ags := [_, _, _]) rfl rfl T.ent23 rfl (eqfC_spec (caps := #[]) hI2 hJ2 (Nat.le_trans k3 k4) T.ent11 (fun k hk y vx vy W {D1 D2} q1 q2 => hrec k hk y vx vy W q1 q2)) ?_
  rintro _ w12 ⟨r2, rfl, hr2, c13⟩
  replace HC := HC.then c13
  replace hI1 := hI1.tr0 c13
  replace hI2 := hI2.tr0 c13
  replace hJ1 := hJ1.tr0 c13
  replace hJ2 := hJ2.tr0 c13
  replace hb4 := hb4.tr0 c13
  replace hb8 := hb8.tr0 c13
  refine pT rfl rfl <| aB rfl <| en <| x_ret <| ret_tmp (v := .bool _) rfl rfl <| ⟨_, rfl, ?_, HC⟩
  rw [Prod.ext_iff]
  first | (simp_all; done) | (simp [*]; done)
 ·try simp only [nm, ne_eq] at g11
  iterate 5 refine w_no 5 10 true ?_
  refine pF rfl rfl <| aB rfl <| en <| x_ret <| ret_tmp (v := .bool _) rfl rfl <| ⟨_, rfl, ?_, HC⟩
  rw [Prod.ext_iff]
  first | (simp_all; done) | (simp [*]; done)

theorem gsame_step {a b : Cm} {va vb : List Value} {D1 D2 : Nat → Prop} (w : World) (ha : cmE.R w D1 a va) (hb : cmE.R w D2 b vb) (hrec : ∀ x : Cm, SizeOf.sizeOf x < SizeOf.sizeOf a → ∀ (y : Cm) (vx vy : List Value) (W : World) {D1 D2 : Nat → Prop}, cmE.R W D1 x vx → cmE.R W D2 y vy → CallR Tryz.prog 11 #[.agg ⟨vx⟩, .agg ⟨vy⟩] W fun v w' => EqT x y W w' v) : CallR Tryz.prog 11 #[.agg ⟨va⟩, .agg ⟨vb⟩] w fun v w' => EqT a b w w' v := by
 obtain ⟨A1A, n1A, A2A, n2A, A3A, n3A, A4A, n4A, A5A, n5A, rfl, hAA, k1A, k2A, k3A, k4A, k5A⟩ := cm_open ha
 obtain ⟨A1B, n1B, A2B, n2B, A3B, n3B, A4B, n4B, A5B, n5B, rfl, hAB, k1B, k2B, k3B, k4B, k5B⟩ := cm_open hb
 refine callR_of_wp (args := [_, _]) Tryz.func11 rfl (Nat.le_of_ble_eq_true rfl) ?_
 have HC : Chg [] w w := .refl _
 refine sr rfl <| Wp rfl <| st_box (v := .agg ⟨[.int _ _, S _, .bool _, .bool _, .slice _ _ _, .slice _ _ _, .slice _ _ _, .slice _ _ _, .slice _ _ _]⟩) (vs := [_, _, _, _, _, _, _, _, _]) rfl rfl ?_
 intro b2 w1 e2 c3 hb4
 have ge_b2 : w.heap.size ≤ b2 := by rw [e2]; exact HC.size
 replace HC := HC.then c3
 replace hAA := CmAt.chg hAA c3 (by intro k hx; cases hx)
 replace hAB := CmAt.chg hAB c3 (by intro k hx; cases hx)
 clear e2
 refine Wp rfl <| st_box (v := .agg ⟨[.int _ _, S _, .bool _, .bool _, .slice _ _ _, .slice _ _ _, .slice _ _ _, .slice _ _ _, .slice _ _ _]⟩) (vs := [_, _, _, _, _, _, _, _, _]) rfl rfl ?_
 intro b3 w5 e6 c7 hb8
 have ge_b3 : w.heap.size ≤ b3 := by rw [e6]; exact HC.size
 have ne_b2_b3 : b2 ≠ b3 := by rw [e6]; exact hb4.ne_size
 replace HC := HC.then c7
 replace hAA := CmAt.chg hAA c7 (by intro k hx; cases hx)
 replace hAB := CmAt.chg hAB c7 (by intro k hx; cases hx)
 replace hb4 := hb4.tr0 c7
 clear e6
 refine aB rfl <| en <| sr rfl <| fa T.fld30_0 rfl <| lI T.one3 rfl (hb4.cell rfl) <| fa T.fld30_0 rfl <| lI T.one3 rfl (hb8.cell rfl) <| Wp rfl <| st_eql rfl rfl <| mB rfl <| w_split (d := 11) rfl (fun g9 => ?_) (fun g9 => ?_)
 ·try simp only [nm, ne_eq] at g9
  refine w_yes 5 11 true <| st_fieldAddr T.fld30_1 rfl <| w_yes 5 11 true <| st_load1 (v := S _) T.one9 rfl (hb4.cell rfl) <| w_yes 5 11 true <| st_fieldAddr T.fld30_1 rfl <| w_yes 5 11 true <| st_load1 (v := S _) T.one9 rfl (hb8.cell rfl) <| w_yes 5 11 true <| st_seql rfl rfl <| pT rfl rfl <| mB rfl <| w_split (d := 18) rfl (fun g10 => ?_) (fun g10 => ?_)
  ·try simp only [nm, ne_eq] at g10
   refine w_yes 12 18 true <| st_fieldAddr T.fld30_2 rfl <| w_yes 12 18 true <| st_load1 (v := .bool _) T.one4 rfl (hb4.cell rfl) <| w_yes 12 18 true <| st_fieldAddr T.fld30_2 rfl <| w_yes 12 18 true <| st_load1 (v := .bool _) T.one4 rfl (hb8.cell rfl) <| w_yes 12 18 true <| st_beql T.u4 rfl rfl <| pT rfl rfl <| mB rfl <| w_split (d := 25) rfl (fun g11 => ?_) (fun g11 => ?_)
   ·try simp only [nm, ne_eq] at g11
    refine w_yes 19 25 true <| st_fieldAddr T.fld30_3 rfl <| w_yes 19 25 true <| st_load1 (v := .bool _) T.one4 rfl (hb4.cell rfl) <| w_yes 19 25 true <| st_fieldAddr T.fld30_3 rfl <| w_yes 19 25 true <| st_load1 (v := .bool _) T.one4 rfl (hb8.cell rfl) <| w_yes 19 25 true <| st_beql T.u4 rfl rfl <| pT rfl rfl <| aB rfl <| en <| sr rfl <| mB rfl <| mB rfl <| w_split (d := 33) rfl (fun g12 => ?_) (fun g12 => ?_)
    ·try simp only [nm, ne_eq] at g12
     refine w_yes 1 33 true <| st_fieldAddr T.fld30_4 rfl <| w_yes 1 33 true <| st_load1 (v := .slice _ _ _) T.one25 rfl (hb4.cell rfl) <| w_yes 1 33 true <| st_fieldAddr T.fld30_4 rfl <| w_yes 1 33 true <| st_load1 (v := .slice _ _ _) T.one25 rfl (hb8.cell rfl) <| w_yes 1 33 true <| st_call (ags := [_, _]) rfl rfl T.ent20 rfl (eqPair_spec hAA.asg hAB.asg (Nat.le_trans k1A.1 k1A.2)) ?_
     rintro _ w13 ⟨r1, rfl, hr1, c14⟩
     replace HC := HC.then c14
     replace hAA := CmAt.chg hAA c14 (by intro k hx; cases hx)
     replace hAB := CmAt.chg hAB c14 (by intro k hx; cases hx)
     replace hb4 := hb4.tr0 c14
     replace hb8 := hb8.tr0 c14
     refine pT rfl rfl <| mB rfl <| w_split (d := 40) rfl (fun g15 => ?_) (fun g15 => ?_)
     ·try simp only [nm, ne_eq] at g15
      refine w_yes 8 40 true <| st_fieldAddr T.fld30_5 rfl <| w_yes 8 40 true <| st_load1 (v := .slice _ _ _) T.one23 rfl (hb4.cell rfl) <| w_yes 8 40 true <| st_fieldAddr T.fld30_5 rfl <| w_yes 8 40 true <| st_load1 (v := .slice _ _ _) T.one23 rfl (hb8.cell rfl) <| w_yes 8 40 true <| st_call (ags := [_, _]) rfl rfl T.ent21 rfl (eqStr_spec hAA.words hAB.words (Nat.le_trans k2A.1 k2A.2)) ?_
      rintro _ w16 ⟨r2, rfl, hr2, c17⟩
      replace HC := HC.then c17
      replace hAA := CmAt.chg hAA c17 (by intro k hx; cases hx)
      replace hAB := CmAt.chg hAB c17 (by intro k hx; cases hx)
      replace hb4 := hb4.tr0 c17
      replace hb8 := hb8.tr0 c17
      refine pT rfl rfl <| mB rfl <| w_split (d := 47) rfl (fun g18 => ?_) (fun g18 => ?_)
      ·try simp only [nm, ne_eq] at g18
       refine w_yes 15 47 true <| st_fieldAddr T.fld30_6 rfl <| w_yes 15 47 true <| st_load1 (v := .slice _ _ _) T.one26 rfl (hb4.cell rfl) <| w_yes 15 47 true <| st_fieldAddr T.fld30_6 rfl <| w_yes 15 47 true <| st_load1 (v := .slice _ _ _) T.one26 rfl (hb8.cell rfl) <| w_yes 15 47 true <| st_call (ags := [_, _]) rfl rfl T.ent22 rfl (eqRdr_spec hAA.rds hAB.rds (Nat.le_trans k3A.1 k3A.2)) ?_
       rintro _ w19 ⟨r3, rfl, hr3, c20⟩
       replace HC := HC.then c20
       replace hAA := CmAt.chg hAA c20 (by intro k hx; cases hx)
       replace hAB := CmAt.chg hAB c20 (by intro k hx; cases hx)
       replace hb4 := hb4.tr0 c20
       replace hb8 := hb8.tr0 c20
       refine pT rfl rfl <| mB rfl <| w_split (d := 54) rfl (fun g21 => ?_) (fun g21 => ?_)
       ·try simp only [nm, ne_eq] at g21
        refine w_yes 22 54 true <| st_fieldAddr T.fld30_7 rfl <| w_yes 22 54 true <| st_load1 (v := .slice _ _ _) T.one27 rfl (hb4.cell rfl) <| w_yes 22 54 true <| st_fieldAddr T.fld30_7 rfl <| w_yes 22 54 true <| st_load1 (v := .slice _ _ _) T.one27 rfl (hb8.cell rfl) <| w_yes 22 54 true <| st_call (ags := [_, _, _]) rfl rfl T.ent23 rfl (eqfC_spec (caps := #[]) hAA.kids hAB.kids (Nat.le_trans k4A.1 k4A.2) T.ent11 (fun k hk y vx vy W {D1 D2} q1 q2 => hrec k (kid_size hk) y vx vy W q1 q2)) ?_
        rintro _ w22 ⟨r4, rfl, hr4, c23⟩
        replace HC := HC.then c23
        replace hAA := CmAt.chg hAA c23 (by intro k hx; cases hx)
        replace hAB := CmAt.chg hAB c23 (by intro k hx; cases hx)
        replace hb4 := hb4.tr0 c23
        replace hb8 := hb8.tr0 c23
        refine pT rfl rfl <| mB rfl <| w_split (d := 61) rfl (fun g24 => ?_) (fun g24 => ?_)
        ·try simp only [nm, ne_eq] at g24
         refine w_yes 29 61 true <| st_fieldAddr T.fld30_8 rfl <| w_yes 29 61 true <| st_load1 (v := .slice _ _ _) T.one28 rfl (hb4.cell rfl) <| w_yes 29 61 true <| st_fieldAddr T.fld30_8 rfl <| w_yes 29 61 true <| st_load1 (v := .slice _ _ _) T.one28 rfl (hb8.cell rfl) <| w_yes 29 61 true <| st_call (ags := [_, _, _]) rfl rfl T.ent24 rfl (eqfI_spec (caps := #[]) hAA.items hAB.items (Nat.le_trans k5A.1 k5A.2) T.ent25 (fun x hx y vx vy W {D1 D2} q1 q2 => gsame1_spec W q1 q2 (fun k hk y vx vy W {D1 D2} q3 q4 => hrec k (item_size hx hk) y vx vy W q3 q4))) ?_
         rintro _ w25 ⟨r5, rfl, hr5, c26⟩
         replace HC := HC.then c26
         replace hAA := CmAt.chg hAA c26 (by intro k hx; cases hx)
         replace hAB := CmAt.chg hAB c26 (by intro k hx; cases hx)
         replace hb4 := hb4.tr0 c26
         replace hb8 := hb8.tr0 c26
         refine pT rfl rfl <| aB rfl <| en <| x_ret <| ret_tmp (v := .bool _) rfl rfl <| ⟨_, rfl, ?_, HC⟩
         rw [Cm.ext]
         clear hrec
         first | (simp_all; done) | (simp [*]; done)
        ·try simp only [nm, ne_eq] at g24
         iterate 5 refine w_no 29 61 true ?_
         refine pF rfl rfl <| aB rfl <| en <| x_ret <| ret_tmp (v := .bool _) rfl rfl <| ⟨_, rfl, ?_, HC⟩
         rw [Cm.ext]
         clear hrec
         first | (simp_all; done) | (simp [*]; done)
       ·try simp only [nm, ne_eq] at g21
        iterate 5 refine w_no 22 54 true ?_
        refine pF rfl rfl <| mB rfl ?_
        iterate 5 refine w_no 29 61 true ?_
        refine pF rfl rfl <| aB rfl <| en <| x_ret <| ret_tmp (v := .bool _) rfl rfl <| ⟨_, rfl, ?_, HC⟩
        rw [Cm.ext]
        clear hrec
        first | (simp_all; done) | (simp [*]; done)
      ·try simp only [nm, ne_eq] at g18
       iterate 5 refine w_no 15 47 true ?_
       refine pF rfl rfl <| mB rfl ?_
       iterate 5 refine w_no 22 54 true ?_
       refine pF rfl rfl <| mB rfl ?_
       iterate 5 refine w_no 29 61 true ?_
       refine pF rfl rfl <| aB rfl <| en <| x_ret <| ret_tmp (v := .bool _) rfl rfl <| ⟨_, rfl, ?_, HC⟩
       rw [Cm.ext]
       clear hrec
       first | (simp_all; done) | (simp [*]; done)
     ·try simp only [nm, ne_eq] at g15
      iterate 5 refine w_no 8 40 true ?_
      refine pF rfl rfl <| mB rfl ?_
      iterate 5 refine w_no 15 47 true ?_
      refine pF rfl rfl <| mB rfl ?_
      iterate 5 refine w_no 22 54 true ?_
      refine pF rfl rfl <| mB rfl ?_
      iterate 5 refine w_no 29 61 true ?_
      refine pF rfl rfl <| aB rfl <| en <| x_ret <| ret_tmp (v := .bool _) rfl rfl <| ⟨_, rfl, ?_, HC⟩
      rw [Cm.ext]
      clear hrec
      first | (simp_all; done) | (simp [*]; done)
    ·try simp only [nm, ne_eq] at g12
     iterate 5 refine w_no 1 33 true ?_
     refine pF rfl rfl <| mB rfl ?_
     iterate 5 refine w_no 8 40 true ?_
     refine pF rfl rfl <| mB rfl ?_
     iterate 5 refine w_no 15 47 true ?_
     refine pF rfl rfl <| mB rfl ?_
     iterate 5 refine w_no 22 54 true ?_
     refine pF rfl rfl <| mB rfl ?_
     iterate 5 refine w_no 29 61 true ?_
     refine pF rfl rfl <| aB rfl <| en <| x_ret <| ret_tmp (v := .bool _) rfl rfl <| ⟨_, rfl, ?_, HC⟩
     rw [Cm.ext]
     clear hrec
     first | (simp_all; done) | (simp [*]; done)
   ·try simp only [nm, ne_eq] at g11
    iterate 5 refine w_no 19 25 true ?_
    refine pF rfl rfl <| aB rfl <| en <| sr rfl <| mB rfl <| mB rfl ?_
    iterate 5 refine w_no 1 33 true ?_
    refine pF rfl rfl <| mB rfl ?_
    iterate 5 refine w_no 8 40 true ?_
    refine pF rfl rfl <| mB rfl ?_
    iterate 5 refine w_no 15 47 true ?_
    refine pF rfl rfl <| mB rfl ?_
    iterate 5 refine w_no 22 54 true ?_
    refine pF rfl rfl <| mB rfl ?_
    iterate 5 refine w_no 29 61 true ?_
    refine pF rfl rfl <| aB rfl <| en <| x_ret <| ret_tmp (v := .bool _) rfl rfl <| ⟨_, rfl, ?_, HC⟩
    rw [Cm.ext]
    clear hrec
    first | (simp_all; done) | (simp [*]; done)
  ·try simp only [nm, ne_eq] at g10
   iterate 5 refine w_no 12 18 true ?_
   refine pF rfl rfl <| mB rfl ?_
   iterate 5 refine w_no 19 25 true ?_
   refine pF rfl rfl <| aB rfl <| en <| sr rfl <| mB rfl <| mB rfl ?_
   iterate 5 refine w_no 1 33 true ?_
   refine pF rfl rfl <| mB rfl ?_
   iterate 5 refine w_no 8 40 true ?_
   refine pF rfl rfl <| mB rfl ?_
   iterate 5 refine w_no 15 47 true ?_
   refine pF rfl rfl <| mB rfl ?_
   iterate 5 refine w_no 22 54 true ?_
   refine pF rfl rfl <| mB rfl ?_
   iterate 5 refine w_no 29 61 true ?_
   refine pF rfl rfl <| aB rfl <| en <| x_ret <| ret_tmp (v := .bool _) rfl rfl <| ⟨_, rfl, ?_, HC⟩
   rw [Cm.ext]
   clear hrec
   first | (simp_all; done) | (simp [*]; done)
 ·try simp only [nm, ne_eq] at g9
  iterate 5 refine w_no 5 11 true ?_
  refine pF rfl rfl <| mB rfl ?_
  iterate 5 refine w_no 12 18 true ?_
  refine pF rfl rfl <| mB rfl ?_
  iterate 5 refine w_no 19 25 true ?_
  refine pF rfl rfl <| aB rfl <| en <| sr rfl <| mB rfl <| mB rfl ?_
  iterate 5 refine w_no 1 33 true ?_
  refine pF rfl rfl <| mB rfl ?_
  iterate 5 refine w_no 8 40 true ?_
  refine pF rfl rfl <| mB rfl ?_
  iterate 5 refine w_no 15 47 true ?_
  refine pF rfl rfl <| mB rfl ?_
  iterate 5 refine w_no 22 54 true ?_
  refine pF rfl rfl <| mB rfl ?_
  iterate 5 refine w_no 29 61 true ?_
  refine pF rfl rfl <| aB rfl <| en <| x_ret <| ret_tmp (v := .bool _) rfl rfl <| ⟨_, rfl, ?_, HC⟩
  rw [Cm.ext]
  clear hrec
  first | (simp_all; done) | (simp [*]; done)

theorem gsame_le : ∀ (n : Nat) (a : Cm), SizeOf.sizeOf a ≤ n → ∀ (b : Cm) (va vb : List Value) (w : World) {D1 D2 : Nat → Prop}, cmE.R w D1 a va → cmE.R w D2 b vb → CallR Tryz.prog 11 #[.agg ⟨va⟩, .agg ⟨vb⟩] w fun v w' => EqT a b w w' v
  | 0, a, hn, b, va, vb, w, _, _, ha, hb => gsame_step w ha hb fun x hx => absurd hx (by omega)
  | n + 1, a, hn, b, va, vb, w, _, _, ha, hb => gsame_step w ha hb fun x hx y vx vy W {_ _} h1 h2 => gsame_le n x (by omega) y vx vy W h1 h2
theorem gsame_spec {a b : Cm} {va vb : List Value} {D1 D2 : Nat → Prop} (w : World) (ha : cmE.R w D1 a va) (hb : cmE.R w D2 b vb) : CallR Tryz.prog 11 #[.agg ⟨va⟩, .agg ⟨vb⟩] w fun v w' => EqT a b w w' v := gsame_le _ a (Nat.le_refl _) b va vb w ha hb

end Go.Proofs.YtghjmiggobpmoaaGreatDoor.K
set_option linter.unusedVariables false
set_option linter.unusedSimpArgs false
set_option autoImplicit false
set_option maxRecDepth 20000
namespace Go.Proofs.YtghjmiggobpmoaaGreatDoor.K
open Go Go.RowKit
def NE {α : Type} (g : Rs α) : Prop := ∀ R e, g = .er R e → e ≠ 0
theorem NE.ok {α : Type} (x : α) (R : List Tok) : NE (.ok x R) := fun _ _ h => by cases h
theorem NE.er {α : Type} (R : List Tok) {e : Int} (h : e ≠ 0) : NE (.er R e : Rs α) := fun _ _ q => by cases q; exact h
theorem NE.bind {α β : Type} {g : Rs α} {f : α → List Tok → Rs β} (h : NE g) (k : ∀ x r, NE (f x r)) : NE (g.bind f) := by
  cases g with
  | ok x r => exact k x r
  | er r e => exact fun R e' q => by cases q; exact h _ _ rfl
theorem want_ne (k : Int) (s : Bytes) (T : List Tok) : NE (wantG k s T) := by
  unfold wantG; split
  · exact .ok _ _
  · exact .er _ (by decide)
theorem any_ne (T : List Tok) : NE (anyG T) := by
  unfold anyG; split
  · exact .ok _ _
  · exact .er _ (by decide)
theorem redir_ne (T : List Tok) : NE (redirG T) := by
  unfold redirG; split
  · exact .ok _ _
  · split <;> exact NE.bind (any_ne _) fun _ _ => .ok _ _
theorem redirs_ne : ∀ (n : Nat) (l : List Rdr) (T : List Tok), NE (redirsG n l T)
  | 0, l, T => .ok _ _
  | n + 1, l, T => NE.bind (redir_ne T) fun x r => by
    cases x with
    | none => exact .ok _ _
    | some x => exact redirs_ne n _ _
theorem simple_ne : ∀ (n : Nat) (a : List (Bytes × Bytes)) (ws : List Bytes) (rs : List Rdr) (T : List Tok), NE (simpleG n a ws rs T)
  | 0, a, ws, rs, T => .ok _ _
  | n + 1, a, ws, rs, T => NE.bind (redir_ne T) fun x r => by
    cases x with
    | some x => exact simple_ne n _ _ _ _
    | none =>
      (try dsimp only); split
      · split
        · exact .er _ (by decide)
        · exact .ok _ _
      · split <;> exact simple_ne n _ _ _ _
section
variable {com : List Tok → Rs Cm} (hc : ∀ T, NE (com T))
include hc
theorem pipeL_ne : ∀ (n : Nat) (l : List Cm) (T : List Tok), NE (pipeL com n l T)
  | 0, l, T => .ok _ _
  | n + 1, l, T => by
    unfold pipeL; split
    · exact NE.bind (hc _) fun _ _ => pipeL_ne n _ _
    · exact .ok _ _
theorem pipe_ne (T : List Tok) : NE (pipeG com T) := NE.bind (hc _) fun _ _ => NE.bind (pipeL_ne hc _ _ _) fun _ _ => .ok _ _
theorem andL_ne : ∀ (n : Nat) (c : Cm) (T : List Tok), NE (andL com n c T)
  | 0, c, T => .ok _ _
  | n + 1, c, T => by
    unfold andL; split
    · exact NE.bind (pipe_ne hc _) fun _ _ => andL_ne n _ _
    · exact .ok _ _
theorem and_ne (T : List Tok) : NE (andG com T) := NE.bind (pipe_ne hc _) fun _ _ => andL_ne hc _ _ _
theorem listL_ne : ∀ (n : Nat) (l : List Cm) (T : List Tok), NE (listL com n l T)
  | 0, l, T => .ok _ _
  | n + 1, l, T => NE.bind (and_ne hc _) fun _ _ => by
    (try dsimp only); split
    · split
      · exact listL_ne n _ _
      · exact .ok _ _
    · exact .ok _ _
theorem list_ne (T : List Tok) : NE (listG com T) := NE.bind (listL_ne hc _ _ _) fun _ _ => .ok _ _
theorem body_ne (T : List Tok) : NE (bodyG com T) := list_ne hc _
theorem branch_ne : ∀ (n : Nat) (T : List Tok), NE (branchG com n T)
  | 0, T => .er _ (by decide)
  | n + 1, T => NE.bind (body_ne hc _) fun _ _ => NE.bind (want_ne _ _ _) fun _ _ => NE.bind (body_ne hc _) fun _ r => by
    (try dsimp only); split
    · exact NE.bind (branch_ne n _) fun _ _ => .ok _ _
    · split
      · exact NE.bind (body_ne hc _) fun _ _ => NE.bind (want_ne _ _ _) fun _ _ => .ok _ _
      · exact NE.bind (want_ne _ _ _) fun _ _ => .ok _ _
theorem do_ne (T : List Tok) : NE (doG com T) := NE.bind (want_ne _ _ _) fun _ _ => NE.bind (body_ne hc _) fun _ _ => NE.bind (want_ne _ _ _) fun _ _ => .ok _ _
theorem each_ne (T : List Tok) : NE (eachG com T) := by
  unfold eachG; split
  · exact .er _ (by decide)
  · refine NE.bind (any_ne _) fun _ _ => ?_
    (try dsimp only); split
    · split
      · exact .er _ (by decide)
      · exact NE.bind (do_ne hc _) fun _ _ => .ok _ _
    · exact NE.bind (do_ne hc _) fun _ _ => .ok _ _
omit hc in
theorem pats_ne : ∀ (n : Nat) (l : List Bytes) (T : List Tok), NE (patsG n l T)
  | 0, l, T => .ok _ _
  | n + 1, l, T => by
    unfold patsG; split
    · exact NE.bind (any_ne _) fun _ _ => pats_ne n _ _
    · exact .ok _ _
theorem item_ne (T : List Tok) : NE (itemG com T) := NE.bind (any_ne _) fun _ _ => NE.bind (pats_ne _ _ _) fun _ _ => NE.bind (want_ne _ _ _) fun _ _ => by
  (try dsimp only); split
  · exact NE.bind (list_ne hc _) fun _ _ => .ok _ _
  · exact .ok _ _
theorem items_ne : ∀ (n : Nat) (l : List (List Bytes × List Cm)) (T : List Tok), NE (itemsG com n l T)
  | 0, l, T => .ok _ _
  | n + 1, l, T => by
    unfold itemsG; split
    · exact .ok _ _
    · refine NE.bind (item_ne hc _) fun _ _ => ?_
      (try dsimp only); split
      · exact items_ne n _ _
      · exact .ok _ _
theorem choose_ne (T : List Tok) : NE (chooseG com T) := NE.bind (any_ne _) fun _ _ => NE.bind (want_ne _ _ _) fun _ _ => NE.bind (items_ne hc _ _ _) fun _ _ => NE.bind (want_ne _ _ _) fun _ _ => .ok _ _
theorem inner_ne (T : List Tok) : NE (innerG com T) := by
  unfold innerG; split
  · exact NE.bind (body_ne hc _) fun _ _ => NE.bind (want_ne _ _ _) fun _ _ => .ok _ _
  · split
    · exact NE.bind (body_ne hc _) fun _ _ => NE.bind (want_ne _ _ _) fun _ _ => .ok _ _
    · split
      · exact branch_ne hc _ _
      · split
        · exact NE.bind (body_ne hc _) fun _ _ => NE.bind (do_ne hc _) fun _ _ => .ok _ _
        · split
          · exact each_ne hc _
          · exact choose_ne hc _
theorem comp_ne (T : List Tok) : NE (compG com T) := NE.bind (inner_ne hc _) fun _ _ => NE.bind (redirs_ne _ _ _) fun _ _ => .ok _ _
end
theorem func_ne {cw : List Tok → Rs Cm} (hc : ∀ T, NE (cw T)) (T : List Tok) : NE (funcG cw T) := NE.bind (want_ne _ _ _) fun _ _ => by
  (try dsimp only); split
  · exact .er _ (by decide)
  · exact NE.bind (hc _) fun _ _ => .ok _ _
theorem command_ne {cw fw : List Tok → Rs Cm} (hc : ∀ T, NE (cw T)) (hf : ∀ T, NE (fw T)) (T : List Tok) : NE (commandG cw fw T) := by
  unfold commandG; split
  · exact hc _
  · split
    · exact .er _ (by decide)
    · split
      · exact hf _
      · exact simple_ne _ _ _ _ _
theorem gramF_ne : ∀ (m : Nat), (∀ T, NE ((gramF m).1 T)) ∧ ∀ T, NE ((gramF m).2 T)
  | 0 => ⟨fun T => .er _ (by decide), fun T => .er _ (by decide)⟩
  | m + 1 => ⟨fun T => comp_ne (command_ne (gramF_ne m).1 (gramF_ne m).2) T, fun T => func_ne (gramF_ne m).1 T⟩
theorem gram_ne {T R : List Tok} {e : Int} (h : gramG T = .er R e) : e ≠ 0 := by
  have : NE (gramG T) := by
    unfold gramG
    refine NE.bind ?_ fun _ _ => ?_
    · split
      · exact .ok _ _
      · exact list_ne (command_ne (gramF_ne 64).1 (gramF_ne 64).2) _
    · (try dsimp only); split
      · exact .ok _ _
      · exact .er _ (by decide)
  exact this _ _ h
end Go.Proofs.YtghjmiggobpmoaaGreatDoor.K
