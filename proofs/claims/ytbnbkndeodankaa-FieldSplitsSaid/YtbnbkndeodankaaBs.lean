/- Walks. -/
import Derived.Test.YtbnbkndeodankaaFj
import Derived.Test.YtbnbkndeodankaaBd
import Derived.Test.YtbnbkndeodankaaTy
set_option linter.unusedVariables false
set_option linter.unusedSimpArgs false
set_option autoImplicit false
set_option maxRecDepth 20000
namespace Go.Proofs.Ytbnbkndeodankaa.K
open Go Go.Proofs Go.RowKit

theorem RSame_spec {a b : List Fld} {Aa Ab : Option Addr} {capa capb : Nat} {D D2 : Nat → Prop} {w : World} (ha : Sl fE w D Aa a) (hb : Sl fE w D2 Ab b) (hla : a.length ≤ 9223372036854775807) :
    CallR Try.prog 11 #[.slice Aa a.length capa, .slice Ab b.length capb] w fun v w' => v = .bool (decide (a = b)) ∧ Chg [] w w' := by
  refine callR_of_wp (args := [_, _]) Try.func11 rfl (Nat.le_of_ble_eq_true rfl) ?_
  have HC : Chg [] w w := .refl _
  refine x_seq ?_
  refine x_region rfl ?_
  refine w_plain rfl (st_assign (v := .bool _) rfl ?_)
  refine wops_nil ?_
  refine then_n ?_
  refine x_seq ?_
  refine x_seq ?_
  refine x_region rfl ?_
  refine w_plain rfl (st_move (v := .slice _ _ _) rfl ?_)
  refine w_plain rfl (st_len (ct := #[28]) (by rw [show ((#[28] : Array TypeId)[0]?).bind Try.prog.underlying = some (.slice 31) from T.u28]; rfl) rfl ?_)
  refine w_plain rfl (st_move (v := .slice _ _ _) rfl ?_)
  refine w_plain rfl (st_len (ct := #[28]) (by rw [show ((#[28] : Array TypeId)[0]?).bind Try.prog.underlying = some (.slice 31) from T.u28]; rfl) rfl ?_)
  refine w_plain rfl (st_neq rfl rfl ?_)
  refine wops_nil ?_
  refine then_n ?_
  refine x_cond rfl (fun h0 => ?_) (fun h0 => ?_)
  · skip
    try simp only [decide_eq_true_eq, decide_eq_false_iff_not, Bool.not_eq_true', Bool.not_eq_false', Bool.not_true, Bool.not_false, ne_eq, Int.toNat_natCast, Int.toNat_zero, Int.toNat_one, Bool.not_eq_true, Bool.not_eq_false] at h0
    refine x_seq ?_
    refine x_region rfl ?_
    refine w_plain rfl (st_assign (v := .bool _) rfl ?_)
    refine wops_nil ?_
    refine then_n ?_
    refine x_ret ?_
    refine then_r ?_
    refine ret_tmp (v := .bool _) rfl rfl ?_
    refine ⟨?_, HC⟩
    rw [decide_eq_false (fun e => h0 (by rw [e]))]
  · skip
    try simp only [decide_eq_true_eq, decide_eq_false_iff_not, Bool.not_eq_true', Bool.not_eq_false', Bool.not_true, Bool.not_false, ne_eq, Int.toNat_natCast, Int.toNat_zero, Int.toNat_one, Bool.not_eq_true, Bool.not_eq_false] at h0
    have hll : a.length = b.length := by omega
    refine x_skip ?_
    refine then_n ?_
    refine x_seq ?_
    refine x_seq ?_
    refine x_region rfl ?_
    refine w_plain rfl (st_assign (v := .int _ _) rfl ?_)
    refine wops_nil ?_
    refine then_n ?_
    refine x_block ?_
    refine x_loop (ι := Nat) [4, 5, 11, 12, 13, 14, 15, 16, 17, 18, 19, 20, 21, 22, 23, 24, 25] (fun i => [(5, .int .i64 (i : Int))]) (fun i W => (i ≤ a.length ∧ a.take i = b.take i) ∧ (Chg [] w W) ∧ (Sl fE W D Aa a) ∧ (Sl fE W D2 Ab b)) (fun i => a.length - i) 0 ?_ ?_ ?_
    · exact ⟨rfl, trivial⟩
    · skip
      refine ⟨?_, HC, ha, hb⟩
      exact ⟨Nat.zero_le _, rfl⟩
    intro i G2 w1 ⟨⟨hi, ht⟩, HC, ha, hb⟩
    change wp _ _ _ _ _ (upds (over _ _ G2) [(5, .int .i64 (i : Int))]) _ _
    refine x_seq ?_
    refine x_seq ?_
    refine x_region rfl ?_
    refine w_plain rfl (st_move (v := .int _ _) rfl ?_)
    refine w_plain rfl (st_move (v := .slice _ _ _) rfl ?_)
    refine w_plain rfl (st_len (ct := #[28]) (by rw [show ((#[28] : Array TypeId)[0]?).bind Try.prog.underlying = some (.slice 31) from T.u28]; rfl) rfl ?_)
    refine w_plain rfl (st_lss rfl rfl ?_)
    refine wops_nil ?_
    refine then_n ?_
    refine x_cond rfl (fun h1 => ?_) (fun h1 => ?_)
    · skip
      try simp only [decide_eq_true_eq, decide_eq_false_iff_not, Bool.not_eq_true', Bool.not_eq_false', Bool.not_true, Bool.not_false, ne_eq, Int.toNat_natCast, Int.toNat_zero, Int.toNat_one, Bool.not_eq_true, Bool.not_eq_false] at h1
      refine x_skip ?_
      refine then_n ?_
      refine x_seq ?_
      refine x_block ?_
      refine x_seq ?_
      obtain ⟨x3, hx4⟩ : ∃ x, a[i]? = some x := ⟨_, List.getElem?_eq_getElem (by omega)⟩
      obtain ⟨lb9, _, vs8, hA5, hR7, hC6⟩ := ha.at hx4
      obtain rfl : vs8 = [S x3.text, S x3.quoted] := hR7
      obtain ⟨x10, hx11⟩ : ∃ x, b[i]? = some x := ⟨_, List.getElem?_eq_getElem (by omega)⟩
      obtain ⟨lb16, _, vs15, hA12, hR14, hC13⟩ := hb.at hx11
      obtain rfl : vs15 = [S x10.text, S x10.quoted] := hR14
      refine x_draw [(0, 0), (1, 0), (2, 0), (3, 0), (4, 0), (5, 0), (6, 0), (7, 0), (8, 0)] T.mixed rfl rfl rfl (fun W => W.heap[lb9]? = w1.heap[lb9]? ∧ W.heap[lb16]? = w1.heap[lb16]? ∧ True) ⟨rfl, rfl, trivial⟩ ?_
      have c18 := Chg.drew w1
      generalize World.drew w1 = w17 at c18 ⊢
      replace HC := HC.then c18
      replace ha := ha.tr0 c18
      replace hb := hb.tr0 c18
      refine sq_q rfl (fun W hT => r_move (v := .slice _ _ _) rfl) ?_
      refine sq_q rfl (fun W hT => r_move (v := .int _ _) rfl) ?_
      refine sq_q rfl (fun W hT => r_indexAddr T.u28 T.size31 (congrArg (fun z => Value.slice z _ _) hA5) rfl (by omega) (by omega)) ?_
      refine sq_q rfl (fun W hT => r_loadA (vs := [_, _]) T.agg31 rfl (Cells.tr hC6 hT.1) rfl) ?_
      refine sq_q rfl (fun W hT => r_move (v := .slice _ _ _) rfl) ?_
      refine sq_q rfl (fun W hT => r_move (v := .int _ _) rfl) ?_
      refine sq_q rfl (fun W hT => r_indexAddr T.u28 T.size31 (congrArg (fun z => Value.slice z _ _) hA12) rfl (by omega) (by omega)) ?_
      refine sq_q rfl (fun W hT => r_loadA (vs := [_, _]) T.agg31 rfl (Cells.tr hC13 hT.2.1) rfl) ?_
      refine sq_q rfl (fun W hT => r_aneq (va := [_, _]) (vb := [_, _]) T.eq31 rfl rfl rfl) ?_
      refine sq_nil ?_
      refine then_n ?_
      refine x_cond rfl (fun h2 => ?_) (fun h2 => ?_)
      · skip
        try simp only [decide_eq_true_eq, decide_eq_false_iff_not, Bool.not_eq_true', Bool.not_eq_false', Bool.not_true, Bool.not_false, ne_eq, Int.toNat_natCast, Int.toNat_zero, Int.toNat_one, Bool.not_eq_true, Bool.not_eq_false] at h2
        rw [fld_same] at h2
        refine x_seq ?_
        refine x_region rfl ?_
        refine w_plain rfl (st_assign (v := .bool _) rfl ?_)
        refine wops_nil ?_
        refine then_n ?_
        refine x_ret ?_
        refine block_r ?_
        refine then_r ?_
        refine then_r ?_
        refine block_r ?_
        refine then_r ?_
        refine ret_tmp (v := .bool _) rfl rfl ?_
        refine ⟨?_, HC⟩
        rw [decide_eq_false (fun e => by subst e; have := hx4.symm.trans hx11; exact absurd (Option.some.inj this) (of_decide_eq_false h2))]
      · skip
        try simp only [decide_eq_true_eq, decide_eq_false_iff_not, Bool.not_eq_true', Bool.not_eq_false', Bool.not_true, Bool.not_false, ne_eq, Int.toNat_natCast, Int.toNat_zero, Int.toNat_one, Bool.not_eq_true, Bool.not_eq_false] at h2
        rw [fld_same] at h2
        refine x_skip ?_
        refine block_n ?_
        refine then_n ?_
        refine x_region rfl ?_
        refine w_plain rfl (st_move (v := .int _ _) rfl ?_)
        refine w_plain rfl (st_addn rfl rfl (by constructor <;> omega) ?_)
        refine w_plain rfl (st_assign (v := .int _ _) rfl ?_)
        refine wops_nil ?_
        refine then_n ?_
        refine ⟨i + 1, ?_, ?_, rfl, ⟨rfl, trivial⟩, ?_⟩
        · skip
          refine ⟨?_, HC, ha, hb⟩
          exact ⟨by omega, take_same ht hx4 hx11 (of_decide_eq_true h2)⟩
        · skip
          show a.length - (i + 1) < a.length - i; omega
        repeat (first | exact agree_upds agree_over rfl | refine agree_upd ?_ rfl | refine agree_upds ?_ rfl | refine agree_over_sub ?_ rfl)
    · skip
      try simp only [decide_eq_true_eq, decide_eq_false_iff_not, Bool.not_eq_true', Bool.not_eq_false', Bool.not_true, Bool.not_false, ne_eq, Int.toNat_natCast, Int.toNat_zero, Int.toNat_one, Bool.not_eq_true, Bool.not_eq_false] at h1
      refine x_exit ?_
      refine then_x ?_
      refine then_x ?_
      refine block_x ?_
      refine then_n ?_
      refine x_seq ?_
      refine x_region rfl ?_
      refine w_plain rfl (st_assign (v := .bool _) rfl ?_)
      refine wops_nil ?_
      refine then_n ?_
      refine x_ret ?_
      refine ret_tmp (v := .bool _) rfl rfl ?_
      refine ⟨?_, HC⟩
      rw [decide_eq_true (by rw [List.take_of_length_le (by omega), List.take_of_length_le (by omega)] at ht; exact ht)]

theorem Equal_spec {a b : List Fld} {Aa Ab : Option Addr} {capa capb : Nat} {D D2 : Nat → Prop} {w : World} (ha : Sl fE w D Aa a) (hb : Sl fE w D2 Ab b) (hla : a.length ≤ 9223372036854775807) :
    CallR Try.prog 27 #[.slice Aa a.length capa, .slice Ab b.length capb] w fun v w' => v = .bool (decide (a = b)) ∧ Chg [] w w' := by
  refine callR_of_wp (args := [_, _]) Try.func27 rfl (Nat.le_of_ble_eq_true rfl) ?_
  have HC : Chg [] w w := .refl _
  refine x_seq ?_
  refine x_region rfl ?_
  refine w_plain rfl (st_assign (v := .bool _) rfl ?_)
  refine wops_nil ?_
  refine then_n ?_
  refine x_seq ?_
  refine x_seq ?_
  refine x_region rfl ?_
  refine w_plain rfl (st_move (v := .slice _ _ _) rfl ?_)
  refine w_plain rfl (st_len (ct := #[28]) (by rw [show ((#[28] : Array TypeId)[0]?).bind Try.prog.underlying = some (.slice 31) from T.u28]; rfl) rfl ?_)
  refine w_plain rfl (st_move (v := .slice _ _ _) rfl ?_)
  refine w_plain rfl (st_len (ct := #[28]) (by rw [show ((#[28] : Array TypeId)[0]?).bind Try.prog.underlying = some (.slice 31) from T.u28]; rfl) rfl ?_)
  refine w_plain rfl (st_neq rfl rfl ?_)
  refine wops_nil ?_
  refine then_n ?_
  refine x_cond rfl (fun h0 => ?_) (fun h0 => ?_)
  · skip
    try simp only [decide_eq_true_eq, decide_eq_false_iff_not, Bool.not_eq_true', Bool.not_eq_false', Bool.not_true, Bool.not_false, ne_eq, Int.toNat_natCast, Int.toNat_zero, Int.toNat_one, Bool.not_eq_true, Bool.not_eq_false] at h0
    refine x_seq ?_
    refine x_region rfl ?_
    refine w_plain rfl (st_assign (v := .bool _) rfl ?_)
    refine wops_nil ?_
    refine then_n ?_
    refine x_ret ?_
    refine then_r ?_
    refine ret_tmp (v := .bool _) rfl rfl ?_
    refine ⟨?_, HC⟩
    rw [decide_eq_false (fun e => h0 (by rw [e]))]
  · skip
    try simp only [decide_eq_true_eq, decide_eq_false_iff_not, Bool.not_eq_true', Bool.not_eq_false', Bool.not_true, Bool.not_false, ne_eq, Int.toNat_natCast, Int.toNat_zero, Int.toNat_one, Bool.not_eq_true, Bool.not_eq_false] at h0
    have hll : a.length = b.length := by omega
    refine x_skip ?_
    refine then_n ?_
    refine x_seq ?_
    refine x_seq ?_
    refine x_region rfl ?_
    refine w_plain rfl (st_move (v := .slice _ _ _) rfl ?_)
    refine w_plain rfl (st_len (ct := #[28]) (by rw [show ((#[28] : Array TypeId)[0]?).bind Try.prog.underlying = some (.slice 31) from T.u28]; rfl) rfl ?_)
    refine w_plain rfl (st_move (v := .int _ _) rfl ?_)
    refine wops_nil ?_
    refine then_n ?_
    refine x_block ?_
    refine x_loop (ι := Nat) [4, 5, 13, 14, 15, 16, 17, 18, 19, 20, 21, 22, 23, 24, 25] (fun i => [(13, .int .i64 (i : Int))]) (fun i W => (i ≤ a.length ∧ a.take i = b.take i) ∧ (Chg [] w W) ∧ (Sl fE W D Aa a) ∧ (Sl fE W D2 Ab b)) (fun i => a.length - i) 0 ?_ ?_ ?_
    · exact ⟨rfl, trivial⟩
    · skip
      refine ⟨?_, HC, ha, hb⟩
      exact ⟨Nat.zero_le _, rfl⟩
    intro i G2 w1 ⟨⟨hi, ht⟩, HC, ha, hb⟩
    change wp _ _ _ _ _ (upds (over _ _ G2) [(13, .int .i64 (i : Int))]) _ _
    refine x_seq ?_
    refine x_region rfl ?_
    refine w_plain rfl (st_lss rfl rfl ?_)
    refine wops_nil ?_
    refine then_n ?_
    refine x_seq ?_
    refine x_cond rfl (fun h1 => ?_) (fun h1 => ?_)
    · skip
      try simp only [decide_eq_true_eq, decide_eq_false_iff_not, Bool.not_eq_true', Bool.not_eq_false', Bool.not_true, Bool.not_false, ne_eq, Int.toNat_natCast, Int.toNat_zero, Int.toNat_one, Bool.not_eq_true, Bool.not_eq_false] at h1
      refine x_skip ?_
      refine then_n ?_
      refine x_seq ?_
      refine x_block ?_
      refine x_seq ?_
      refine x_region rfl ?_
      refine w_plain rfl (st_move (v := .int _ _) rfl ?_)
      refine w_plain rfl (st_assign (v := .int _ _) rfl ?_)
      refine wops_nil ?_
      refine then_n ?_
      refine x_seq ?_
      obtain ⟨x3, hx4⟩ : ∃ x, a[i]? = some x := ⟨_, List.getElem?_eq_getElem (by omega)⟩
      obtain ⟨lb9, _, vs8, hA5, hR7, hC6⟩ := ha.at hx4
      obtain rfl : vs8 = [S x3.text, S x3.quoted] := hR7
      obtain ⟨x10, hx11⟩ : ∃ x, b[i]? = some x := ⟨_, List.getElem?_eq_getElem (by omega)⟩
      obtain ⟨lb16, _, vs15, hA12, hR14, hC13⟩ := hb.at hx11
      obtain rfl : vs15 = [S x10.text, S x10.quoted] := hR14
      refine x_draw [(0, 0), (1, 0), (2, 0), (3, 0), (4, 0), (5, 0), (6, 0), (7, 0), (8, 0)] T.mixed rfl rfl rfl (fun W => W.heap[lb9]? = w1.heap[lb9]? ∧ W.heap[lb16]? = w1.heap[lb16]? ∧ True) ⟨rfl, rfl, trivial⟩ ?_
      have c18 := Chg.drew w1
      generalize World.drew w1 = w17 at c18 ⊢
      replace HC := HC.then c18
      replace ha := ha.tr0 c18
      replace hb := hb.tr0 c18
      refine sq_q rfl (fun W hT => r_move (v := .slice _ _ _) rfl) ?_
      refine sq_q rfl (fun W hT => r_move (v := .int _ _) rfl) ?_
      refine sq_q rfl (fun W hT => r_indexAddr T.u28 T.size31 (congrArg (fun z => Value.slice z _ _) hA5) rfl (by omega) (by omega)) ?_
      refine sq_q rfl (fun W hT => r_loadA (vs := [_, _]) T.agg31 rfl (Cells.tr hC6 hT.1) rfl) ?_
      refine sq_q rfl (fun W hT => r_move (v := .slice _ _ _) rfl) ?_
      refine sq_q rfl (fun W hT => r_move (v := .int _ _) rfl) ?_
      refine sq_q rfl (fun W hT => r_indexAddr T.u28 T.size31 (congrArg (fun z => Value.slice z _ _) hA12) rfl (by omega) (by omega)) ?_
      refine sq_q rfl (fun W hT => r_loadA (vs := [_, _]) T.agg31 rfl (Cells.tr hC13 hT.2.1) rfl) ?_
      refine sq_q rfl (fun W hT => r_aneq (va := [_, _]) (vb := [_, _]) T.eq31 rfl rfl rfl) ?_
      refine sq_nil ?_
      refine then_n ?_
      refine x_cond rfl (fun h2 => ?_) (fun h2 => ?_)
      · skip
        try simp only [decide_eq_true_eq, decide_eq_false_iff_not, Bool.not_eq_true', Bool.not_eq_false', Bool.not_true, Bool.not_false, ne_eq, Int.toNat_natCast, Int.toNat_zero, Int.toNat_one, Bool.not_eq_true, Bool.not_eq_false] at h2
        rw [fld_same] at h2
        refine x_seq ?_
        refine x_region rfl ?_
        refine w_plain rfl (st_assign (v := .bool _) rfl ?_)
        refine wops_nil ?_
        refine then_n ?_
        refine x_ret ?_
        refine block_r ?_
        refine then_r ?_
        refine then_r ?_
        refine block_r ?_
        refine then_r ?_
        refine ret_tmp (v := .bool _) rfl rfl ?_
        refine ⟨?_, HC⟩
        rw [decide_eq_false (fun e => by subst e; have := hx4.symm.trans hx11; exact absurd (Option.some.inj this) (of_decide_eq_false h2))]
      · skip
        try simp only [decide_eq_true_eq, decide_eq_false_iff_not, Bool.not_eq_true', Bool.not_eq_false', Bool.not_true, Bool.not_false, ne_eq, Int.toNat_natCast, Int.toNat_zero, Int.toNat_one, Bool.not_eq_true, Bool.not_eq_false] at h2
        rw [fld_same] at h2
        refine x_skip ?_
        refine block_n ?_
        refine then_n ?_
        refine x_region rfl ?_
        refine w_plain rfl (st_addn rfl rfl (by constructor <;> omega) ?_)
        refine w_plain rfl (st_move (v := .int _ _) rfl ?_)
        refine wops_nil ?_
        refine then_n ?_
        refine ⟨i + 1, ?_, ?_, rfl, ⟨rfl, trivial⟩, ?_⟩
        · skip
          refine ⟨?_, HC, ha, hb⟩
          exact ⟨by omega, take_same ht hx4 hx11 (of_decide_eq_true h2)⟩
        · skip
          show a.length - (i + 1) < a.length - i; omega
        repeat (first | exact agree_upds agree_over rfl | refine agree_upd ?_ rfl | refine agree_upds ?_ rfl | refine agree_over_sub ?_ rfl)
    · skip
      try simp only [decide_eq_true_eq, decide_eq_false_iff_not, Bool.not_eq_true', Bool.not_eq_false', Bool.not_true, Bool.not_false, ne_eq, Int.toNat_natCast, Int.toNat_zero, Int.toNat_one, Bool.not_eq_true, Bool.not_eq_false] at h1
      refine x_exit ?_
      refine then_x ?_
      refine then_x ?_
      refine block_x ?_
      refine then_n ?_
      refine x_seq ?_
      refine x_region rfl ?_
      refine w_plain rfl (st_assign (v := .bool _) rfl ?_)
      refine wops_nil ?_
      refine then_n ?_
      refine x_ret ?_
      refine ret_tmp (v := .bool _) rfl rfl ?_
      refine ⟨?_, HC⟩
      rw [decide_eq_true (by rw [List.take_of_length_le (by omega), List.take_of_length_le (by omega)] at ht; exact ht)]

theorem Same_spec {a b : List Fld} {Aa Ab : Option Addr} {capa capb : Nat} {D D2 : Nat → Prop} {w : World} (ha : Sl fE w D Aa a) (hb : Sl fE w D2 Ab b) (hla : a.length ≤ 9223372036854775807) :
    CallR Try.prog 14 #[.slice Aa a.length capa, .slice Ab b.length capb] w fun v w' => v = .bool (decide (a = b)) ∧ Chg [] w w' := by
  refine callR_of_wp (args := [_, _]) Try.func14 rfl (Nat.le_of_ble_eq_true rfl) ?_
  have HC : Chg [] w w := .refl _
  refine x_seq ?_
  refine x_region rfl ?_
  refine w_plain rfl (st_assign (v := .bool _) rfl ?_)
  refine wops_nil ?_
  refine then_n ?_
  refine x_seq ?_
  refine x_region rfl ?_
  refine w_plain rfl (st_move (v := .slice _ _ _) rfl ?_)
  refine w_plain rfl (st_move (v := .slice _ _ _) rfl ?_)
  refine w_plain rfl (st_call (ags := [_, _]) rfl rfl T.ent27 rfl (Equal_spec ha hb hla) ?_)
  rintro _ w1 ⟨rfl, c2⟩
  replace HC := HC.then c2
  refine w_plain rfl (st_assign (v := .bool _) rfl ?_)
  refine wops_nil ?_
  refine then_n ?_
  refine x_ret ?_
  refine ret_tmp (v := .bool _) rfl rfl ?_
  exact ⟨rfl, HC⟩

theorem Join_spec {l : List Piece} {Al : Option Addr} {capl : Nat} {D : Nat → Prop} {w : World} (hl : Sl pE w D Al l) (hbulk : bulkP l ≤ 1000000000) :
    CallR Try.prog 10 #[.slice Al l.length capl] w fun v w' => v = .agg ⟨[S (jT l), S (jQ l)]⟩ ∧ Chg [] w w' := by
  replace hl := hl.mono (D' := fun k => k < w.heap.size) (fun k hk _ => hk)
  refine callR_of_wp (args := [_]) Try.func10 rfl (Nat.le_of_ble_eq_true rfl) ?_
  have HC : Chg [] w w := .refl _
  refine x_seq ?_
  refine x_region rfl ?_
  refine w_plain rfl (st_alloc T.zero31 ?_)
  intro b2 w1 e2 c3 hb4
  have ge_b2 : w.heap.size ≤ b2 := by rw [e2]; exact HC.size
  replace HC := HC.then c3
  replace hl := hl.tr0 c3
  clear e2
  refine wops_nil ?_
  refine then_n ?_
  refine x_seq ?_
  refine x_region rfl ?_
  refine w_plain rfl (st_alloc T.zero50 ?_)
  intro b3 w5 e6 c7 hb8
  have ge_b3 : w.heap.size ≤ b3 := by rw [e6]; exact HC.size
  have ne_b2_b3 : b2 ≠ b3 := by rw [e6]; exact hb4.ne_size
  replace HC := HC.then c7
  replace hl := hl.tr0 c7
  replace hb4 := hb4.tr0 c7
  clear e6
  refine w_plain rfl (st_alloc T.zero50 ?_)
  intro b4 w9 e10 c11 hb12
  have ge_b4 : w.heap.size ≤ b4 := by rw [e10]; exact HC.size
  have ne_b2_b4 : b2 ≠ b4 := by rw [e10]; exact hb4.ne_size
  have ne_b3_b4 : b3 ≠ b4 := by rw [e10]; exact hb8.ne_size
  replace HC := HC.then c11
  replace hl := hl.tr0 c11
  replace hb4 := hb4.tr0 c11
  replace hb8 := hb8.tr0 c11
  clear e10
  refine wops_nil ?_
  refine then_n ?_
  refine x_seq ?_
  refine x_seq ?_
  refine x_region rfl ?_
  refine w_plain rfl (st_move (v := .slice _ _ _) rfl ?_)
  refine w_plain rfl (st_len (ct := #[22]) (by rw [show ((#[22] : Array TypeId)[0]?).bind Try.prog.underlying = some (.slice 27) from T.u22]; rfl) rfl ?_)
  refine w_plain rfl (st_move (v := .int _ _) rfl ?_)
  refine wops_nil ?_
  refine then_n ?_
  refine x_block ?_
  have hB3 : BldAt 50 5 w9 b3 none 0 (jT (l.take 0)) := .new hb8
  have hB4 : BldAt 50 5 w9 b4 none 0 (jQ (l.take 0)) := .new hb12
  have n34 : b3 ≠ b4 := ne_b3_b4
  have hdis : ∀ k, k ∈ ob (none : Option Addr) → k ∉ ob (none : Option Addr) := by simp [ob]
  have hlo3 : ∀ k, k ∈ ob (none : Option Addr) → w.heap.size ≤ k := by simp [ob]
  have hlo4 := hlo3
  refine x_loop (ι := Nat × Option Addr × Nat × Option Addr × Nat) [6, 9, 10, 11, 12, 13, 14, 15, 16, 17, 18, 19, 20, 21, 22, 23, 24, 25, 26, 27, 28] (fun ⟨i, A1, cap1, A2, cap2⟩ => [(9, .int .i64 (i : Int))]) (fun ⟨i, A1, cap1, A2, cap2⟩ W => (i ≤ l.length) ∧ (Chg [] w W) ∧ (Sl pE W (fun k => k < w.heap.size) Al l) ∧ (Blk W b2 [S [], S []] 31) ∧ (BldAt 50 5 W b3 A1 cap1 (jT (l.take i))) ∧ (BldAt 50 5 W b4 A2 cap2 (jQ (l.take i))) ∧ (∀ k, k ∈ ob A1 → k ∉ ob A2) ∧ (∀ k, k ∈ ob A1 → w.heap.size ≤ k) ∧ (∀ k, k ∈ ob A2 → w.heap.size ≤ k)) (fun ⟨i, A1, cap1, A2, cap2⟩ => l.length - i) (0, none, 0, none, 0) ?_ ?_ ?_
  · exact ⟨rfl, trivial⟩
  · skip
    refine ⟨?_, HC, hl, hb4, hB3, hB4, hdis, hlo3, hlo4⟩
    exact Nat.zero_le _
  intro ⟨i, A1, cap1, A2, cap2⟩ G14 w13 ⟨hi, HC, hl, hb4, hB3, hB4, hdis, hlo3, hlo4⟩
  change wp _ _ _ _ _ (upds (over _ _ G14) [(9, .int .i64 (i : Int))]) _ _
  have hbt1 := bulkP_take l i
  have hll := len_bulkP l
  refine x_seq ?_
  refine x_region rfl ?_
  refine w_plain rfl (st_lss rfl rfl ?_)
  refine wops_nil ?_
  refine then_n ?_
  refine x_seq ?_
  refine x_cond rfl (fun h0 => ?_) (fun h0 => ?_)
  · skip
    try simp only [decide_eq_true_eq, decide_eq_false_iff_not, Bool.not_eq_true', Bool.not_eq_false', Bool.not_true, Bool.not_false, ne_eq, Int.toNat_natCast, Int.toNat_zero, Int.toNat_one, Bool.not_eq_true, Bool.not_eq_false] at h0
    refine x_skip ?_
    refine then_n ?_
    refine x_seq ?_
    refine x_block ?_
    refine x_seq ?_
    refine x_region rfl ?_
    obtain ⟨p, hx15⟩ : ∃ x, l[i]? = some x := ⟨_, List.getElem?_eq_getElem (by omega)⟩
    obtain ⟨lb20, _, vs19, hA16, hR18, hC17⟩ := hl.at hx15
    obtain rfl : vs19 = [.int .i64 p.kind, S p.text] := hR18
    refine w_plain rfl (st_indexAddr T.u22 T.size27 (congrArg (fun z => Value.slice z _ _) hA16) rfl (by omega) (by omega) ?_)
    refine w_plain rfl (st_loadA (vs := [_, _]) T.agg27 rfl hC17 rfl ?_)
    refine w_plain rfl (st_alloc T.zero27 ?_)
    intro b6 w21 e22 c23 hb24
    have ge_b6 : w.heap.size ≤ b6 := by rw [e22]; exact HC.size
    have ne_b2_b6 : b2 ≠ b6 := by rw [e22]; exact hb4.ne_size
    have nd_b3_b6 : b3 ≠ b6 := by have := hB3.ltb; omega
    have nb_b3_b6 : b6 ∉ ob A1 := hB3.fresh (by rw [e22]; exact Nat.le_refl _)
    have nd_b4_b6 : b4 ≠ b6 := by have := hB4.ltb; omega
    have nb_b4_b6 : b6 ∉ ob A2 := hB4.fresh (by rw [e22]; exact Nat.le_refl _)
    replace HC := HC.then c23
    replace hl := hl.tr0 c23
    replace hb4 := hb4.tr0 c23
    replace hB3 := hB3.tr0 c23
    replace hB4 := hB4.tr0 c23
    clear e22
    refine w_plain rfl (st_store (v := .agg ⟨[.int _ _, S _]⟩) T.size27 rfl rfl rfl hb24 rfl (Nat.le_of_ble_eq_true rfl) (by simp [Value.oneCell', S]) rfl ?_)
    intro w25 c26 hb27; simp only [setVs, setV] at hb27
    clear hb24
    replace HC := HC.then1 c26 ge_b6
    replace hl := hl.tr c26 (by intro k hx hD; simp only [List.mem_singleton] at hx; subst hx; omega)
    replace hb4 := hb4.tr1 c26 ne_b2_b6
    replace hB3 := hB3.tr c26 (by intro hx; simp only [List.mem_singleton] at hx; subst hx; exact absurd rfl nd_b3_b6) (by intro k hk hx; simp only [List.mem_singleton] at hx; subst hx; exact nb_b3_b6 hk)
    replace hB4 := hB4.tr c26 (by intro hx; simp only [List.mem_singleton] at hx; subst hx; exact absurd rfl nd_b4_b6) (by intro k hk hx; simp only [List.mem_singleton] at hx; subst hx; exact nb_b4_b6 hk)
    refine wops_nil ?_
    refine then_n ?_
    refine x_seq ?_
    refine x_seq ?_
    refine x_region rfl ?_
    refine w_plain rfl (st_fieldAddr T.fld27_0 rfl ?_)
    refine w_plain rfl (st_load1 (v := .int _ _) T.one3 rfl (hb27.cell rfl) ?_)
    refine w_plain rfl (st_eql rfl rfl ?_)
    refine wops_nil ?_
    refine then_n ?_
    refine x_cond rfl (fun h1 => ?_) (fun h1 => ?_)
    · skip
      try simp only [decide_eq_true_eq, decide_eq_false_iff_not, Bool.not_eq_true', Bool.not_eq_false', Bool.not_true, Bool.not_false, ne_eq, Int.toNat_natCast, Int.toNat_zero, Int.toNat_one, Bool.not_eq_true, Bool.not_eq_false] at h1
      refine x_region rfl ?_
      refine w_plain rfl (st_bld (ps := [(0, .const (.int .i64 1)), (1, .const (S [32]))]) (vs := [.int _ _, S _]) T.bld27 rfl ?_)
      refine w_plain rfl (st_store (v := .agg ⟨[.int _ _, S _]⟩) T.size27 rfl rfl rfl hb27 rfl (Nat.le_of_ble_eq_true rfl) (by simp [Value.oneCell', S]) rfl ?_)
      intro w28 c29 hb30; simp only [setVs, setV] at hb30
      clear hb27
      replace HC := HC.then1 c29 ge_b6
      replace hl := hl.tr c29 (by intro k hx hD; simp only [List.mem_singleton] at hx; subst hx; omega)
      replace hb4 := hb4.tr1 c29 ne_b2_b6
      replace hB3 := hB3.tr c29 (by intro hx; simp only [List.mem_singleton] at hx; subst hx; exact absurd rfl nd_b3_b6) (by intro k hk hx; simp only [List.mem_singleton] at hx; subst hx; exact nb_b3_b6 hk)
      replace hB4 := hB4.tr c29 (by intro hx; simp only [List.mem_singleton] at hx; subst hx; exact absurd rfl nd_b4_b6) (by intro k hk hx; simp only [List.mem_singleton] at hx; subst hx; exact nb_b4_b6 hk)
      refine wops_nil ?_
      refine then_n ?_
      refine x_seq ?_
      have hjp : jp p = ⟨1, [32]⟩ := by unfold jp; rw [if_pos h1]
      replace hb30 : Blk w28 b6 [.int .i64 (jp p).kind, S (jp p).text] 27 := by rw [hjp]; exact hb30
      have hjl := jp_len p
      have hbk := bulkP_at hx15
      have hT1 := jT_len (l.take i)
      have hQ1 := jQ_len (l.take i)
      refine x_region rfl ?_
      refine w_plain rfl (st_fieldAddr T.fld27_1 rfl ?_)
      refine w_plain rfl (st_load1 (v := S _) T.one9 rfl (hb30.cell rfl) ?_)
      refine w_plain rfl (st_call (ags := [_, _]) rfl rfl T.ent21 rfl (WriteString_spec (s := jT (l.take i)) _ hB3 (by omega)) ?_)
      have hdA := hB3.ne (by decide)
      have hdB := hB4.ne (by decide)
      have hltA := hB4.own.lt
      have hself := hB3.own
      have hxb3 : b4 ∉ ob A1 := by rcases hB4.blk with hb | hb <;> exact hB3.own.ne hb (by decide)
      have hyb3 : b3 ∉ ob A2 := by rcases hB3.blk with hb | hb <;> exact hB4.own.ne hb (by decide)
      have hz_b2 : b2 ∉ ob A1 := hB3.own.ne hb4 (by decide)
      have hz_b6 : b6 ∉ ob A1 := hB3.own.ne hb30 (by decide)
      have hltO : ∀ k, k ∈ ob A2 → k < w28.heap.size := hB4.own.lt
      rintro _ w31 ⟨rfl, A33, cap34, hB32, c32, hg⟩
      have hsz1 := HC.size
      replace HC := HC.trans c32 (fun k hk => (List.mem_cons.1 hk).elim (fun h => .inr (by omega)) (fun h => .inr (hlo3 k h)))
      replace hl := hl.tr c32 (fun k hk hD => (List.mem_cons.1 hk).elim (fun h => by omega) (fun h => by have := hlo3 k h; omega))
      replace hb4 := hb4.tr c32 (fun hx => (List.mem_cons.1 hx).elim (fun h => by first | exact absurd h.symm nd_b3_b2 | exact absurd h ne_b2_b3) (fun h => hz_b2 h))
      replace hB4 := hB4.tr c32 (fun hx => (List.mem_cons.1 hx).elim (fun h => n34.symm h) (fun h => hxb3 h)) (fun k hk hx => (List.mem_cons.1 hx).elim (fun h => by subst h; exact hyb3 hk) (fun h => hdis k h hk))
      replace hb30 := hb30.tr c32 (fun hx => (List.mem_cons.1 hx).elim (fun h => by first | exact absurd h.symm nd_b3_b6 | exact absurd h ne_b6_b3) (fun h => hz_b6 h))
      replace hlo3 : ∀ k, k ∈ ob A33 → w.heap.size ≤ k := fun k hk => (hg k hk).elim (hlo3 k) (fun h => by omega)
      replace hdis : ∀ k, k ∈ ob A33 → k ∉ ob A2 := fun k hk hx => (hg k hk).elim (fun h => hdis k h hx) (fun h => by have := hltO k hx; omega)
      refine wops_nil ?_
      refine then_n ?_
      refine x_draw [(0, 0), (1, 0), (3, 0), (4, 0), (5, 0), (2, 1), (6, 1), (7, 2)] T.mixed rfl rfl rfl (fun W => W.heap[b2]? = w31.heap[b2]? ∧ W.heap[b6]? = w31.heap[b6]? ∧ True) ⟨rfl, rfl, trivial⟩ ?_
      have o37 := hb4
      have o38 := hb30
      have c36 := Chg.drew w31
      generalize World.drew w31 = w35 at c36 ⊢
      replace HC := HC.then c36
      replace hl := hl.tr0 c36
      replace hb4 := hb4.tr0 c36
      replace hB32 := hB32.tr0 c36
      replace hB4 := hB4.tr0 c36
      replace hb30 := hb30.tr0 c36
      refine sq_q rfl (fun W hT => r_fieldAddr T.fld27_0 rfl) ?_
      refine sq_q rfl (fun W hT => r_load1 (v := .int _ _) T.one3 rfl (Blk.cell (show Blk W b6 _ _ from hT.2.1.trans o38) rfl)) ?_
      refine sq_q rfl (fun W hT => r_fieldAddr T.fld27_1 rfl) ?_
      refine sq_q rfl (fun W hT => r_load1 (v := S _) T.one9 rfl (Blk.cell (show Blk W b6 _ _ from hT.2.1.trans o38) rfl)) ?_
      refine sq_q rfl (fun W hT => r_slen (ct := #[9]) T.u9 rfl) ?_
      refine sq_call1 rfl (r_call (ags := [_]) rfl rfl T.ent20 rfl) (mark_spec _ _) ?_
      rintro _ w39 ⟨rfl, c40⟩
      replace HC := HC.then c40
      replace hl := hl.tr0 c40
      replace hb4 := hb4.tr0 c40
      replace hB32 := hB32.tr0 c40
      replace hB4 := hB4.tr0 c40
      replace hb30 := hb30.tr0 c40
      refine ⟨_, fun _ h => h, ⟨(Eq.trans hb4 o37.symm), (Eq.trans hb30 o38.symm), trivial⟩, ?_⟩
      refine sq_call1 rfl (r_call (ags := [_, _]) rfl rfl T.ent22 rfl) (Repeat_spec _ (jp p).text.length _ (by omega)) ?_
      rintro _ w41 ⟨rfl, c42⟩
      replace HC := HC.then c42
      replace hl := hl.tr0 c42
      replace hb4 := hb4.tr0 c42
      replace hB32 := hB32.tr0 c42
      replace hB4 := hB4.tr0 c42
      replace hb30 := hb30.tr0 c42
      refine ⟨_, fun _ h => h, ⟨(Eq.trans hb4 o37.symm), (Eq.trans hb30 o38.symm), trivial⟩, ?_⟩
      refine sq_call2 rfl (r_call (ags := [_, _]) rfl rfl T.ent21 rfl) (WriteString_spec (s := jQ (l.take i)) _ hB4 (by rw [List.length_replicate]; omega)) ?_
      have hdA := hB4.ne (by decide)
      have hdB := hB32.ne (by decide)
      have hltA := hB32.own.lt
      have hself := hB4.own
      have hxb4 : b3 ∉ ob A2 := by rcases hB32.blk with hb | hb <;> exact hB4.own.ne hb (by decide)
      have hyb4 : b4 ∉ ob A33 := by rcases hB4.blk with hb | hb <;> exact hB32.own.ne hb (by decide)
      have hz_b2 : b2 ∉ ob A2 := hB4.own.ne hb4 (by decide)
      have hz_b6 : b6 ∉ ob A2 := hB4.own.ne hb30 (by decide)
      have hltO : ∀ k, k ∈ ob A33 → k < w41.heap.size := hB32.own.lt
      rintro _ w43 ⟨rfl, A45, cap46, hB42, c44, hg⟩
      have hsz1 := HC.size
      replace HC := HC.trans c44 (fun k hk => (List.mem_cons.1 hk).elim (fun h => .inr (by omega)) (fun h => .inr (hlo4 k h)))
      replace hl := hl.tr c44 (fun k hk hD => (List.mem_cons.1 hk).elim (fun h => by omega) (fun h => by have := hlo4 k h; omega))
      replace hb4 := hb4.tr c44 (fun hx => (List.mem_cons.1 hx).elim (fun h => by first | exact absurd h.symm nd_b4_b2 | exact absurd h ne_b2_b4) (fun h => hz_b2 h))
      replace hB32 := hB32.tr c44 (fun hx => (List.mem_cons.1 hx).elim (fun h => n34 h) (fun h => hxb4 h)) (fun k hk hx => (List.mem_cons.1 hx).elim (fun h => by subst h; exact hyb4 hk) (fun h => hdis k hk h))
      replace hb30 := hb30.tr c44 (fun hx => (List.mem_cons.1 hx).elim (fun h => by first | exact absurd h.symm nd_b4_b6 | exact absurd h ne_b6_b4) (fun h => hz_b6 h))
      replace hlo4 : ∀ k, k ∈ ob A45 → w.heap.size ≤ k := fun k hk => (hg k hk).elim (hlo4 k) (fun h => by omega)
      replace hdis : ∀ k, k ∈ ob A33 → k ∉ ob A45 := fun k hk hx => (hg k hx).elim (fun h => hdis k hk h) (fun h => by have := hltO k hk; omega)
      clear o37
      clear o38
      refine sq_nil ?_
      refine block_n ?_
      refine then_n ?_
      refine x_region rfl ?_
      refine w_plain rfl (st_addn rfl rfl (by constructor <;> omega) ?_)
      refine w_plain rfl (st_move (v := .int _ _) rfl ?_)
      refine wops_nil ?_
      refine then_n ?_
      refine ⟨(i + 1, A33, cap34, A45, cap46), ?_, ?_, rfl, ⟨rfl, trivial⟩, ?_⟩
      · skip
        refine ⟨?_, HC, hl, hb4, (by rw [jT_step hx15]; exact hB32), (by rw [jQ_step hx15]; exact hB42), hdis, hlo3, hlo4⟩
        show i + 1 ≤ l.length; omega
      · skip
        show l.length - (i + 1) < l.length - i; omega
      repeat (first | exact agree_upds agree_over rfl | refine agree_upd ?_ rfl | refine agree_upds ?_ rfl | refine agree_over_sub ?_ rfl)
    · skip
      try simp only [decide_eq_true_eq, decide_eq_false_iff_not, Bool.not_eq_true', Bool.not_eq_false', Bool.not_true, Bool.not_false, ne_eq, Int.toNat_natCast, Int.toNat_zero, Int.toNat_one, Bool.not_eq_true, Bool.not_eq_false] at h1
      have hjp : jp p = p := by unfold jp; rw [if_neg h1]
      replace hb27 : Blk w25 b6 [.int .i64 (jp p).kind, S (jp p).text] 27 := by rw [hjp]; exact hb27
      have hjl := jp_len p
      have hbk := bulkP_at hx15
      have hT1 := jT_len (l.take i)
      have hQ1 := jQ_len (l.take i)
      refine x_skip ?_
      refine then_n ?_
      refine x_seq ?_
      refine x_region rfl ?_
      refine w_plain rfl (st_fieldAddr T.fld27_1 rfl ?_)
      refine w_plain rfl (st_load1 (v := S _) T.one9 rfl (hb27.cell rfl) ?_)
      refine w_plain rfl (st_call (ags := [_, _]) rfl rfl T.ent21 rfl (WriteString_spec (s := jT (l.take i)) _ hB3 (by omega)) ?_)
      have hdA := hB3.ne (by decide)
      have hdB := hB4.ne (by decide)
      have hltA := hB4.own.lt
      have hself := hB3.own
      have hxb3 : b4 ∉ ob A1 := by rcases hB4.blk with hb | hb <;> exact hB3.own.ne hb (by decide)
      have hyb3 : b3 ∉ ob A2 := by rcases hB3.blk with hb | hb <;> exact hB4.own.ne hb (by decide)
      have hz_b2 : b2 ∉ ob A1 := hB3.own.ne hb4 (by decide)
      have hz_b6 : b6 ∉ ob A1 := hB3.own.ne hb27 (by decide)
      have hltO : ∀ k, k ∈ ob A2 → k < w25.heap.size := hB4.own.lt
      rintro _ w47 ⟨rfl, A49, cap50, hB32, c48, hg⟩
      have hsz1 := HC.size
      replace HC := HC.trans c48 (fun k hk => (List.mem_cons.1 hk).elim (fun h => .inr (by omega)) (fun h => .inr (hlo3 k h)))
      replace hl := hl.tr c48 (fun k hk hD => (List.mem_cons.1 hk).elim (fun h => by omega) (fun h => by have := hlo3 k h; omega))
      replace hb4 := hb4.tr c48 (fun hx => (List.mem_cons.1 hx).elim (fun h => by first | exact absurd h.symm nd_b3_b2 | exact absurd h ne_b2_b3) (fun h => hz_b2 h))
      replace hB4 := hB4.tr c48 (fun hx => (List.mem_cons.1 hx).elim (fun h => n34.symm h) (fun h => hxb3 h)) (fun k hk hx => (List.mem_cons.1 hx).elim (fun h => by subst h; exact hyb3 hk) (fun h => hdis k h hk))
      replace hb27 := hb27.tr c48 (fun hx => (List.mem_cons.1 hx).elim (fun h => by first | exact absurd h.symm nd_b3_b6 | exact absurd h ne_b6_b3) (fun h => hz_b6 h))
      replace hlo3 : ∀ k, k ∈ ob A49 → w.heap.size ≤ k := fun k hk => (hg k hk).elim (hlo3 k) (fun h => by omega)
      replace hdis : ∀ k, k ∈ ob A49 → k ∉ ob A2 := fun k hk hx => (hg k hk).elim (fun h => hdis k h hx) (fun h => by have := hltO k hx; omega)
      refine wops_nil ?_
      refine then_n ?_
      refine x_draw [(0, 0), (1, 0), (3, 0), (4, 0), (5, 0), (2, 1), (6, 1), (7, 2)] T.mixed rfl rfl rfl (fun W => W.heap[b2]? = w47.heap[b2]? ∧ W.heap[b6]? = w47.heap[b6]? ∧ True) ⟨rfl, rfl, trivial⟩ ?_
      have o53 := hb4
      have o54 := hb27
      have c52 := Chg.drew w47
      generalize World.drew w47 = w51 at c52 ⊢
      replace HC := HC.then c52
      replace hl := hl.tr0 c52
      replace hb4 := hb4.tr0 c52
      replace hB32 := hB32.tr0 c52
      replace hB4 := hB4.tr0 c52
      replace hb27 := hb27.tr0 c52
      refine sq_q rfl (fun W hT => r_fieldAddr T.fld27_0 rfl) ?_
      refine sq_q rfl (fun W hT => r_load1 (v := .int _ _) T.one3 rfl (Blk.cell (show Blk W b6 _ _ from hT.2.1.trans o54) rfl)) ?_
      refine sq_q rfl (fun W hT => r_fieldAddr T.fld27_1 rfl) ?_
      refine sq_q rfl (fun W hT => r_load1 (v := S _) T.one9 rfl (Blk.cell (show Blk W b6 _ _ from hT.2.1.trans o54) rfl)) ?_
      refine sq_q rfl (fun W hT => r_slen (ct := #[9]) T.u9 rfl) ?_
      refine sq_call1 rfl (r_call (ags := [_]) rfl rfl T.ent20 rfl) (mark_spec _ _) ?_
      rintro _ w55 ⟨rfl, c56⟩
      replace HC := HC.then c56
      replace hl := hl.tr0 c56
      replace hb4 := hb4.tr0 c56
      replace hB32 := hB32.tr0 c56
      replace hB4 := hB4.tr0 c56
      replace hb27 := hb27.tr0 c56
      refine ⟨_, fun _ h => h, ⟨(Eq.trans hb4 o53.symm), (Eq.trans hb27 o54.symm), trivial⟩, ?_⟩
      refine sq_call1 rfl (r_call (ags := [_, _]) rfl rfl T.ent22 rfl) (Repeat_spec _ (jp p).text.length _ (by omega)) ?_
      rintro _ w57 ⟨rfl, c58⟩
      replace HC := HC.then c58
      replace hl := hl.tr0 c58
      replace hb4 := hb4.tr0 c58
      replace hB32 := hB32.tr0 c58
      replace hB4 := hB4.tr0 c58
      replace hb27 := hb27.tr0 c58
      refine ⟨_, fun _ h => h, ⟨(Eq.trans hb4 o53.symm), (Eq.trans hb27 o54.symm), trivial⟩, ?_⟩
      refine sq_call2 rfl (r_call (ags := [_, _]) rfl rfl T.ent21 rfl) (WriteString_spec (s := jQ (l.take i)) _ hB4 (by rw [List.length_replicate]; omega)) ?_
      have hdA := hB4.ne (by decide)
      have hdB := hB32.ne (by decide)
      have hltA := hB32.own.lt
      have hself := hB4.own
      have hxb4 : b3 ∉ ob A2 := by rcases hB32.blk with hb | hb <;> exact hB4.own.ne hb (by decide)
      have hyb4 : b4 ∉ ob A49 := by rcases hB4.blk with hb | hb <;> exact hB32.own.ne hb (by decide)
      have hz_b2 : b2 ∉ ob A2 := hB4.own.ne hb4 (by decide)
      have hz_b6 : b6 ∉ ob A2 := hB4.own.ne hb27 (by decide)
      have hltO : ∀ k, k ∈ ob A49 → k < w57.heap.size := hB32.own.lt
      rintro _ w59 ⟨rfl, A61, cap62, hB42, c60, hg⟩
      have hsz1 := HC.size
      replace HC := HC.trans c60 (fun k hk => (List.mem_cons.1 hk).elim (fun h => .inr (by omega)) (fun h => .inr (hlo4 k h)))
      replace hl := hl.tr c60 (fun k hk hD => (List.mem_cons.1 hk).elim (fun h => by omega) (fun h => by have := hlo4 k h; omega))
      replace hb4 := hb4.tr c60 (fun hx => (List.mem_cons.1 hx).elim (fun h => by first | exact absurd h.symm nd_b4_b2 | exact absurd h ne_b2_b4) (fun h => hz_b2 h))
      replace hB32 := hB32.tr c60 (fun hx => (List.mem_cons.1 hx).elim (fun h => n34 h) (fun h => hxb4 h)) (fun k hk hx => (List.mem_cons.1 hx).elim (fun h => by subst h; exact hyb4 hk) (fun h => hdis k hk h))
      replace hb27 := hb27.tr c60 (fun hx => (List.mem_cons.1 hx).elim (fun h => by first | exact absurd h.symm nd_b4_b6 | exact absurd h ne_b6_b4) (fun h => hz_b6 h))
      replace hlo4 : ∀ k, k ∈ ob A61 → w.heap.size ≤ k := fun k hk => (hg k hk).elim (hlo4 k) (fun h => by omega)
      replace hdis : ∀ k, k ∈ ob A49 → k ∉ ob A61 := fun k hk hx => (hg k hx).elim (fun h => hdis k hk h) (fun h => by have := hltO k hk; omega)
      clear o53
      clear o54
      refine sq_nil ?_
      refine block_n ?_
      refine then_n ?_
      refine x_region rfl ?_
      refine w_plain rfl (st_addn rfl rfl (by constructor <;> omega) ?_)
      refine w_plain rfl (st_move (v := .int _ _) rfl ?_)
      refine wops_nil ?_
      refine then_n ?_
      refine ⟨(i + 1, A49, cap50, A61, cap62), ?_, ?_, rfl, ⟨rfl, trivial⟩, ?_⟩
      · skip
        refine ⟨?_, HC, hl, hb4, (by rw [jT_step hx15]; exact hB32), (by rw [jQ_step hx15]; exact hB42), hdis, hlo3, hlo4⟩
        show i + 1 ≤ l.length; omega
      · skip
        show l.length - (i + 1) < l.length - i; omega
      repeat (first | exact agree_upds agree_over rfl | refine agree_upd ?_ rfl | refine agree_upds ?_ rfl | refine agree_over_sub ?_ rfl)
  · skip
    try simp only [decide_eq_true_eq, decide_eq_false_iff_not, Bool.not_eq_true', Bool.not_eq_false', Bool.not_true, Bool.not_false, ne_eq, Int.toNat_natCast, Int.toNat_zero, Int.toNat_one, Bool.not_eq_true, Bool.not_eq_false] at h0
    have hlt : l.take i = l := List.take_of_length_le (by omega)
    rw [hlt] at hB3 hB4
    skip
    refine x_exit ?_
    refine then_x ?_
    refine then_x ?_
    refine block_x ?_
    refine then_n ?_
    refine x_seq ?_
    refine x_region rfl ?_
    refine w_plain rfl (st_call (ags := [_]) rfl rfl T.ent23 rfl (String_spec hB3) ?_)
    have hz_b2 : b2 ∉ ob A1 := hB3.own.ne hb4 (by decide)
    have hxb3 : b4 ∉ ob A1 := by rcases hB4.blk with hb | hb <;> exact hB3.own.ne hb (by decide)
    rintro _ w63 ⟨rfl, hB32, c64⟩
    replace HC := HC.trans c64 (fun k hk => .inr (hlo3 k hk))
    replace hl := hl.tr c64 (fun k hk hD => by have := hlo3 k hk; omega)
    replace hb4 := hb4.tr c64 hz_b2
    replace hB4 := hB4.tr c64 hxb3 (fun k hk hx => hdis k hx hk)
    refine w_plain rfl (st_call (ags := [_]) rfl rfl T.ent23 rfl (String_spec hB4) ?_)
    have hz_b2 : b2 ∉ ob A2 := hB4.own.ne hb4 (by decide)
    rintro _ w65 ⟨rfl, hB42, c66⟩
    replace HC := HC.trans c66 (fun k hk => .inr (hlo4 k hk))
    replace hl := hl.tr c66 (fun k hk hD => by have := hlo4 k hk; omega)
    replace hb4 := hb4.tr c66 hz_b2
    refine w_plain rfl (st_bld (ps := [(0, .tmp 29), (1, .tmp 30)]) (vs := [S _, S _]) T.bld31 rfl ?_)
    refine w_plain rfl (st_store (v := .agg ⟨[S _, S _]⟩) T.size31 rfl rfl rfl hb4 rfl (Nat.le_of_ble_eq_true rfl) (by simp [Value.oneCell', S]) rfl ?_)
    intro w67 c68 hb69; simp only [setVs, setV] at hb69
    clear hb4
    replace HC := HC.then1 c68 ge_b2
    replace hl := hl.tr c68 (by intro k hx hD; simp only [List.mem_singleton] at hx; subst hx; omega)
    refine wops_nil ?_
    refine then_n ?_
    refine x_ret ?_
    refine ret_cellA (vs := [_, _]) rfl rfl T.agg31 (hb69.cells (n := 2) rfl) rfl ?_
    exact ⟨rfl, HC⟩

end Go.Proofs.Ytbnbkndeodankaa.K
