/- The program's fit rows. -/
import Derived.Test.YtcgcbpknbjafcaaDoorCl
import Derived.Test.YtcgcbpknbjafcaaDoorKitO
set_option linter.unusedVariables false
set_option linter.unusedSimpArgs false
set_option autoImplicit false
set_option maxRecDepth 20000
namespace Go.Proofs.YtcgcbpknbjafcaaDoor.K
open Go Go.Proofs Go.RowKit

theorem EqualI_spec {a b : List Int} {Aa Ab : Option Addr} {capa capb : Nat} {D D2 : Nat → Prop} {w : World} (ha : Sl (iE .i64) w D Aa a) (hb : Sl (iE .i64) w D2 Ab b) (hla : a.length ≤ 9223372036854775807) :
    CallR Tryd.prog 48 #[.slice Aa a.length capa, .slice Ab b.length capb] w fun v w' => v = .bool (decide (a = b)) ∧ Chg [] w w' := by
 refine callR_of_wp (args := [_, _]) Tryd.func48 rfl (Nat.le_of_ble_eq_true rfl) ?_
 have HC : Chg [] w w := .refl _
 refine x_seq ?_
 refine x_region rfl ?_
 refine w_plain rfl (st_assign (v := .bool _) rfl ?_)
 refine wops_nil ?_
 refine then_n ?_
 refine x_seq ?_
 refine x_seq ?_
 refine x_region rfl ?_
 refine w_plain rfl (st_move (v := .slice _ _ _) rfl ?_)
 refine w_plain rfl (st_len (ct := #[58]) (by rw [show ((#[58] : Array TypeId)[0]?).bind Tryd.prog.underlying = some (.slice 3) from T.u58]; rfl) rfl ?_)
 refine w_plain rfl (st_move (v := .slice _ _ _) rfl ?_)
 refine w_plain rfl (st_len (ct := #[58]) (by rw [show ((#[58] : Array TypeId)[0]?).bind Tryd.prog.underlying = some (.slice 3) from T.u58]; rfl) rfl ?_)
 refine w_plain rfl (st_neq rfl rfl ?_)
 refine wops_nil ?_
 refine then_n ?_
 refine x_cond rfl (fun h0 => ?_) (fun h0 => ?_)
 ·skip
  try simp only [nm, ne_eq] at h0
  refine x_seq ?_
  refine x_region rfl ?_
  refine w_plain rfl (st_assign (v := .bool _) rfl ?_)
  refine wops_nil ?_
  refine then_n ?_
  refine x_ret ?_
  refine then_r ?_
  refine ret_tmp (v := .bool _) rfl rfl ?_
  refine ⟨?_, HC⟩
  rw [decide_eq_false (fun e => h0 (by rw [e]))]
 ·skip
  try simp only [nm, ne_eq] at h0
  have hll : a.length = b.length := by omega
  refine x_skip ?_
  refine then_n ?_
  refine x_seq ?_
  refine x_seq ?_
  refine x_region rfl ?_
  refine w_plain rfl (st_move (v := .slice _ _ _) rfl ?_)
  refine w_plain rfl (st_len (ct := #[58]) (by rw [show ((#[58] : Array TypeId)[0]?).bind Tryd.prog.underlying = some (.slice 3) from T.u58]; rfl) rfl ?_)
  refine w_plain rfl (st_move (v := .int _ _) rfl ?_)
  refine wops_nil ?_
  refine then_n ?_
  refine x_block ?_
  refine x_loop (ι := Nat) [4, 5, 13, 14, 15, 16, 17, 18, 19, 20, 21, 22, 23, 24, 25] (fun i => [(13, .int .i64 (i : Int))]) (fun i W => (i ≤ a.length ∧ a.take i = b.take i) ∧ (Chg [] w W) ∧ (Sl (iE .i64) W D Aa a) ∧ (Sl (iE .i64) W D2 Ab b)) (fun i => a.length - i) 0 ?_ ?_ ?_
  · exact ⟨rfl, trivial⟩
  ·skip
   refine ⟨?_, HC, ha, hb⟩
   exact ⟨Nat.zero_le _, rfl⟩
  intro i G2 w1 ⟨⟨hi, ht⟩, HC, ha, hb⟩
  change wp _ _ _ _ _ (upds (over _ _ G2) [(13, .int .i64 (i : Int))]) _ _
  refine x_seq ?_
  refine x_region rfl ?_
  refine w_plain rfl (st_lss rfl rfl ?_)
  refine wops_nil ?_
  refine then_n ?_
  refine x_seq ?_
  refine x_cond rfl (fun h1 => ?_) (fun h1 => ?_)
  ·skip
   try simp only [nm, ne_eq] at h1
   refine x_skip ?_
   refine then_n ?_
   refine x_seq ?_
   refine x_block ?_
   refine x_seq ?_
   refine x_region rfl ?_
   refine w_plain rfl (st_move (v := .int _ _) rfl ?_)
   refine w_plain rfl (st_assign (v := .int _ _) rfl ?_)
   refine wops_nil ?_
   refine then_n ?_
   refine x_seq ?_
   obtain ⟨x3, hx4⟩ : ∃ zz, a[i]? = some zz := ⟨_, List.getElem?_eq_getElem (by omega)⟩
   obtain ⟨lb9, _, vs8, hA5, hR7, hC6⟩ := ha.at hx4
   obtain rfl : vs8 = [.int .i64 x3] := hR7
   obtain ⟨x10, hx11⟩ : ∃ zz, b[i]? = some zz := ⟨_, List.getElem?_eq_getElem (by omega)⟩
   obtain ⟨lb16, _, vs15, hA12, hR14, hC13⟩ := hb.at hx11
   obtain rfl : vs15 = [.int .i64 x10] := hR14
   refine x_draw [(0, 0), (1, 0), (2, 0), (3, 0), (4, 0), (5, 0), (6, 0), (7, 0), (8, 0)] T.mixed rfl rfl rfl (fun W => W.heap[lb9]? = w1.heap[lb9]? ∧ W.heap[lb16]? = w1.heap[lb16]? ∧ True) ⟨rfl, rfl, trivial⟩ ?_
   have c18 := Chg.drew w1
   generalize World.drew w1 = w17 at c18 ⊢
   have ht_lb9 : lb9 < w17.heap.size ∧ w17.heap[lb9]? = w1.heap[lb9]? := ⟨Nat.lt_of_lt_of_le hC6.lt c18.size, c18.block lb9 hC6.lt (by simp)⟩
   have ht_lb16 : lb16 < w17.heap.size ∧ w17.heap[lb16]? = w1.heap[lb16]? := ⟨Nat.lt_of_lt_of_le hC13.lt c18.size, c18.block lb16 hC13.lt (by simp)⟩
   replace HC := HC.then c18
   replace ha := ha.tr0 c18
   replace hb := hb.tr0 c18
   refine sq_q rfl (fun W hT => r_move (v := .slice _ _ _) rfl) ?_
   refine sq_q rfl (fun W hT => r_move (v := .int _ _) rfl) ?_
   refine sq_q rfl (fun W hT => r_indexAddr T.u58 T.size3 (congrArg (fun z => Value.slice z _ _) hA5) rfl (by omega) (by omega)) ?_
   refine sq_q rfl (fun W hT => r_load1 (v := .int _ _) T.one3 rfl (Cells.at (j := 0) (Cells.tr hC6 hT.1) rfl)) ?_
   refine sq_q rfl (fun W hT => r_move (v := .slice _ _ _) rfl) ?_
   refine sq_q rfl (fun W hT => r_move (v := .int _ _) rfl) ?_
   refine sq_q rfl (fun W hT => r_indexAddr T.u58 T.size3 (congrArg (fun z => Value.slice z _ _) hA12) rfl (by omega) (by omega)) ?_
   refine sq_q rfl (fun W hT => r_load1 (v := .int _ _) T.one3 rfl (Cells.at (j := 0) (Cells.tr hC13 hT.2.1) rfl)) ?_
   refine sq_q rfl (fun W hT => r_neq rfl rfl) ?_
   refine sq_nil ?_
   refine then_n ?_
   refine x_cond rfl (fun h2 => ?_) (fun h2 => ?_)
   ·skip
    try simp only [nm, ne_eq] at h2
    refine x_seq ?_
    refine x_region rfl ?_
    refine w_plain rfl (st_assign (v := .bool _) rfl ?_)
    refine wops_nil ?_
    refine then_n ?_
    refine x_ret ?_
    refine block_r ?_
    refine then_r ?_
    refine then_r ?_
    refine block_r ?_
    refine then_r ?_
    refine ret_tmp (v := .bool _) rfl rfl ?_
    refine ⟨?_, HC⟩
    rw [decide_eq_false (fun e => by subst e; have := Option.some.inj (hx4.symm.trans hx11); omega)]
   ·skip
    try simp only [nm, ne_eq] at h2
    refine x_skip ?_
    refine block_n ?_
    refine then_n ?_
    refine x_region rfl ?_
    refine w_plain rfl (st_addn rfl rfl (by constructor <;> omega) ?_)
    refine w_plain rfl (st_move (v := .int _ _) rfl ?_)
    refine wops_nil ?_
    refine then_n ?_
    refine ⟨i + 1, ?_, ?_, rfl, ⟨rfl, trivial⟩, ?_⟩
    ·skip
     refine ⟨?_, HC, ha, hb⟩
     exact ⟨by omega, take_same ht hx4 hx11 (by omega)⟩
    ·skip
     show a.length - (i + 1) < a.length - i; omega
    repeat (first | exact agree_upds agree_over rfl | refine agree_upd ?_ rfl | refine agree_upds ?_ rfl | refine agree_over_sub ?_ rfl)
  ·skip
   try simp only [nm, ne_eq] at h1
   refine x_exit ?_
   refine then_x ?_
   refine then_x ?_
   refine block_x ?_
   refine then_n ?_
   refine x_seq ?_
   refine x_region rfl ?_
   refine w_plain rfl (st_assign (v := .bool _) rfl ?_)
   refine wops_nil ?_
   refine then_n ?_
   refine x_ret ?_
   refine ret_tmp (v := .bool _) rfl rfl ?_
   refine ⟨?_, HC⟩
   rw [decide_eq_true (by rw [List.take_of_length_le (by omega), List.take_of_length_le (by omega)] at ht; exact ht)]

theorem EqualI_n {a b : List Int} {Aa Ab : Option Addr} {capa capb n : Nat} {D D2 : Nat → Prop} {w : World} (hn : n = a.length) (ha : Sl (iE .i64) w D Aa a) (hb : Sl (iE .i64) w D2 Ab b) (hla : a.length ≤ 9223372036854775807) :
    CallR Tryd.prog 48 #[.slice Aa n capa, .slice Ab b.length capb] w fun v w' => v = .bool (decide (a = b)) ∧ Chg [] w w' := by
  subst hn; exact EqualI_spec ha hb hla

theorem fit_head {l : List Nd} (h : l.length ≤ 1000) : (decide (1 ≤ l.length ∧ l.length ≤ 1000) && fitF l 0 []) = fitF l 0 [] := by
  cases l with
  | nil => rfl
  | cons x l => rw [decide_eq_true ⟨by simp, h⟩]; rfl

theorem AFit_spec {l : List Nd} {Al : Option Addr} {capl : Nat} {D : Nat → Prop} {w : World} (hl : Sl ndE w D Al l) (hK : ∀ x, x ∈ l → x.kids.length ≤ 140737488355328 ∧ x.name.length ≤ 140737488355328) (hlen : l.length ≤ 140737488355328) (ht : Tab w) : CallR Tryd.prog 28 #[.slice Al l.length capl] w fun v w' => v = .bool (fitV l) ∧ Chg [] w w' := by
 replace hl := hl.mono (D' := fun k => k < w.heap.size) (fun k hk _ => hk)
 refine callR_of_wp (args := [_]) Tryd.func28 rfl (Nat.le_of_ble_eq_true rfl) ?_
 have HC : Chg [] w w := .refl _
 have ht1 := ht.lt
 refine x_seq ?_
 refine x_region rfl ?_
 refine w_plain rfl (st_assign (v := .bool _) rfl ?_)
 refine wops_nil ?_
 refine then_n ?_
 refine x_seq ?_
 refine x_seq ?_
 refine x_region rfl ?_
 refine w_plain rfl (st_move (v := .slice _ _ _) rfl ?_)
 refine w_plain rfl (st_len (ct := #[39]) (by rw [show ((#[39] : Array TypeId)[0]?).bind Tryd.prog.underlying = some (.slice 60) from T.u39]; rfl) rfl ?_)
 refine w_plain rfl (st_gtr rfl rfl ?_)
 refine wops_nil ?_
 refine then_n ?_
 refine x_cond rfl (fun h0 => ?_) (fun h0 => ?_)
 ·skip
  try simp only [nm, ne_eq] at h0
  have hfv : fitV l = false := by unfold fitV; rw [decide_eq_false (by omega)]; rfl
  refine x_seq ?_
  refine x_region rfl ?_
  refine w_plain rfl (st_assign (v := .bool _) rfl ?_)
  refine wops_nil ?_
  refine then_n ?_
  refine x_ret ?_
  refine then_r ?_
  refine ret_tmp (v := .bool _) rfl rfl ?_
  refine ⟨congrArg Value.bool ?_, HC⟩
  rw [hfv]
  first | (rw [hbad]; done) | rfl | (rw [hfi, List.drop_of_length_le (by omega), fitF, decide_eq_decide]; omega) | skip
 ·skip
  try simp only [nm, ne_eq] at h0
  have hfv : fitV l = fitF l 0 [] := by unfold fitV; exact fit_head (by omega)
  refine x_skip ?_
  refine then_n ?_
  refine x_seq ?_
  refine x_region rfl ?_
  refine w_plain rfl (st_assign (v := .slice _ _ _) rfl ?_)
  refine wops_nil ?_
  refine then_n ?_
  refine x_seq ?_
  refine x_seq ?_
  refine x_region rfl ?_
  refine w_plain rfl (st_move (v := .slice _ _ _) rfl ?_)
  refine w_plain rfl (st_len (ct := #[39]) (by rw [show ((#[39] : Array TypeId)[0]?).bind Tryd.prog.underlying = some (.slice 60) from T.u39]; rfl) rfl ?_)
  refine w_plain rfl (st_move (v := .int _ _) rfl ?_)
  refine wops_nil ?_
  refine then_n ?_
  refine x_block ?_
  refine x_loop (ι := Nat × List Int × Option Addr × Nat) [2, 3, 4, 5, 6, 12, 13, 14, 15, 16, 17, 18, 19, 20, 21, 22, 23, 24, 25, 26, 27, 28, 29, 30, 31, 32, 33, 34, 35, 36, 37, 38, 39, 40, 41, 42, 43, 44, 45] (fun ⟨i, st, A, cap⟩ => [(12, .int .i64 (i : Int)), (3, .slice A st.length cap)]) (fun ⟨i, st, A, cap⟩ W => (i ≤ l.length ∧ fitF l 0 [] = fitF (l.drop i) i st ∧ st.length ≤ i) ∧ (Chg [] w W) ∧ (Sl ndE W (fun k => k < w.heap.size) Al l) ∧ (Tab W) ∧ (Own (iE .i64) 3 W (fun k => w.heap.size ≤ k) A cap st)) (fun ⟨i, st, A, cap⟩ => l.length - i) (0, [], none, 0) ?_ ?_ ?_
  · exact ⟨rfl, rfl, trivial⟩
  ·skip
   refine ⟨?_, HC, hl, ht, Own.nil⟩
   exact ⟨Nat.zero_le _, rfl, Nat.le_refl _⟩
  intro ⟨i, st, A, cap⟩ G2 w1 ⟨⟨hi, hfi, hsl⟩, HC, hl, ht, ho⟩
  change wp _ _ _ _ _ (upds (over _ _ G2) [(12, .int .i64 (i : Int)), (3, .slice A st.length cap)]) _ _
  refine x_seq ?_
  refine x_region rfl ?_
  refine w_plain rfl (st_lss rfl rfl ?_)
  refine wops_nil ?_
  refine then_n ?_
  refine x_seq ?_
  refine x_cond rfl (fun h1 => ?_) (fun h1 => ?_)
  ·skip
   try simp only [nm, ne_eq] at h1
   refine x_skip ?_
   refine then_n ?_
   refine x_seq ?_
   refine x_block ?_
   refine x_seq ?_
   refine x_region rfl ?_
   refine w_plain rfl (st_move (v := .int _ _) rfl ?_)
   obtain ⟨x, hx3⟩ : ∃ zz, l[i]? = some zz := ⟨_, List.getElem?_eq_getElem (by omega)⟩
   obtain ⟨lb8, _, vs7, hA4, hR6, hC5⟩ := hl.at hx3
   obtain ⟨K9, cK9, rfl, hk1_9, hk2_9, hk3_9⟩ := hR6
   have hKx9 := hK x (List.mem_of_getElem? hx3)
   refine w_plain rfl (st_indexAddr T.u39 T.size60 (congrArg (fun z => Value.slice z _ _) hA4) rfl (by omega) (by omega) ?_)
   refine w_plain rfl (st_loadA (vs := [_, _, _, _]) T.agg60 rfl hC5 rfl ?_)
   refine w_plain rfl (st_alloc T.zero60 ?_)
   intro b5 w10 e11 c12 hb13
   have ge_b5 : w.heap.size ≤ b5 := by rw [e11]; exact HC.size
   have na_b5 : b5 ∉ ob A := ho.fresh (by rw [e11]; exact Nat.le_refl _)
   replace HC := HC.then c12
   replace hl := hl.tr0 c12
   replace ht := ht.tr0 c12
   replace ho := ho.tr0 c12
   replace hk3_9 := hk3_9.tr0 c12
   clear e11
   refine w_plain rfl (st_assign (v := .int _ _) rfl ?_)
   refine w_plain rfl (st_store (v := .agg ⟨[S _, .int _ _, S _, .slice _ _ _]⟩) T.size60 rfl rfl rfl hb13 rfl (Nat.le_of_ble_eq_true rfl) (by simp [Value.oneCell', S]) rfl ?_)
   intro w14 c15 hb16; simp only [setVs, setV] at hb16
   clear hb13
   replace HC := HC.then1 c15 ge_b5
   replace hl := hl.tr c15 (by intro k hx hD; simp only [List.mem_cons, List.mem_nil_iff, or_false] at hx; have hD2 : k < w.heap.size := hD; omega)
   replace ht := ht.tr c15 (by intro hx; have := ht.lt; have := ht1; simp only [List.mem_cons, List.mem_nil_iff, or_false] at hx; omega)
   replace ho := ho.trF flat_flat c15 (by intro k hk hx; simp only [List.mem_singleton] at hx; subst hx; exact na_b5 hk)
   replace hk3_9 := hk3_9.tr c15 (by intro k hx hD; simp only [List.mem_cons, List.mem_nil_iff, or_false] at hx; have hD2 : k < w.heap.size := hD; omega)
   refine wops_nil ?_
   refine then_n ?_
   refine x_seq ?_
   have hx0 := hx3
   have hKx2 := hK x (List.mem_of_getElem? hx0)
   refine x_region rfl ?_
   refine w_plain rfl (st_move (v := .slice _ _ _) rfl ?_)
   refine w_plain rfl (st_len (ct := #[58]) (by rw [show ((#[58] : Array TypeId)[0]?).bind Tryd.prog.underlying = some (.slice 3) from T.u58]; rfl) rfl ?_)
   refine w_plain rfl (st_fieldAddr T.fld60_3 rfl ?_)
   refine w_plain rfl (st_load1 (v := .slice _ _ _) T.one58 rfl (hb16.cell rfl) ?_)
   refine w_plain rfl (st_len (ct := #[58]) (by rw [show ((#[58] : Array TypeId)[0]?).bind Tryd.prog.underlying = some (.slice 3) from T.u58]; rfl) rfl ?_)
   refine w_plain rfl (st_subk rfl rfl (by exact wrap64_id (by first | omega | assumption) (by first | omega | assumption)) ?_)
   refine w_plain rfl (st_assign (v := .int _ _) rfl ?_)
   refine wops_nil ?_
   refine then_n ?_
   refine x_seq ?_
   refine x_seq ?_
   refine x_draw [(0, 0), (1, 1), (2, 0), (3, 0), (4, 0), (5, 0), (6, 0), (7, 0), (8, 0), (9, 0), (10, 0), (11, 0), (12, 0), (13, 1), (14, 0), (15, 0)] T.mixed rfl rfl rfl (fun W => W.heap[b5]? = w14.heap[b5]? ∧ True) ⟨rfl, trivial⟩ ?_
   have o19 := hb16
   have c18 := Chg.drew w14
   generalize World.drew w14 = w17 at c18 ⊢
   replace HC := HC.then c18
   replace hl := hl.tr0 c18
   replace ht := ht.tr0 c18
   replace ho := ho.tr0 c18
   replace hk3_9 := hk3_9.tr0 c18
   replace hb16 := hb16.tr0 c18
   refine sq_q rfl (fun W hT => r_loadA (vs := [_, _, _, _]) T.agg60 rfl (Blk.cells (n := 4) (vs := [_, _, _, _]) (show Blk W b5 _ _ from hT.1.trans o19) rfl) rfl) ?_
   refine sq_call1 rfl (r_call (ags := [_]) rfl rfl T.ent47 rfl) (AForm_spec (x := x) (D := fun k => k < w.heap.size) ⟨_, _, rfl, hk1_9, hk2_9, hk3_9⟩ ht) ?_
   rintro _ w20 ⟨rfl, c21⟩
   replace HC := HC.then c21
   replace hl := hl.tr0 c21
   replace ht := ht.tr0 c21
   replace ho := ho.tr0 c21
   replace hk3_9 := hk3_9.tr0 c21
   replace hb16 := hb16.tr0 c21
   refine ⟨_, fun _ h => h, ⟨(Eq.trans hb16 o19.symm), trivial⟩, ?_⟩
   refine sq_q rfl (fun W hT => r_not rfl) ?_
   refine sq_q rfl (fun W hT => r_move (v := .bool _) rfl) ?_
   refine sq_split (d := 26) rfl (fun g22 => ?_) (fun g22 => ?_)
   ·skip
    try simp only [nm, ne_eq] at g22
    refine sq_no rfl rfl ?_
    refine sq_no rfl rfl ?_
    refine sq_q rfl (fun W hT => r_pick (b := true) (v := .bool _) rfl rfl) ?_
    refine sq_q rfl (fun W hT => r_move (v := .bool _) rfl) ?_
    refine sq_no rfl rfl ?_
    refine sq_no rfl rfl ?_
    refine sq_no rfl rfl ?_
    refine sq_no rfl rfl ?_
    refine sq_no rfl rfl ?_
    refine sq_no rfl rfl ?_
    refine sq_no rfl rfl ?_
    refine sq_q rfl (fun W hT => r_pick (b := true) (v := .bool _) rfl rfl) ?_
    clear o19
    refine sq_nil ?_
    refine then_n ?_
    refine x_cond (t := true) rfl (fun h2 => ?_) (fun h2 => ?_)
    rotate_left
    · exact absurd h2 (by decide)
    have hbad : fitF l 0 [] = false := by rw [hfi, fitF_step hx0, if_neg (by rintro ⟨q1, q2, q3⟩; first | omega | simp_all)]
    refine x_seq ?_
    refine x_region rfl ?_
    refine w_plain rfl (st_assign (v := .bool _) rfl ?_)
    refine wops_nil ?_
    refine then_n ?_
    refine x_ret ?_
    refine then_r ?_
    refine block_r ?_
    refine then_r ?_
    refine then_r ?_
    refine block_r ?_
    refine then_r ?_
    refine ret_tmp (v := .bool _) rfl rfl ?_
    refine ⟨congrArg Value.bool ?_, HC⟩
    rw [hfv]
    first | (rw [hbad]; done) | rfl | (rw [hfi, List.drop_of_length_le (by omega), fitF, decide_eq_decide]; omega) | skip
   ·skip
    try simp only [nm, ne_eq] at g22
    refine sq_q rfl (fun W hT => r_move (v := .int _ _) rfl) ?_
    refine sq_q rfl (fun W hT => r_lss rfl rfl) ?_
    refine sq_q rfl (fun W hT => r_pick (b := false) (v := .bool _) rfl rfl) ?_
    refine sq_q rfl (fun W hT => r_move (v := .bool _) rfl) ?_
    refine sq_split (d := 30) rfl (fun g23 => ?_) (fun g23 => ?_)
    ·skip
     try simp only [nm, ne_eq] at g23
     refine sq_no rfl rfl ?_
     refine sq_no rfl rfl ?_
     refine sq_no rfl rfl ?_
     refine sq_no rfl rfl ?_
     refine sq_no rfl rfl ?_
     refine sq_no rfl rfl ?_
     refine sq_no rfl rfl ?_
     refine sq_q rfl (fun W hT => r_pick (b := true) (v := .bool _) rfl rfl) ?_
     clear o19
     refine sq_nil ?_
     refine then_n ?_
     refine x_cond (t := true) rfl (fun h2 => ?_) (fun h2 => ?_)
     rotate_left
     · exact absurd h2 (by decide)
     have hbad : fitF l 0 [] = false := by rw [hfi, fitF_step hx0, if_neg (by rintro ⟨q1, q2, q3⟩; first | omega | simp_all)]
     refine x_seq ?_
     refine x_region rfl ?_
     refine w_plain rfl (st_assign (v := .bool _) rfl ?_)
     refine wops_nil ?_
     refine then_n ?_
     refine x_ret ?_
     refine then_r ?_
     refine block_r ?_
     refine then_r ?_
     refine then_r ?_
     refine block_r ?_
     refine then_r ?_
     refine ret_tmp (v := .bool _) rfl rfl ?_
     refine ⟨congrArg Value.bool ?_, HC⟩
     rw [hfv]
     first | (rw [hbad]; done) | rfl | (rw [hfi, List.drop_of_length_le (by omega), fitF, decide_eq_decide]; omega) | skip
    ·skip
     try simp only [nm, ne_eq] at g23
     have hkl : x.kids.length ≤ st.length := by omega
     have hM : (st.length : Int) - (x.kids.length : Int) = (((st.length - x.kids.length) : Nat) : Int) := by omega
     refine sq_q rfl (fun W hT => r_move (v := .slice _ _ _) rfl) ?_
     refine sq_q rfl (fun W hT => r_move (v := .int _ _) rfl) ?_
     refine sq_q rfl (fun W hT => r_slice (i := (st.length - x.kids.length)) (j := st.length) T.u58 T.size3 rfl ⟨_, congrArg (Value.int .i64) hM⟩ (by rfl) (by omega) (by have := ho.le; omega)) ?_
     refine sq_q rfl (fun W hT => r_fieldAddr T.fld60_3 rfl) ?_
     refine sq_q rfl (fun W hT => r_load1 (v := .slice _ _ _) T.one58 rfl (Blk.cell (show Blk W b5 _ _ from hT.1.trans o19) rfl)) ?_
     refine sq_call1 rfl (r_call (ags := [_, _]) rfl rfl T.ent48 rfl) (EqualI_n (a := st.drop (st.length - x.kids.length)) (b := x.kids) (by rw [List.length_drop]) (sl_cutN (m := (st.length - x.kids.length)) ho.sl ho.le.1) hk3_9 (by rw [List.length_drop]; omega)) ?_
     rintro _ w24 ⟨rfl, c25⟩
     replace HC := HC.then c25
     replace hl := hl.tr0 c25
     replace ht := ht.tr0 c25
     replace ho := ho.tr0 c25
     replace hk3_9 := hk3_9.tr0 c25
     replace hb16 := hb16.tr0 c25
     refine ⟨_, fun _ h => h, ⟨(Eq.trans hb16 o19.symm), trivial⟩, ?_⟩
     refine sq_q rfl (fun W hT => r_not rfl) ?_
     refine sq_q rfl (fun W hT => r_pick (b := false) (v := .bool _) rfl rfl) ?_
     clear o19
     refine sq_nil ?_
     refine then_n ?_
     refine x_cond rfl (fun h2 => ?_) (fun h2 => ?_)
     ·skip
      try simp only [nm, ne_eq] at h2
      have hbad : fitF l 0 [] = false := by rw [hfi, fitF_step hx0, if_neg (by rintro ⟨q1, q2, q3⟩; first | omega | simp_all)]
      refine x_seq ?_
      refine x_region rfl ?_
      refine w_plain rfl (st_assign (v := .bool _) rfl ?_)
      refine wops_nil ?_
      refine then_n ?_
      refine x_ret ?_
      refine then_r ?_
      refine block_r ?_
      refine then_r ?_
      refine then_r ?_
      refine block_r ?_
      refine then_r ?_
      refine ret_tmp (v := .bool _) rfl rfl ?_
      refine ⟨congrArg Value.bool ?_, HC⟩
      rw [hfv]
      first | (rw [hbad]; done) | rfl | (rw [hfi, List.drop_of_length_le (by omega), fitF, decide_eq_decide]; omega) | skip
     ·skip
      try simp only [nm, ne_eq] at h2
      have hform : formP x = true := by first | assumption | simp_all
      have hkd : st.drop (st.length - x.kids.length) = x.kids := by first | assumption | simp_all
      refine x_skip ?_
      refine then_n ?_
      refine x_region rfl ?_
      refine w_plain rfl (st_move (v := .slice _ _ _) rfl ?_)
      refine w_plain rfl (st_move (v := .int _ _) rfl ?_)
      refine w_plain rfl (st_cut (xs := st) (j := (st.length - x.kids.length)) T.u58 T.size3 rfl ⟨_, congrArg (Value.int .i64) hM⟩ (by omega) (by have := ho.le; omega) ?_)
      have hcut26 := ho.take (k := (st.length - x.kids.length)) (by omega)
      have htkhcut26 : (st.take (st.length - x.kids.length)).length ≤ st.length := by rw [List.length_take]; omega
      refine w_plain rfl (st_move (v := .int _ _) rfl ?_)
      refine w_plain rfl (st_lit (ps := [(0, .tmp 42)]) (vs := [.int _ _]) T.lit58 (by decide) rfl (by simp only [List.forall_mem_cons, List.not_mem_nil, false_imp_iff, implies_true, and_true]; exact rfl) rfl ?_)
      intro b27 w28 e29 c30 hb31
      have ge_b27 : w.heap.size ≤ b27 := by rw [e29]; exact HC.size
      have ne_b5_b27 : b5 ≠ b27 := by rw [e29]; exact hb16.ne_size
      have na_b27 : b27 ∉ ob A := hcut26.fresh (by rw [e29]; exact Nat.le_refl _)
      replace HC := HC.then c30
      replace hl := hl.tr0 c30
      replace ht := ht.tr0 c30
      replace hcut26 := hcut26.tr0 c30
      replace hb16 := hb16.tr0 c30
      clear e29
      have hszA := HC.size
      refine w_plain rfl (st_append2 (c := (iE .i64)) (D2 := fun _ => False) (xs := (st.take (st.length - x.kids.length))) (ys := [(i : Int)]) T.slice58 rfl rfl hcut26 rfl rfl (one_elem rfl (hb31.cells (n := 1) rfl)) (fun _ _ h => h.elim) (fun k hk => by have := HC.size; omega) (by simp only [List.length_cons, List.length_nil]; omega) (by simp only [List.length_cons, List.length_nil]; omega) ?_)
      intro A32 cap33 w34 ho35 c36 hg37
      replace HC := HC.trans c36 (fun k hk => .inr (hcut26.inD k hk))
      replace hl := hl.tr c36 (by intro k hx hD; have h1 := hcut26.inD k hx; omega)
      replace ht := ht.tr c36 (fun hx => by first | (have h1 := (hcut26.inD _ hx).1; omega) | (have h1 : w.heap.size ≤ 1 := hcut26.inD _ hx; omega))
      replace hb16 := hb16.tr c36 (fun hx => by first | (have h1 := hcut26.inD _ hx; omega) | exact na_b5 hx | exact hav _ hx (by simp))
      replace hb31 := hb31.tr c36 (fun hx => by first | (have h1 := hcut26.inD _ hx; omega) | exact na_b27 hx | exact hav _ hx (by simp))
      refine w_plain rfl (st_assign (v := .slice _ _ _) rfl ?_)
      refine wops_nil ?_
      refine block_n ?_
      refine then_n ?_
      refine x_region rfl ?_
      refine w_plain rfl (st_addn rfl rfl (by constructor <;> omega) ?_)
      refine w_plain rfl (st_move (v := .int _ _) rfl ?_)
      refine wops_nil ?_
      refine then_n ?_
      refine ⟨(i + 1, st.take (st.length - x.kids.length) ++ [(i : Int)], A32, cap33), ?_, ?_, rfl, ⟨rfl, rfl, trivial⟩, ?_⟩
      ·skip
       refine ⟨?_, HC, hl, ht, ho35⟩
       exact ⟨by omega, by rw [hfi, fitF_step hx0, if_pos ⟨hform, hkl, hkd⟩], by simp only [List.length_append, List.length_take, List.length_cons, List.length_nil]; omega⟩
      ·skip
       show l.length - (i + 1) < l.length - i; omega
      repeat (first | exact agree_upds agree_over rfl | refine agree_upd ?_ rfl | refine agree_upds ?_ rfl | refine agree_over_sub ?_ rfl)
  ·skip
   try simp only [nm, ne_eq] at h1
   refine x_exit ?_
   refine then_x ?_
   refine then_x ?_
   refine block_x ?_
   refine then_n ?_
   refine x_seq ?_
   refine x_region rfl ?_
   refine w_plain rfl (st_move (v := .slice _ _ _) rfl ?_)
   refine w_plain rfl (st_len (ct := #[58]) (by rw [show ((#[58] : Array TypeId)[0]?).bind Tryd.prog.underlying = some (.slice 3) from T.u58]; rfl) rfl ?_)
   refine w_plain rfl (st_eql rfl rfl ?_)
   refine w_plain rfl (st_assign (v := .bool _) rfl ?_)
   refine wops_nil ?_
   refine then_n ?_
   refine x_ret ?_
   refine ret_tmp (v := .bool _) rfl rfl ?_
   refine ⟨congrArg Value.bool ?_, HC⟩
   rw [hfv]
   first | (rw [hbad]; done) | rfl | (rw [hfi, List.drop_of_length_le (by omega), fitF, decide_eq_decide]; omega) | skip

theorem ASame1_spec {D D2 : Nat → Prop} {x y : Nd} {vs us : List Value} {w : World} (hx : ndE.R w D x vs) (hy : ndE.R w D2 y us) (hk : x.kids.length ≤ 9223372036854775807) : CallR Tryd.prog 50 #[.agg ⟨vs⟩, .agg ⟨us⟩] w fun v w' => v = .bool (decide (x = y)) ∧ Chg [] w w' := by
 obtain ⟨Kx, cx, rfl, hx1, hx2, kx⟩ := hx
 obtain ⟨Ky, cy, rfl, hy1, hy2, ky⟩ := hy
 refine callR_of_wp (args := [_, _]) Tryd.func50 rfl (Nat.le_of_ble_eq_true rfl) ?_
 have HC : Chg [] w w := .refl _
 refine x_seq ?_
 refine x_region rfl ?_
 refine w_plain rfl (st_box (v := .agg ⟨[S _, .int _ _, S _, .slice _ _ _]⟩) (vs := [_, _, _, _]) rfl rfl ?_)
 intro b1 w2 e3 c4 hb5
 have ge_b1 : w.heap.size ≤ b1 := by rw [e3]; exact HC.size
 replace HC := HC.then c4
 replace kx := kx.tr0 c4
 replace ky := ky.tr0 c4
 clear e3
 refine w_plain rfl (st_box (v := .agg ⟨[S _, .int _ _, S _, .slice _ _ _]⟩) (vs := [_, _, _, _]) rfl rfl ?_)
 intro b6 w7 e8 c9 hb10
 have ge_b6 : w.heap.size ≤ b6 := by rw [e8]; exact HC.size
 have ne_b1_b6 : b1 ≠ b6 := by rw [e8]; exact hb5.ne_size
 replace HC := HC.then c9
 replace kx := kx.tr0 c9
 replace ky := ky.tr0 c9
 replace hb5 := hb5.tr0 c9
 clear e8
 refine w_plain rfl (st_assign (v := .bool _) rfl ?_)
 refine wops_nil ?_
 refine then_n ?_
 refine x_seq ?_
 refine x_region rfl ?_
 refine w_plain rfl (st_fieldAddr T.fld60_0 rfl ?_)
 refine w_plain rfl (st_load1 (v := S _) T.one9 rfl (hb5.cell rfl) ?_)
 refine w_plain rfl (st_fieldAddr T.fld60_0 rfl ?_)
 refine w_plain rfl (st_load1 (v := S _) T.one9 rfl (hb10.cell rfl) ?_)
 refine w_plain rfl (st_seql rfl rfl ?_)
 refine w_plain rfl (st_move (v := .bool _) rfl ?_)
 refine w_split (d := 10) rfl (fun g11 => ?_) (fun g11 => ?_)
 ·skip
  try simp only [nm, ne_eq] at g11
  refine w_yes 5 10 true (st_fieldAddr T.fld60_1 rfl ?_)
  refine w_yes 5 10 true (st_load1 (v := .int _ _) T.one2 rfl (hb5.cell rfl) ?_)
  refine w_yes 5 10 true (st_fieldAddr T.fld60_1 rfl ?_)
  refine w_yes 5 10 true (st_load1 (v := .int _ _) T.one2 rfl (hb10.cell rfl) ?_)
  refine w_yes 5 10 true (st_eql rfl rfl ?_)
  refine w_plain rfl (st_pick (b := true) (v := .bool _) rfl rfl ?_)
  refine w_plain rfl (st_move (v := .bool _) rfl ?_)
  refine w_split (d := 17) rfl (fun g12 => ?_) (fun g12 => ?_)
  ·skip
   try simp only [nm, ne_eq] at g12
   refine w_yes 12 17 true (st_fieldAddr T.fld60_2 rfl ?_)
   refine w_yes 12 17 true (st_load1 (v := S _) T.one9 rfl (hb5.cell rfl) ?_)
   refine w_yes 12 17 true (st_fieldAddr T.fld60_2 rfl ?_)
   refine w_yes 12 17 true (st_load1 (v := S _) T.one9 rfl (hb10.cell rfl) ?_)
   refine w_yes 12 17 true (st_seql rfl rfl ?_)
   refine w_plain rfl (st_pick (b := true) (v := .bool _) rfl rfl ?_)
   refine w_plain rfl (st_move (v := .bool _) rfl ?_)
   refine w_split (d := 24) rfl (fun g13 => ?_) (fun g13 => ?_)
   ·skip
    try simp only [nm, ne_eq] at g13
    refine w_yes 19 24 true (st_fieldAddr T.fld60_3 rfl ?_)
    refine w_yes 19 24 true (st_load1 (v := .slice _ _ _) T.one58 rfl (hb5.cell rfl) ?_)
    refine w_yes 19 24 true (st_fieldAddr T.fld60_3 rfl ?_)
    refine w_yes 19 24 true (st_load1 (v := .slice _ _ _) T.one58 rfl (hb10.cell rfl) ?_)
    refine w_yes 19 24 true (st_call (ags := [_, _]) rfl rfl T.ent48 rfl (EqualI_spec kx ky (by omega)) ?_)
    rintro _ w14 ⟨rfl, c15⟩
    replace HC := HC.then c15
    replace kx := kx.tr0 c15
    replace ky := ky.tr0 c15
    replace hb5 := hb5.tr0 c15
    replace hb10 := hb10.tr0 c15
    refine w_plain rfl (st_pick (b := true) (v := .bool _) rfl rfl ?_)
    refine w_plain rfl (st_assign (v := .bool _) rfl ?_)
    refine wops_nil ?_
    refine then_n ?_
    refine x_ret ?_
    refine ret_tmp (v := .bool _) rfl rfl ?_
    refine ⟨congrArg Value.bool ?_, HC⟩
    rw [Bool.eq_iff_iff, decide_eq_true_eq (p := x = y), nd_same]
    simp_all
   ·skip
    try simp only [nm, ne_eq] at g13
    refine w_no 19 24 true ?_
    refine w_no 19 24 true ?_
    refine w_no 19 24 true ?_
    refine w_no 19 24 true ?_
    refine w_no 19 24 true ?_
    refine w_plain rfl (st_pick (b := false) (v := .bool _) rfl rfl ?_)
    refine w_plain rfl (st_assign (v := .bool _) rfl ?_)
    refine wops_nil ?_
    refine then_n ?_
    refine x_ret ?_
    refine ret_tmp (v := .bool _) rfl rfl ?_
    refine ⟨congrArg Value.bool ?_, HC⟩
    rw [Bool.eq_iff_iff, decide_eq_true_eq (p := x = y), nd_same]
    simp_all
  ·skip
   try simp only [nm, ne_eq] at g12
   refine w_no 12 17 true ?_
   refine w_no 12 17 true ?_
   refine w_no 12 17 true ?_
   refine w_no 12 17 true ?_
   refine w_no 12 17 true ?_
   refine w_plain rfl (st_pick (b := false) (v := .bool _) rfl rfl ?_)
   refine w_plain rfl (st_move (v := .bool _) rfl ?_)
   refine w_no 19 24 true ?_
   refine w_no 19 24 true ?_
   refine w_no 19 24 true ?_
   refine w_no 19 24 true ?_
   refine w_no 19 24 true ?_
   refine w_plain rfl (st_pick (b := false) (v := .bool _) rfl rfl ?_)
   refine w_plain rfl (st_assign (v := .bool _) rfl ?_)
   refine wops_nil ?_
   refine then_n ?_
   refine x_ret ?_
   refine ret_tmp (v := .bool _) rfl rfl ?_
   refine ⟨congrArg Value.bool ?_, HC⟩
   rw [Bool.eq_iff_iff, decide_eq_true_eq (p := x = y), nd_same]
   simp_all
 ·skip
  try simp only [nm, ne_eq] at g11
  refine w_no 5 10 true ?_
  refine w_no 5 10 true ?_
  refine w_no 5 10 true ?_
  refine w_no 5 10 true ?_
  refine w_no 5 10 true ?_
  refine w_plain rfl (st_pick (b := false) (v := .bool _) rfl rfl ?_)
  refine w_plain rfl (st_move (v := .bool _) rfl ?_)
  refine w_no 12 17 true ?_
  refine w_no 12 17 true ?_
  refine w_no 12 17 true ?_
  refine w_no 12 17 true ?_
  refine w_no 12 17 true ?_
  refine w_plain rfl (st_pick (b := false) (v := .bool _) rfl rfl ?_)
  refine w_plain rfl (st_move (v := .bool _) rfl ?_)
  refine w_no 19 24 true ?_
  refine w_no 19 24 true ?_
  refine w_no 19 24 true ?_
  refine w_no 19 24 true ?_
  refine w_no 19 24 true ?_
  refine w_plain rfl (st_pick (b := false) (v := .bool _) rfl rfl ?_)
  refine w_plain rfl (st_assign (v := .bool _) rfl ?_)
  refine wops_nil ?_
  refine then_n ?_
  refine x_ret ?_
  refine ret_tmp (v := .bool _) rfl rfl ?_
  refine ⟨congrArg Value.bool ?_, HC⟩
  rw [Bool.eq_iff_iff, decide_eq_true_eq (p := x = y), nd_same]
  simp_all

theorem EqualF_spec {a b : List Nd} {Aa Ab : Option Addr} {capa capb : Nat} {D D2 : Nat → Prop} {w : World} (ha : Sl ndE w D Aa a) (hb : Sl ndE w D2 Ab b) (hK : ∀ x, x ∈ a → x.kids.length ≤ 140737488355328) (hla : a.length ≤ 140737488355328) : CallR Tryd.prog 49 #[.slice Aa a.length capa, .slice Ab b.length capb, .func (.func 50) #[] #[]] w fun v w' => v = .bool (decide (a = b)) ∧ Chg [] w w' := by
 replace ha := ha.mono (D' := fun k => k < w.heap.size) (fun k hk _ => hk)
 replace hb := hb.mono (D' := fun k => k < w.heap.size) (fun k hk _ => hk)
 refine callR_of_wp (args := [_, _, _]) Tryd.func49 rfl (Nat.le_of_ble_eq_true rfl) ?_
 have HC : Chg [] w w := .refl _
 refine x_seq ?_
 refine x_region rfl ?_
 refine w_plain rfl (st_assign (v := .bool _) rfl ?_)
 refine wops_nil ?_
 refine then_n ?_
 refine x_seq ?_
 refine x_seq ?_
 refine x_region rfl ?_
 refine w_plain rfl (st_move (v := .slice _ _ _) rfl ?_)
 refine w_plain rfl (st_len (ct := #[39]) (by rw [show ((#[39] : Array TypeId)[0]?).bind Tryd.prog.underlying = some (.slice 60) from T.u39]; rfl) rfl ?_)
 refine w_plain rfl (st_move (v := .slice _ _ _) rfl ?_)
 refine w_plain rfl (st_len (ct := #[39]) (by rw [show ((#[39] : Array TypeId)[0]?).bind Tryd.prog.underlying = some (.slice 60) from T.u39]; rfl) rfl ?_)
 refine w_plain rfl (st_neq rfl rfl ?_)
 refine wops_nil ?_
 refine then_n ?_
 refine x_cond rfl (fun h0 => ?_) (fun h0 => ?_)
 ·skip
  try simp only [nm, ne_eq] at h0
  refine x_seq ?_
  refine x_region rfl ?_
  refine w_plain rfl (st_assign (v := .bool _) rfl ?_)
  refine wops_nil ?_
  refine then_n ?_
  refine x_ret ?_
  refine then_r ?_
  refine ret_tmp (v := .bool _) rfl rfl ?_
  refine ⟨?_, HC⟩
  rw [decide_eq_false (fun e => h0 (by rw [e]))]
 ·skip
  try simp only [nm, ne_eq] at h0
  have hll : a.length = b.length := by omega
  refine x_skip ?_
  refine then_n ?_
  refine x_seq ?_
  refine x_seq ?_
  refine x_region rfl ?_
  refine w_plain rfl (st_move (v := .slice _ _ _) rfl ?_)
  refine w_plain rfl (st_len (ct := #[39]) (by rw [show ((#[39] : Array TypeId)[0]?).bind Tryd.prog.underlying = some (.slice 60) from T.u39]; rfl) rfl ?_)
  refine w_plain rfl (st_move (v := .int _ _) rfl ?_)
  refine wops_nil ?_
  refine then_n ?_
  refine x_block ?_
  refine x_loop (ι := Nat) [6, 7, 8, 9, 17, 18, 19, 20, 21, 22, 23, 24, 25, 26, 27, 28, 29, 30, 31] (fun i => [(17, .int .i64 (i : Int))]) (fun i W => (i ≤ a.length ∧ a.take i = b.take i) ∧ (Chg [] w W) ∧ (Sl ndE W (fun k => k < w.heap.size) Aa a) ∧ (Sl ndE W (fun k => k < w.heap.size) Ab b)) (fun i => a.length - i) 0 ?_ ?_ ?_
  · exact ⟨rfl, trivial⟩
  ·skip
   refine ⟨?_, HC, ha, hb⟩
   exact ⟨Nat.zero_le _, rfl⟩
  intro i G2 w1 ⟨⟨hi, ht⟩, HC, ha, hb⟩
  change wp _ _ _ _ _ (upds (over _ _ G2) [(17, .int .i64 (i : Int))]) _ _
  refine x_seq ?_
  refine x_region rfl ?_
  refine w_plain rfl (st_lss rfl rfl ?_)
  refine wops_nil ?_
  refine then_n ?_
  refine x_seq ?_
  refine x_cond rfl (fun h1 => ?_) (fun h1 => ?_)
  ·skip
   try simp only [nm, ne_eq] at h1
   refine x_skip ?_
   refine then_n ?_
   refine x_seq ?_
   refine x_block ?_
   refine x_seq ?_
   refine x_region rfl ?_
   refine w_plain rfl (st_move (v := .int _ _) rfl ?_)
   obtain ⟨x, hx3⟩ : ∃ zz, a[i]? = some zz := ⟨_, List.getElem?_eq_getElem (by omega)⟩
   obtain ⟨lb8, _, vs7, hA4, hR6, hC5⟩ := ha.at hx3
   obtain ⟨K9, cK9, rfl, hk1_9, hk2_9, hk3_9⟩ := hR6
   refine w_plain rfl (st_indexAddr T.u39 T.size60 (congrArg (fun z => Value.slice z _ _) hA4) rfl (by omega) (by omega) ?_)
   refine w_plain rfl (st_loadA (vs := [_, _, _, _]) T.agg60 rfl hC5 rfl ?_)
   refine w_plain rfl (st_alloc T.zero60 ?_)
   intro b8 w10 e11 c12 hb13
   have ge_b8 : w.heap.size ≤ b8 := by rw [e11]; exact HC.size
   replace HC := HC.then c12
   replace ha := ha.tr0 c12
   replace hb := hb.tr0 c12
   replace hk3_9 := hk3_9.tr0 c12
   clear e11
   refine w_plain rfl (st_assign (v := .int _ _) rfl ?_)
   refine w_plain rfl (st_store (v := .agg ⟨[S _, .int _ _, S _, .slice _ _ _]⟩) T.size60 rfl rfl rfl hb13 rfl (Nat.le_of_ble_eq_true rfl) (by simp [Value.oneCell', S]) rfl ?_)
   intro w14 c15 hb16; simp only [setVs, setV] at hb16
   clear hb13
   replace HC := HC.then1 c15 ge_b8
   replace ha := ha.tr c15 (by intro k hx hD; simp only [List.mem_cons, List.mem_nil_iff, or_false] at hx; have hD2 : k < w.heap.size := hD; omega)
   replace hb := hb.tr c15 (by intro k hx hD; simp only [List.mem_cons, List.mem_nil_iff, or_false] at hx; have hD2 : k < w.heap.size := hD; omega)
   replace hk3_9 := hk3_9.tr c15 (by intro k hx hD; simp only [List.mem_cons, List.mem_nil_iff, or_false] at hx; have hD2 : k < w.heap.size := hD; omega)
   refine wops_nil ?_
   refine then_n ?_
   refine x_seq ?_
   refine x_region rfl ?_
   refine w_plain rfl (st_move (v := .slice _ _ _) rfl ?_)
   refine w_plain rfl (st_move (v := .int _ _) rfl ?_)
   obtain ⟨y, hx17⟩ : ∃ zz, b[i]? = some zz := ⟨_, List.getElem?_eq_getElem (by omega)⟩
   obtain ⟨lb22, _, vs21, hA18, hR20, hC19⟩ := hb.at hx17
   obtain ⟨K23, cK23, rfl, hk1_23, hk2_23, hk3_23⟩ := hR20
   refine w_plain rfl (st_indexAddr T.u39 T.size60 (congrArg (fun z => Value.slice z _ _) hA18) rfl (by omega) (by omega) ?_)
   refine w_plain rfl (st_loadA (vs := [_, _, _, _]) T.agg60 rfl hC19 rfl ?_)
   refine w_plain rfl (st_alloc T.zero60 ?_)
   intro b9 w24 e25 c26 hb27
   have ge_b9 : w.heap.size ≤ b9 := by rw [e25]; exact HC.size
   have ne_b8_b9 : b8 ≠ b9 := by rw [e25]; exact hb16.ne_size
   replace HC := HC.then c26
   replace ha := ha.tr0 c26
   replace hb := hb.tr0 c26
   replace hk3_9 := hk3_9.tr0 c26
   replace hb16 := hb16.tr0 c26
   replace hk3_23 := hk3_23.tr0 c26
   clear e25
   refine w_plain rfl (st_store (v := .agg ⟨[S _, .int _ _, S _, .slice _ _ _]⟩) T.size60 rfl rfl rfl hb27 rfl (Nat.le_of_ble_eq_true rfl) (by simp [Value.oneCell', S]) rfl ?_)
   intro w28 c29 hb30; simp only [setVs, setV] at hb30
   clear hb27
   replace HC := HC.then1 c29 ge_b9
   replace ha := ha.tr c29 (by intro k hx hD; simp only [List.mem_cons, List.mem_nil_iff, or_false] at hx; have hD2 : k < w.heap.size := hD; omega)
   replace hb := hb.tr c29 (by intro k hx hD; simp only [List.mem_cons, List.mem_nil_iff, or_false] at hx; have hD2 : k < w.heap.size := hD; omega)
   replace hk3_9 := hk3_9.tr c29 (by intro k hx hD; simp only [List.mem_cons, List.mem_nil_iff, or_false] at hx; have hD2 : k < w.heap.size := hD; omega)
   replace hb16 := hb16.tr1 c29 ne_b8_b9
   replace hk3_23 := hk3_23.tr c29 (by intro k hx hD; simp only [List.mem_cons, List.mem_nil_iff, or_false] at hx; have hD2 : k < w.heap.size := hD; omega)
   refine wops_nil ?_
   refine then_n ?_
   refine x_seq ?_
   refine x_region rfl ?_
   refine w_plain rfl (st_move (v := .func _ _ _) rfl ?_)
   refine w_plain rfl (st_loadA (vs := [_, _, _, _]) T.agg60 rfl (hb16.cells (n := 4) (vs := [_, _, _, _]) rfl) rfl ?_)
   refine w_plain rfl (st_loadA (vs := [_, _, _, _]) T.agg60 rfl (hb30.cells (n := 4) (vs := [_, _, _, _]) rfl) rfl ?_)
   refine w_plain rfl (st_call (ags := [_, _]) rfl rfl T.ent50 rfl (ASame1_spec (x := x) (y := y) (D := fun k => k < w.heap.size) (D2 := fun k => k < w.heap.size) ⟨_, _, rfl, hk1_9, hk2_9, hk3_9⟩ ⟨_, _, rfl, hk1_23, hk2_23, hk3_23⟩ (by have := hK x (List.mem_of_getElem? hx3); omega)) ?_)
   rintro _ w31 ⟨rfl, c32⟩
   replace HC := HC.then c32
   replace ha := ha.tr0 c32
   replace hb := hb.tr0 c32
   replace hk3_9 := hk3_9.tr0 c32
   replace hb16 := hb16.tr0 c32
   replace hk3_23 := hk3_23.tr0 c32
   replace hb30 := hb30.tr0 c32
   refine w_plain rfl (st_not rfl ?_)
   refine wops_nil ?_
   refine then_n ?_
   refine x_cond rfl (fun h2 => ?_) (fun h2 => ?_)
   ·skip
    try simp only [nm, ne_eq] at h2
    refine x_seq ?_
    refine x_region rfl ?_
    refine w_plain rfl (st_assign (v := .bool _) rfl ?_)
    refine wops_nil ?_
    refine then_n ?_
    refine x_ret ?_
    refine block_r ?_
    refine then_r ?_
    refine then_r ?_
    refine block_r ?_
    refine then_r ?_
    refine ret_tmp (v := .bool _) rfl rfl ?_
    refine ⟨?_, HC⟩
    rw [decide_eq_false (fun e => by subst e; have := Option.some.inj (hx3.symm.trans hx17); simp_all)]
   ·skip
    try simp only [nm, ne_eq] at h2
    refine x_skip ?_
    refine block_n ?_
    refine then_n ?_
    refine x_region rfl ?_
    refine w_plain rfl (st_addn rfl rfl (by constructor <;> omega) ?_)
    refine w_plain rfl (st_move (v := .int _ _) rfl ?_)
    refine wops_nil ?_
    refine then_n ?_
    refine ⟨i + 1, ?_, ?_, rfl, ⟨rfl, trivial⟩, ?_⟩
    ·skip
     refine ⟨?_, HC, ha, hb⟩
     exact ⟨by omega, take_same ht hx3 hx17 (by first | assumption | simp_all)⟩
    ·skip
     show a.length - (i + 1) < a.length - i; omega
    repeat (first | exact agree_upds agree_over rfl | refine agree_upd ?_ rfl | refine agree_upds ?_ rfl | refine agree_over_sub ?_ rfl)
  ·skip
   try simp only [nm, ne_eq] at h1
   refine x_exit ?_
   refine then_x ?_
   refine then_x ?_
   refine block_x ?_
   refine then_n ?_
   refine x_seq ?_
   refine x_region rfl ?_
   refine w_plain rfl (st_assign (v := .bool _) rfl ?_)
   refine wops_nil ?_
   refine then_n ?_
   refine x_ret ?_
   refine ret_tmp (v := .bool _) rfl rfl ?_
   refine ⟨?_, HC⟩
   rw [decide_eq_true (by rw [List.take_of_length_le (by omega), List.take_of_length_le (by omega)] at ht; exact ht)]

theorem ASame_spec {a b : List Nd} {Aa Ab : Option Addr} {capa capb : Nat} {D D2 : Nat → Prop} {w : World} (ha : Sl ndE w D Aa a) (hb : Sl ndE w D2 Ab b) (hK : ∀ x, x ∈ a → x.kids.length ≤ 140737488355328) (hla : a.length ≤ 140737488355328) : CallR Tryd.prog 29 #[.slice Aa a.length capa, .slice Ab b.length capb] w fun v w' => v = .bool (decide (a = b)) ∧ Chg [] w w' := by
 refine callR_of_wp (args := [_, _]) Tryd.func29 rfl (Nat.le_of_ble_eq_true rfl) ?_
 have HC : Chg [] w w := .refl _
 refine x_seq ?_
 refine x_region rfl ?_
 refine w_plain rfl (st_assign (v := .bool _) rfl ?_)
 refine wops_nil ?_
 refine then_n ?_
 refine x_seq ?_
 refine x_region rfl ?_
 refine w_plain rfl (st_move (v := .slice _ _ _) rfl ?_)
 refine w_plain rfl (st_move (v := .slice _ _ _) rfl ?_)
 refine w_plain rfl (st_call (ags := [_, _, _]) rfl rfl T.ent49 rfl (EqualF_spec ha hb hK hla) ?_)
 rintro _ w1 ⟨rfl, c2⟩
 replace HC := HC.then c2
 replace ha := ha.tr0 c2
 replace hb := hb.tr0 c2
 refine w_plain rfl (st_assign (v := .bool _) rfl ?_)
 refine wops_nil ?_
 refine then_n ?_
 refine x_ret ?_
 refine ret_tmp (v := .bool _) rfl rfl ?_
 exact ⟨rfl, HC⟩

end Go.Proofs.YtcgcbpknbjafcaaDoor.K
