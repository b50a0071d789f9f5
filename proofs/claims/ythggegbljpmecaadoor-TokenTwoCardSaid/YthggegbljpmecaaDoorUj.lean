import Derived.Test.YthggegbljpmecaaDoorUg
import Derived.Test.YthggegbljpmecaaDoorTwoB
set_option linter.unusedVariables false
set_option linter.unusedSimpArgs false
set_option autoImplicit false
set_option maxRecDepth 20000
namespace Go.Proofs.YthggegbljpmecaaDoor.K
open Go Go.Proofs Go.RowKit

theorem tok_same (x y : Tok) : (decide (x.kind = y.kind) && (decide (x.text = y.text) && (decide (x.at_ = y.at_) && (decide (x.here = y.here) && (x.raw == y.raw))))) = decide (x = y) := by
  rw [show (x.raw == y.raw) = decide (x.raw = y.raw) from by cases x.raw <;> cases y.raw <;> rfl]
  cases x; cases y
  simp only [Tok.mk.injEq, Bool.decide_and]
theorem tokens_len {s : Bytes} (hs : s.length ≤ 16384) : (tokensV s).1.length ≤ s.length + 1 := by
  have hyz := yld_at s (s.length + 1) ⟨blankV s, [], []⟩ (inv_first s) (by show s.length - blankV s < _; omega)
  have hyl := yld_len s (s.length + 1) ⟨blankV s, [], []⟩
  obtain ⟨n, hn⟩ : ∃ n, (yldF s (s.length + 1) ⟨blankV s, [], []⟩).length = n + 1 := ⟨_, (Nat.sub_add_cancel hyz.1).symm⟩
  rw [tokensV_end hs (n := n) hn.symm]
  have hl := (it_len s n).1
  unfold endV; split
  · exact Nat.zero_le _
  · show (linesV _ _ _).1.length ≤ _
    rw [linesV_len]; unfold nxO; rw [List.length_append, hl]; simp; omega
theorem take_same {α : Type} {a b : List α} {i : Nat} {x y : α} (h : a.take i = b.take i) (hx : a[i]? = some x) (hy : b[i]? = some y) (he : x = y) : a.take (i + 1) = b.take (i + 1) := by
  rw [List.take_add_one, List.take_add_one, h, hx, hy, he]

theorem TEqual_spec {a b : List Tok} {Aa Ab : Option Addr} {capa capb : Nat} {D D2 : Nat → Prop} {w : World} (ha : Sl tok5E w D Aa a) (hb : Sl tok5E w D2 Ab b) (hla : a.length ≤ 9223372036854775807) :
    CallR Tryd.prog 27 #[.slice Aa a.length capa, .slice Ab b.length capb] w fun v w' => v = .bool (decide (a = b)) ∧ Chg [] w w' := by
 refine callR_of_wp (args := [_, _]) Tryd.func27 rfl (Nat.le_of_ble_eq_true rfl) ?_
 have HC : Chg [] w w := .refl _
 refine sr rfl <| aB rfl <| en <| x_seq <| sr rfl <| mL rfl <| Wp rfl <| st_len (ct := #[23]) (by rw [show ((#[23] : Array TypeId)[0]?).bind Tryd.prog.underlying = some (.slice 28) from T.u23]; rfl) rfl <| mL rfl <| Wp rfl <| st_len (ct := #[23]) (by rw [show ((#[23] : Array TypeId)[0]?).bind Tryd.prog.underlying = some (.slice 28) from T.u23]; rfl) rfl <| Wp rfl <| st_neq rfl rfl <| en <| x_cond rfl (fun h0 => ?_) (fun h0 => ?_)
 ·try simp only [nm, ne_eq] at h0
  refine sr rfl <| aB rfl <| en <| x_ret <| then_r <| ret_tmp (v := .bool _) rfl rfl <| ⟨?_, HC⟩
  rw [decide_eq_false (fun e => h0 (by rw [e]))]
 ·try simp only [nm, ne_eq] at h0
  have hll : a.length = b.length := by omega
  refine x_skip <| then_n <| x_seq <| sr rfl <| mL rfl <| Wp rfl <| st_len (ct := #[23]) (by rw [show ((#[23] : Array TypeId)[0]?).bind Tryd.prog.underlying = some (.slice 28) from T.u23]; rfl) rfl <| mI rfl <| en <| x_block <| x_loop (ι := Nat) [4, 5, 13, 14, 15, 16, 17, 18, 19, 20, 21, 22, 23, 24, 25] (fun i => [(13, .int .i64 (i : Int))]) (fun i W => (i ≤ a.length ∧ a.take i = b.take i) ∧ (Chg [] w W) ∧ (Sl tok5E W D Aa a) ∧ (Sl tok5E W D2 Ab b)) (fun i => a.length - i) 0 ?_ ?_ ?_
  · exact ⟨rfl, trivial⟩
  ·refine ⟨?_, HC, ha, hb⟩
   exact ⟨Nat.zero_le _, rfl⟩
  intro i G2 w1 ⟨⟨hi, ht⟩, HC, ha, hb⟩
  change wp _ _ _ _ _ (upds (over _ _ G2) [(13, .int .i64 (i : Int))]) _ _
  refine sr rfl <| Wp rfl <| st_lss rfl rfl <| en <| x_seq <| x_cond rfl (fun h1 => ?_) (fun h1 => ?_)
  ·try simp only [nm, ne_eq] at h1
   refine x_skip <| then_n <| x_seq <| x_block <| sr rfl <| mI rfl <| aI rfl <| en <| x_seq ?_
   obtain ⟨x3, hx4⟩ : ∃ zz, a[i]? = some zz := ⟨_, List.getElem?_eq_getElem (by omega)⟩
   obtain ⟨lb9, _, vs8, hA5, hR7, hC6⟩ := ha.at hx4
   obtain rfl : vs8 = [.int .i64 x3.kind, S x3.text, .int .i64 x3.at_, S x3.here, .bool x3.raw] := hR7
   obtain ⟨x10, hx11⟩ : ∃ zz, b[i]? = some zz := ⟨_, List.getElem?_eq_getElem (by omega)⟩
   obtain ⟨lb16, _, vs15, hA12, hR14, hC13⟩ := hb.at hx11
   obtain rfl : vs15 = [.int .i64 x10.kind, S x10.text, .int .i64 x10.at_, S x10.here, .bool x10.raw] := hR14
   refine x_draw [(0, 0), (1, 0), (2, 0), (3, 0), (4, 0), (5, 0), (6, 0), (7, 0), (8, 0)] T.mixed rfl rfl rfl (fun W => W.heap[lb9]? = w1.heap[lb9]? ∧ W.heap[lb16]? = w1.heap[lb16]? ∧ True) ⟨rfl, rfl, trivial⟩ ?_
   have c18 := Chg.drew w1
   generalize World.drew w1 = w17 at c18 ⊢
   have ht_lb9 : lb9 < w17.heap.size ∧ w17.heap[lb9]? = w1.heap[lb9]? := ⟨Nat.lt_of_lt_of_le hC6.lt c18.size, c18.block lb9 hC6.lt (by simp)⟩
   have ht_lb16 : lb16 < w17.heap.size ∧ w17.heap[lb16]? = w1.heap[lb16]? := ⟨Nat.lt_of_lt_of_le hC13.lt c18.size, c18.block lb16 hC13.lt (by simp)⟩
   replace HC := HC.then c18
   replace ha := ha.tr0 c18
   replace hb := hb.tr0 c18
   refine sq_q rfl (fun W hT => r_move (v := .slice _ _ _) rfl) <| sq_q rfl (fun W hT => r_move (v := .int _ _) rfl) <| sq_q rfl (fun W hT => r_indexAddr T.u23 T.size28 (congrArg (fun z => Value.slice z _ _) hA5) rfl (by omega) (by omega)) <| sq_q rfl (fun W hT => r_loadA (vs := [_, _, _, _, _]) T.agg28 rfl (Cells.tr hC6 hT.1) rfl) <| sq_q rfl (fun W hT => r_move (v := .slice _ _ _) rfl) <| sq_q rfl (fun W hT => r_move (v := .int _ _) rfl) <| sq_q rfl (fun W hT => r_indexAddr T.u23 T.size28 (congrArg (fun z => Value.slice z _ _) hA12) rfl (by omega) (by omega)) <| sq_q rfl (fun W hT => r_loadA (vs := [_, _, _, _, _]) T.agg28 rfl (Cells.tr hC13 hT.2.1) rfl) <| sq_q rfl (fun W hT => r_aneq (va := [_, _, _, _, _]) (vb := [_, _, _, _, _]) T.eq28 rfl rfl rfl) <| sq_nil <| then_n <| x_cond rfl (fun h2 => ?_) (fun h2 => ?_)
   ·try simp only [nm, ne_eq] at h2
    rw [tok_same] at h2
    refine sr rfl <| aB rfl <| en <| x_ret <| block_r <| then_r <| then_r <| block_r <| then_r <| ret_tmp (v := .bool _) rfl rfl <| ⟨?_, HC⟩
    rw [decide_eq_false (fun e => by subst e; have := hx4.symm.trans hx11; exact absurd (Option.some.inj this) (of_decide_eq_false h2))]
   ·try simp only [nm, ne_eq] at h2
    rw [tok_same] at h2
    refine x_skip <| block_n <| then_n <| x_region rfl <| Wp rfl <| st_addn rfl rfl (by constructor <;> omega) <| mI rfl <| en <| ⟨i + 1, ?_, ?_, rfl, ⟨rfl, trivial⟩, ?_⟩
    ·refine ⟨?_, HC, ha, hb⟩
     exact ⟨by omega, take_same ht hx4 hx11 (of_decide_eq_true h2)⟩
    ·show a.length - (i + 1) < a.length - i; omega
    repeat (first | exact agree_upds agree_over rfl | refine agree_upd ?_ rfl | refine agree_upds ?_ rfl | refine agree_over_sub ?_ rfl)
  ·try simp only [nm, ne_eq] at h1
   refine x_exit <| then_x <| then_x <| block_x <| then_n <| sr rfl <| aB rfl <| en <| x_ret <| ret_tmp (v := .bool _) rfl rfl <| ⟨?_, HC⟩
   rw [decide_eq_true (by rw [List.take_of_length_le (by omega), List.take_of_length_le (by omega)] at ht; exact ht)]

theorem TSame_spec {a b : List Tok} {Aa Ab : Option Addr} {capa capb : Nat} {D D2 : Nat → Prop} {w : World} (ha : Sl tok5E w D Aa a) (hb : Sl tok5E w D2 Ab b) (hla : a.length ≤ 9223372036854775807) :
    CallR Tryd.prog 11 #[.slice Aa a.length capa, .slice Ab b.length capb] w fun v w' => v = .bool (decide (a = b)) ∧ Chg [] w w' := by
 refine callR_of_wp (args := [_, _]) Tryd.func11 rfl (Nat.le_of_ble_eq_true rfl) ?_
 have HC : Chg [] w w := .refl _
 refine sr rfl <| aB rfl <| en <| sr rfl <| mL rfl <| mL rfl <| Wp rfl <| st_call (ags := [_, _]) rfl rfl T.ent27 rfl (TEqual_spec ha hb hla) ?_
 rintro _ w1 ⟨rfl, c2⟩
 replace HC := HC.then c2
 replace ha := ha.tr0 c2
 replace hb := hb.tr0 c2
 refine aB rfl <| en <| x_ret <| ret_tmp (v := .bool _) rfl rfl ?_
 exact ⟨rfl, HC⟩

def ax0 : Bytes := [97, 32, 98, 59, 99]
def axT0 : List Tok := [(⟨1, [97], 0, [], false⟩ : Tok), (⟨1, [98], 2, [], false⟩ : Tok), (⟨2, [59], 3, [], false⟩ : Tok), (⟨1, [99], 4, [], false⟩ : Tok), (⟨0, [], 5, [], false⟩ : Tok)]
theorem ax0_eq : tokensV ax0 = (axT0, 0, 0) := by kernel_rfl

def ax1 : Bytes := [99, 97, 116, 32, 60, 60, 69, 10, 120, 10, 69, 10]
def axT1 : List Tok := [(⟨1, [99, 97, 116], 0, [], false⟩ : Tok), (⟨2, [60, 60], 4, [], false⟩ : Tok), (⟨1, [69], 6, [120, 10], false⟩ : Tok), (⟨3, [10], 7, [], false⟩ : Tok), (⟨0, [], 12, [], false⟩ : Tok)]
theorem ax1_eq : tokensV ax1 = (axT1, 0, 0) := by kernel_rfl

def ax2 : Bytes := [39, 120]
def axT2 : List Tok := []
theorem ax2_eq : tokensV ax2 = (axT2, 0, 101) := by kernel_rfl

theorem awake15_spec (w : World) (hmx : MaxT w) (ht : Tab w) : CallR Tryd.prog 8 #[] w fun v w' => v = .bool true ∧ Chg [] w w' := by
 refine callR_of_wp (args := []) Tryd.func8 rfl (Nat.le_of_ble_eq_true rfl) ?_
 have HC : Chg [] w w := .refl _
 have ht1 := ht.lt
 have hm1 := hmx.lt
 refine sr rfl <| aB rfl <| en <| sr rfl <| Wp rfl <| st_call (ags := [_]) rfl rfl T.ent9 rfl (Tokens_spec ax0 _ (by decide) hmx ht) ?_
 have sz1_hs0 := HC.size
 rintro _ w1 ⟨A0, cap0, rfl, hchs0, hs0, c2⟩
 rw [ax0_eq] at hs0 ⊢
 replace HC := HC.then c2
 replace ht := ht.tr0 c2
 replace hmx := hmx.tr0 c2
 refine mv (v := .tuple ⟨[_, _, _]⟩) rfl <| Wp rfl <| st_extract (vs := [_, _, _]) (v := .slice _ _ _) rfl rfl <| Wp rfl <| st_extract (vs := [_, _, _]) (v := .int _ _) rfl rfl <| Wp rfl <| st_extract (vs := [_, _, _]) (v := .int _ _) rfl rfl <| aL rfl <| aI rfl <| aI rfl <| en <| sr rfl <| Wp rfl <| st_call (ags := [_]) rfl rfl T.ent9 rfl (Tokens_spec ax1 _ (by decide) hmx ht) ?_
 have sz1_hs1 := HC.size
 rintro _ w3 ⟨A1, cap1, rfl, hchs1, hs1, c4⟩
 rw [ax1_eq] at hs1 ⊢
 replace HC := HC.then c4
 replace ht := ht.tr0 c4
 replace hmx := hmx.tr0 c4
 replace hs0 := hs0.tr0 c4
 refine mv (v := .tuple ⟨[_, _, _]⟩) rfl <| Wp rfl <| st_extract (vs := [_, _, _]) (v := .slice _ _ _) rfl rfl <| Wp rfl <| st_extract (vs := [_, _, _]) (v := .int _ _) rfl rfl <| Wp rfl <| st_extract (vs := [_, _, _]) (v := .int _ _) rfl rfl <| aL rfl <| aI rfl <| aI rfl <| en <| sr rfl <| Wp rfl <| st_call (ags := [_]) rfl rfl T.ent9 rfl (Tokens_spec ax2 _ (by decide) hmx ht) ?_
 have sz1_hs2 := HC.size
 rintro _ w5 ⟨A2, cap2, rfl, hchs2, hs2, c6⟩
 rw [ax2_eq] at hs2 ⊢
 replace HC := HC.then c6
 replace ht := ht.tr0 c6
 replace hmx := hmx.tr0 c6
 replace hs0 := hs0.tr0 c6
 replace hs1 := hs1.tr0 c6
 refine mv (v := .tuple ⟨[_, _, _]⟩) rfl <| Wp rfl <| st_extract (vs := [_, _, _]) (v := .slice _ _ _) rfl rfl <| Wp rfl <| st_extract (vs := [_, _, _]) (v := .int _ _) rfl rfl <| Wp rfl <| st_extract (vs := [_, _, _]) (v := .int _ _) rfl rfl <| aL rfl <| aI rfl <| aI rfl <| en <| sr rfl <| mI rfl <| Wp rfl <| st_eql rfl rfl <| mB rfl <| w_split (d := 27) rfl (fun g7 => ?_) (fun g7 => ?_)
 ·try simp only [nm, ne_eq] at g7
  refine w_yes 2 27 true <| st_move (v := .slice _ _ _) rfl <| w_yes 2 27 true <| st_len (ct := #[23]) (by rw [show ((#[23] : Array TypeId)[0]?).bind Tryd.prog.underlying = some (.slice 28) from T.u23]; rfl) rfl <| w_yes 2 27 true <| st_eql rfl rfl <| pT rfl rfl <| mB rfl <| w_split (d := 32) rfl (fun g8 => ?_) (fun g8 => ?_)
  ·try simp only [nm, ne_eq] at g8
   refine w_yes 7 32 true <| st_move (v := .slice _ _ _) rfl ?_
   obtain ⟨lb13, _, vs12, hA9, hR11, hC10⟩ := hs0.at (i := 2) (x := (⟨2, [59], 3, [], false⟩ : Tok)) (rfl)
   obtain rfl : vs12 = [.int .i64 (⟨2, [59], 3, [], false⟩ : Tok).kind, S (⟨2, [59], 3, [], false⟩ : Tok).text, .int .i64 (⟨2, [59], 3, [], false⟩ : Tok).at_, S (⟨2, [59], 3, [], false⟩ : Tok).here, .bool (⟨2, [59], 3, [], false⟩ : Tok).raw] := hR11
   refine w_yes 7 32 true <| st_indexAddr T.u23 T.size28 (congrArg (fun z => Value.slice z _ _) hA9) rfl (by decide) (by decide) <| w_yes 7 32 true <| st_loadA (vs := [_, _, _, _, _]) T.agg28 rfl hC10 rfl <| w_yes 7 32 true <| st_bld (ps := [(0, .const (.int .i64 2)), (1, .const (S [59])), (2, .const (.int .i64 3))]) (vs := [.int _ _, S _, .int _ _, S _, .bool _]) T.bld28 rfl <| w_yes 7 32 true <| st_aeql T.eq28 rfl rfl rfl <| pT rfl rfl <| mB rfl <| w_split (d := 39) rfl (fun g14 => ?_) (fun g14 => ?_)
   ·try simp only [nm, ne_eq] at g14
    refine w_yes 14 39 true <| st_move (v := .slice _ _ _) rfl ?_
    obtain ⟨lb19, _, vs18, hA15, hR17, hC16⟩ := hs0.at (i := 3) (x := (⟨1, [99], 4, [], false⟩ : Tok)) (rfl)
    obtain rfl : vs18 = [.int .i64 (⟨1, [99], 4, [], false⟩ : Tok).kind, S (⟨1, [99], 4, [], false⟩ : Tok).text, .int .i64 (⟨1, [99], 4, [], false⟩ : Tok).at_, S (⟨1, [99], 4, [], false⟩ : Tok).here, .bool (⟨1, [99], 4, [], false⟩ : Tok).raw] := hR17
    refine w_yes 14 39 true <| st_indexAddr T.u23 T.size28 (congrArg (fun z => Value.slice z _ _) hA15) rfl (by decide) (by decide) <| w_yes 14 39 true <| st_fieldAddr T.fld28_2 rfl <| w_yes 14 39 true <| st_load1 (v := .int _ _) T.one3 rfl (hC16.at (j := 2) rfl) <| w_yes 14 39 true <| st_eql rfl rfl <| pT rfl rfl <| mB rfl <| w_split (d := 46) rfl (fun g20 => ?_) (fun g20 => ?_)
    ·try simp only [nm, ne_eq] at g20
     refine w_yes 21 46 true <| st_move (v := .int _ _) rfl <| w_yes 21 46 true <| st_eql rfl rfl <| pT rfl rfl <| mB rfl <| w_split (d := 50) rfl (fun g21 => ?_) (fun g21 => ?_)
     ·try simp only [nm, ne_eq] at g21
      refine w_yes 25 50 true <| st_move (v := .slice _ _ _) rfl <| w_yes 25 50 true <| st_len (ct := #[23]) (by rw [show ((#[23] : Array TypeId)[0]?).bind Tryd.prog.underlying = some (.slice 28) from T.u23]; rfl) rfl <| w_yes 25 50 true <| st_eql rfl rfl <| pT rfl rfl <| mB rfl <| w_split (d := 55) rfl (fun g22 => ?_) (fun g22 => ?_)
      ·try simp only [nm, ne_eq] at g22
       refine w_yes 30 55 true <| st_move (v := .slice _ _ _) rfl ?_
       obtain ⟨lb27, _, vs26, hA23, hR25, hC24⟩ := hs1.at (i := 2) (x := (⟨1, [69], 6, [120, 10], false⟩ : Tok)) (rfl)
       obtain rfl : vs26 = [.int .i64 (⟨1, [69], 6, [120, 10], false⟩ : Tok).kind, S (⟨1, [69], 6, [120, 10], false⟩ : Tok).text, .int .i64 (⟨1, [69], 6, [120, 10], false⟩ : Tok).at_, S (⟨1, [69], 6, [120, 10], false⟩ : Tok).here, .bool (⟨1, [69], 6, [120, 10], false⟩ : Tok).raw] := hR25
       refine w_yes 30 55 true <| st_indexAddr T.u23 T.size28 (congrArg (fun z => Value.slice z _ _) hA23) rfl (by decide) (by decide) <| w_yes 30 55 true <| st_fieldAddr T.fld28_1 rfl <| w_yes 30 55 true <| st_load1 (v := S _) T.one9 rfl (hC24.at (j := 1) rfl) <| w_yes 30 55 true <| st_seql rfl rfl <| pT rfl rfl <| mB rfl <| w_split (d := 62) rfl (fun g28 => ?_) (fun g28 => ?_)
       ·try simp only [nm, ne_eq] at g28
        refine w_yes 37 62 true <| st_move (v := .slice _ _ _) rfl ?_
        obtain ⟨lb33, _, vs32, hA29, hR31, hC30⟩ := hs1.at (i := 2) (x := (⟨1, [69], 6, [120, 10], false⟩ : Tok)) (rfl)
        obtain rfl : vs32 = [.int .i64 (⟨1, [69], 6, [120, 10], false⟩ : Tok).kind, S (⟨1, [69], 6, [120, 10], false⟩ : Tok).text, .int .i64 (⟨1, [69], 6, [120, 10], false⟩ : Tok).at_, S (⟨1, [69], 6, [120, 10], false⟩ : Tok).here, .bool (⟨1, [69], 6, [120, 10], false⟩ : Tok).raw] := hR31
        refine w_yes 37 62 true <| st_indexAddr T.u23 T.size28 (congrArg (fun z => Value.slice z _ _) hA29) rfl (by decide) (by decide) <| w_yes 37 62 true <| st_fieldAddr T.fld28_3 rfl <| w_yes 37 62 true <| st_load1 (v := S _) T.one9 rfl (hC30.at (j := 3) rfl) <| w_yes 37 62 true <| st_seql rfl rfl <| pT rfl rfl <| mB rfl <| w_split (d := 69) rfl (fun g34 => ?_) (fun g34 => ?_)
        ·try simp only [nm, ne_eq] at g34
         refine w_yes 44 69 true <| st_move (v := .slice _ _ _) rfl ?_
         obtain ⟨lb39, _, vs38, hA35, hR37, hC36⟩ := hs1.at (i := 2) (x := (⟨1, [69], 6, [120, 10], false⟩ : Tok)) (rfl)
         obtain rfl : vs38 = [.int .i64 (⟨1, [69], 6, [120, 10], false⟩ : Tok).kind, S (⟨1, [69], 6, [120, 10], false⟩ : Tok).text, .int .i64 (⟨1, [69], 6, [120, 10], false⟩ : Tok).at_, S (⟨1, [69], 6, [120, 10], false⟩ : Tok).here, .bool (⟨1, [69], 6, [120, 10], false⟩ : Tok).raw] := hR37
         refine w_yes 44 69 true <| st_indexAddr T.u23 T.size28 (congrArg (fun z => Value.slice z _ _) hA35) rfl (by decide) (by decide) <| w_yes 44 69 true <| st_fieldAddr T.fld28_4 rfl <| w_yes 44 69 true <| st_load1 (v := .bool _) T.one4 rfl (hC36.at (j := 4) rfl) <| w_yes 44 69 true <| st_not rfl <| pT rfl rfl <| mB rfl <| w_split (d := 76) rfl (fun g40 => ?_) (fun g40 => ?_)
         ·try simp only [nm, ne_eq] at g40
          refine w_yes 51 76 true <| st_move (v := .int _ _) rfl <| w_yes 51 76 true <| st_eql rfl rfl <| pT rfl rfl <| mB rfl <| w_split (d := 80) rfl (fun g41 => ?_) (fun g41 => ?_)
          ·try simp only [nm, ne_eq] at g41
           refine w_yes 55 80 true <| st_move (v := .int _ _) rfl <| w_yes 55 80 true <| st_eql rfl rfl <| pT rfl rfl <| aB rfl <| en <| x_ret <| ret_tmp (v := .bool _) rfl rfl ?_
           exact ⟨rfl, HC⟩
          ·try simp only [nm, ne_eq] at g41
           first | exact absurd rfl g41 | exact absurd trivial g41 | (simp at g41; done) | exact absurd g41 (by decide) | exact absurd (by assumption) g41
         ·try simp only [nm, ne_eq] at g40
          first | exact absurd rfl g40 | exact absurd trivial g40 | (simp at g40; done) | exact absurd g40 (by decide) | exact absurd (by assumption) g40
        ·try simp only [nm, ne_eq] at g34
         first | exact absurd rfl g34 | exact absurd trivial g34 | (simp at g34; done) | exact absurd g34 (by decide) | exact absurd (by assumption) g34
       ·try simp only [nm, ne_eq] at g28
        first | exact absurd rfl g28 | exact absurd trivial g28 | (simp at g28; done) | exact absurd g28 (by decide) | exact absurd (by assumption) g28
      ·try simp only [nm, ne_eq] at g22
       first | exact absurd rfl g22 | exact absurd trivial g22 | (simp at g22; done) | exact absurd g22 (by decide) | exact absurd (by assumption) g22
     ·try simp only [nm, ne_eq] at g21
      first | exact absurd rfl g21 | exact absurd trivial g21 | (simp at g21; done) | exact absurd g21 (by decide) | exact absurd (by assumption) g21
    ·try simp only [nm, ne_eq] at g20
     first | exact absurd rfl g20 | exact absurd trivial g20 | (simp at g20; done) | exact absurd g20 (by decide) | exact absurd (by assumption) g20
   ·try simp only [nm, ne_eq] at g14
    first | exact absurd rfl g14 | exact absurd trivial g14 | (simp at g14; done) | exact absurd g14 (by decide) | exact absurd (by assumption) g14
  ·try simp only [nm, ne_eq] at g8
   first | exact absurd rfl g8 | exact absurd trivial g8 | (simp at g8; done) | exact absurd g8 (by decide) | exact absurd (by assumption) g8
 ·try simp only [nm, ne_eq] at g7
  first | exact absurd rfl g7 | exact absurd trivial g7 | (simp at g7; done) | exact absurd g7 (by decide) | exact absurd (by assumption) g7

end Go.Proofs.YthggegbljpmecaaDoor.K
set_option linter.unusedVariables false
set_option linter.unusedSimpArgs false
set_option autoImplicit false
set_option maxRecDepth 20000
namespace Go.Proofs.YthggegbljpmecaaDoor.K
open Go Go.Proofs Go.RowKit

theorem two_last {α : Type} {l : List α} (h : 2 ≤ l.length) : ∃ l0 x e, l = l0 ++ [x, e] := by
  rcases List.eq_nil_or_concat l with rfl | ⟨l1, e, rfl⟩
  · simp at h
  · rcases List.eq_nil_or_concat l1 with rfl | ⟨l0, x, rfl⟩
    · simp at h
    · exact ⟨l0, x, e, by simp⟩

set_option maxHeartbeats 1600000 in
theorem TokenTwo_spec (s t : Bytes) (w : World) (hs : s.length ≤ 140737488351232) (hst : t.length ≤ 140737488351232) (hmx : MaxT w) (ht : Tab w) : CallR Tryd.prog 5 #[S s, S t] w fun v w' => v = .bool true ∧ Chg [] w w' := by
 refine callR_of_wp (args := [_, _]) Tryd.func5 rfl (Nat.le_of_ble_eq_true rfl) ?_
 have HC : Chg [] w w := .refl _
 have ht1 := ht.lt
 have hm1 := hmx.lt
 refine sr rfl <| aB rfl <| en <| x_seq <| sr rfl <| mS rfl <| Wp rfl <| st_slen (ct := #[9]) T.u9 rfl <| Wp rfl <| st_gtr rfl rfl <| mB rfl <| w_split (d := 21) rfl (fun g1 => ?_) (fun g1 => ?_)
 ·try simp only [nm, ne_eq] at g1
  iterate 3 refine w_no 3 21 false ?_
  refine pT rfl rfl <| en <| x_cond (t := true) rfl (fun h0 => ?_) (fun h0 => ?_)
  rotate_left
  · exact absurd h0 (by decide)
  refine sr rfl <| Wp rfl <| st_call (ags := []) rfl rfl T.ent8 rfl (awake15_spec _ hmx ht) ?_
  rintro _ w2 ⟨rfl, c3⟩
  replace HC := HC.then c3
  replace ht := ht.tr0 c3
  replace hmx := hmx.tr0 c3
  refine aB rfl <| en <| x_ret <| then_r <| ret_tmp (v := .bool _) rfl rfl ?_
  exact ⟨rfl, HC⟩
 ·try simp only [nm, ne_eq] at g1
  refine w_yes 3 21 false <| st_move (v := S _) rfl <| w_yes 3 21 false <| st_slen (ct := #[9]) T.u9 rfl <| w_yes 3 21 false <| st_gtr rfl rfl <| pF rfl rfl <| en <| x_cond rfl (fun h0 => ?_) (fun h0 => ?_)
  ·try simp only [nm, ne_eq] at h0
   refine sr rfl <| Wp rfl <| st_call (ags := []) rfl rfl T.ent8 rfl (awake15_spec _ hmx ht) ?_
   rintro _ w4 ⟨rfl, c5⟩
   replace HC := HC.then c5
   replace ht := ht.tr0 c5
   replace hmx := hmx.tr0 c5
   refine aB rfl <| en <| x_ret <| then_r <| ret_tmp (v := .bool _) rfl rfl ?_
   exact ⟨rfl, HC⟩
  ·try simp only [nm, ne_eq] at h0
   have hs3 : s.length ≤ 3000 := by first | omega | simp_all
   have ht3 : t.length ≤ 3000 := by first | omega | simp_all
   refine x_skip <| then_n <| sr rfl <| mS rfl <| Wp rfl <| st_call (ags := [_]) rfl rfl T.ent9 rfl (Tokens_spec s _ (by omega) hmx ht) ?_
   have sz1_hs0 := HC.size
   rintro _ w6 ⟨A0, cap0, rfl, hchs0, hs0, c7⟩
   replace HC := HC.then c7
   replace ht := ht.tr0 c7
   replace hmx := hmx.tr0 c7
   refine mv (v := .tuple ⟨[_, _, _]⟩) rfl <| Wp rfl <| st_extract (vs := [_, _, _]) (v := .slice _ _ _) rfl rfl <| Wp rfl <| st_extract (vs := [_, _, _]) (v := .int _ _) rfl rfl <| Wp rfl <| st_extract (vs := [_, _, _]) (v := .int _ _) rfl rfl <| aL rfl <| aI rfl <| aI rfl <| en <| sr rfl <| mS rfl <| Wp rfl <| st_call (ags := [_]) rfl rfl T.ent9 rfl (Tokens_spec t _ (by omega) hmx ht) ?_
   have sz1_hs1 := HC.size
   rintro _ w8 ⟨A1, cap1, rfl, hchs1, hs1, c9⟩
   replace HC := HC.then c9
   replace ht := ht.tr0 c9
   replace hmx := hmx.tr0 c9
   replace hs0 := hs0.tr0 c9
   refine mv (v := .tuple ⟨[_, _, _]⟩) rfl <| Wp rfl <| st_extract (vs := [_, _, _]) (v := .slice _ _ _) rfl rfl <| Wp rfl <| st_extract (vs := [_, _, _]) (v := .int _ _) rfl rfl <| Wp rfl <| st_extract (vs := [_, _, _]) (v := .int _ _) rfl rfl <| aL rfl <| aI rfl <| aI rfl <| en <| sr rfl <| mS rfl <| mS rfl <| Wp rfl <| st_sadd rfl rfl (by omega) <| Wp rfl <| st_call (ags := [_]) rfl rfl T.ent9 rfl (Tokens_spec (s ++ t) _ (by rw [List.length_append]; omega) hmx ht) ?_
   have sz1_hs2 := HC.size
   rintro _ w10 ⟨A2, cap2, rfl, hchs2, hs2, c11⟩
   replace HC := HC.then c11
   replace ht := ht.tr0 c11
   replace hmx := hmx.tr0 c11
   replace hs0 := hs0.tr0 c11
   replace hs1 := hs1.tr0 c11
   refine mv (v := .tuple ⟨[_, _, _]⟩) rfl <| Wp rfl <| st_extract (vs := [_, _, _]) (v := .slice _ _ _) rfl rfl <| Wp rfl <| st_extract (vs := [_, _, _]) (v := .int _ _) rfl rfl <| Wp rfl <| st_extract (vs := [_, _, _]) (v := .int _ _) rfl rfl <| aL rfl <| aI rfl <| aI rfl <| en <| x_seq <| x_seq ?_
   have hga := tokens_len (s := s) (by omega)
   have hgb := tokens_places ht3
   have htwo := fun h1 h2 h3 h4 h5 h6 h7 => @tokens_two s t hs3 ht3 h1 h2 h3 h4 h5 h6 h7
   have hgl := tokens_len (s := t) (by omega)
   have hgc := tokens_len (s := s ++ t) (by rw [List.length_append]; omega)
   obtain ⟨La, hLa⟩ : ∃ L, (tokensV s).1 = L := ⟨_, rfl⟩
   obtain ⟨Ea, hEa⟩ : ∃ L, (tokensV s).2.2 = L := ⟨_, rfl⟩
   obtain ⟨Lb, hLb⟩ : ∃ L, (tokensV t).1 = L := ⟨_, rfl⟩
   obtain ⟨Eb, hEb⟩ : ∃ L, (tokensV t).2.2 = L := ⟨_, rfl⟩
   obtain ⟨Lc, hLc⟩ : ∃ L, (tokensV (s ++ t)).1 = L := ⟨_, rfl⟩
   obtain ⟨Ec, hEc⟩ : ∃ L, (tokensV (s ++ t)).2.2 = L := ⟨_, rfl⟩
   rw [hLa] at hs0 hchs0 hga ⊢
   rw [hEa] at ⊢
   rw [hLb] at hs1 hchs1 hgl ⊢
   rw [hEb] at ⊢
   rw [hLc] at hs2 hchs2 hgc ⊢
   rw [hEc] at ⊢
   refine x_region rfl <| mI rfl <| Wp rfl <| st_neq rfl rfl <| mB rfl <| w_split (d := 49) rfl (fun g12 => ?_) (fun g12 => ?_)
   ·try simp only [nm, ne_eq] at g12
    iterate 3 refine w_no 2 49 false ?_
    refine pT rfl rfl <| mB rfl ?_
    iterate 8 refine w_no 7 54 false ?_
    refine pT rfl rfl <| mB rfl ?_
    iterate 11 refine w_no 17 64 false ?_
    refine pT rfl rfl <| en <| x_cond (t := true) rfl (fun h1 => ?_) (fun h1 => ?_)
    rotate_left
    · exact absurd h1 (by decide)
    refine sr rfl <| Wp rfl <| st_call (ags := []) rfl rfl T.ent8 rfl (awake15_spec _ hmx ht) ?_
    rintro _ w13 ⟨rfl, c14⟩
    replace HC := HC.then c14
    replace ht := ht.tr0 c14
    replace hmx := hmx.tr0 c14
    replace hs0 := hs0.tr0 c14
    replace hs1 := hs1.tr0 c14
    replace hs2 := hs2.tr0 c14
    refine aB rfl <| en <| x_ret <| then_r <| ret_tmp (v := .bool _) rfl rfl ?_
    exact ⟨rfl, HC⟩
   ·try simp only [nm, ne_eq] at g12
    have he0 : Ea = 0 := by first | assumption | simp_all
    refine w_yes 2 49 false <| st_move (v := .slice _ _ _) rfl <| w_yes 2 49 false <| st_len (ct := #[23]) (by rw [show ((#[23] : Array TypeId)[0]?).bind Tryd.prog.underlying = some (.slice 28) from T.u23]; rfl) rfl <| w_yes 2 49 false <| st_lss rfl rfl <| pF rfl rfl <| mB rfl <| w_split (d := 54) rfl (fun g15 => ?_) (fun g15 => ?_)
    ·try simp only [nm, ne_eq] at g15
     iterate 8 refine w_no 7 54 false ?_
     refine pT rfl rfl <| mB rfl ?_
     iterate 11 refine w_no 17 64 false ?_
     refine pT rfl rfl <| en <| x_cond (t := true) rfl (fun h1 => ?_) (fun h1 => ?_)
     rotate_left
     · exact absurd h1 (by decide)
     refine sr rfl <| Wp rfl <| st_call (ags := []) rfl rfl T.ent8 rfl (awake15_spec _ hmx ht) ?_
     rintro _ w16 ⟨rfl, c17⟩
     replace HC := HC.then c17
     replace ht := ht.tr0 c17
     replace hmx := hmx.tr0 c17
     replace hs0 := hs0.tr0 c17
     replace hs1 := hs1.tr0 c17
     replace hs2 := hs2.tr0 c17
     refine aB rfl <| en <| x_ret <| then_r <| ret_tmp (v := .bool _) rfl rfl ?_
     exact ⟨rfl, HC⟩
    ·try simp only [nm, ne_eq] at g15
     obtain ⟨l0, x, e9, hl⟩ : ∃ l0 x e9, La = l0 ++ [x, e9] := two_last (by omega)
     have hll : La.length = l0.length + 2 := by rw [hl]; simp
     have hw2 : IntKind.i64.wrap ((La.length : Int) - 2) = ((l0.length : Nat) : Int) := by rw [wrap64_id (by omega) (by omega)]; omega
     have hw1 : IntKind.i64.wrap ((La.length : Int) - 1) = ((l0.length + 1 : Nat) : Int) := by rw [wrap64_id (by omega) (by omega)]; omega
     refine w_yes 7 54 false <| st_move (v := .slice _ _ _) rfl <| w_yes 7 54 false <| st_move (v := .slice _ _ _) rfl <| w_yes 7 54 false <| st_len (ct := #[23]) (by rw [show ((#[23] : Array TypeId)[0]?).bind Tryd.prog.underlying = some (.slice 28) from T.u23]; rfl) rfl <| w_yes 7 54 false <| st_subk rfl rfl (by exact hw2) ?_
     obtain ⟨lb22, _, vs21, hA18, hR20, hC19⟩ := hs0.at (i := l0.length) (x := x) (by rw [hl]; simp)
     obtain rfl : vs21 = [.int .i64 x.kind, S x.text, .int .i64 x.at_, S x.here, .bool x.raw] := hR20
     refine w_yes 7 54 false <| st_indexAddr T.u23 T.size28 (congrArg (fun z => Value.slice z _ _) hA18) rfl (by omega) (by omega) <| w_yes 7 54 false <| st_fieldAddr T.fld28_0 rfl <| w_yes 7 54 false <| st_load1 (v := .int _ _) T.one3 rfl (hC19.at (j := 0) rfl) <| w_yes 7 54 false <| st_neq rfl rfl <| pF rfl rfl <| mB rfl <| w_split (d := 64) rfl (fun g23 => ?_) (fun g23 => ?_)
     ·try simp only [nm, ne_eq] at g23
      iterate 11 refine w_no 17 64 false ?_
      refine pT rfl rfl <| en <| x_cond (t := true) rfl (fun h1 => ?_) (fun h1 => ?_)
      rotate_left
      · exact absurd h1 (by decide)
      refine sr rfl <| Wp rfl <| st_call (ags := []) rfl rfl T.ent8 rfl (awake15_spec _ hmx ht) ?_
      rintro _ w24 ⟨rfl, c25⟩
      replace HC := HC.then c25
      replace ht := ht.tr0 c25
      replace hmx := hmx.tr0 c25
      replace hs0 := hs0.tr0 c25
      replace hs1 := hs1.tr0 c25
      replace hs2 := hs2.tr0 c25
      refine aB rfl <| en <| x_ret <| then_r <| ret_tmp (v := .bool _) rfl rfl ?_
      exact ⟨rfl, HC⟩
     ·try simp only [nm, ne_eq] at g23
      have hx3 : x.kind = 3 := by first | assumption | simp_all
      refine w_yes 17 64 false <| st_move (v := .slice _ _ _) rfl <| w_yes 17 64 false <| st_move (v := .slice _ _ _) rfl <| w_yes 17 64 false <| st_len (ct := #[23]) (by rw [show ((#[23] : Array TypeId)[0]?).bind Tryd.prog.underlying = some (.slice 28) from T.u23]; rfl) rfl <| w_yes 17 64 false <| st_subk rfl rfl (by exact hw2) ?_
      obtain ⟨lb30, _, vs29, hA26, hR28, hC27⟩ := hs0.at (i := l0.length) (x := x) (by rw [hl]; simp)
      obtain rfl : vs29 = [.int .i64 x.kind, S x.text, .int .i64 x.at_, S x.here, .bool x.raw] := hR28
      refine w_yes 17 64 false <| st_indexAddr T.u23 T.size28 (congrArg (fun z => Value.slice z _ _) hA26) rfl (by omega) (by omega) <| w_yes 17 64 false <| st_fieldAddr T.fld28_2 rfl <| w_yes 17 64 false <| st_load1 (v := .int _ _) T.one3 rfl (hC27.at (j := 2) rfl) <| w_yes 17 64 false <| st_move (v := S _) rfl <| w_yes 17 64 false <| st_slen (ct := #[9]) T.u9 rfl <| w_yes 17 64 false <| st_subk rfl rfl (by exact wrap64_id (by first | omega | assumption) (by first | omega | assumption)) <| w_yes 17 64 false <| st_neq rfl rfl <| pF rfl rfl <| en <| x_cond rfl (fun h1 => ?_) (fun h1 => ?_)
      ·try simp only [nm, ne_eq] at h1
       refine sr rfl <| Wp rfl <| st_call (ags := []) rfl rfl T.ent8 rfl (awake15_spec _ hmx ht) ?_
       rintro _ w31 ⟨rfl, c32⟩
       replace HC := HC.then c32
       replace ht := ht.tr0 c32
       replace hmx := hmx.tr0 c32
       replace hs0 := hs0.tr0 c32
       replace hs1 := hs1.tr0 c32
       replace hs2 := hs2.tr0 c32
       refine aB rfl <| en <| x_ret <| then_r <| ret_tmp (v := .bool _) rfl rfl ?_
       exact ⟨rfl, HC⟩
      ·try simp only [nm, ne_eq] at h1
       have hxa : x.at_ = s.length - 1 := by first | assumption | simp_all
       have hl2 := hl
       refine x_skip <| then_n <| x_seq <| sr rfl <| mL rfl <| Wp rfl <| st_len (ct := #[23]) (by rw [show ((#[23] : Array TypeId)[0]?).bind Tryd.prog.underlying = some (.slice 28) from T.u23]; rfl) rfl <| mI rfl <| en <| x_block <| x_loop (ι := Nat) [4, 15, 80, 81, 82, 83, 84, 85, 86, 87, 88, 89, 90, 91, 92, 93, 94, 95, 96, 97, 98] (fun i => [(80, .int .i64 (i : Int))]) (fun i W => (i ≤ La.length ∧ ∀ j y, La[j]? = some y → j < i → ¬ (y.kind = 2 ∧ (y.text = [60, 60] ∨ y.text = [60, 60, 45]))) ∧ (Chg [] w W) ∧ (Tab W) ∧ (MaxT W) ∧ (Sl tok5E W (fun k => w.heap.size ≤ k) A0 La) ∧ (Sl tok5E W (fun k => w6.heap.size ≤ k) A1 Lb) ∧ (Sl tok5E W (fun k => w8.heap.size ≤ k) A2 Lc)) (fun i => La.length - i) 0 ?_ ?_ ?_
       · exact ⟨rfl, trivial⟩
       ·refine ⟨?_, HC, ht, hmx, hs0, hs1, hs2⟩
        exact ⟨Nat.zero_le _, fun j y _ h => absurd h (Nat.not_lt_zero j)⟩
       intro i G34 w33 ⟨⟨hi, hq⟩, HC, ht, hmx, hs0, hs1, hs2⟩
       change wp _ _ _ _ _ (upds (over _ _ G34) [(80, .int .i64 (i : Int))]) _ _
       refine sr rfl <| Wp rfl <| st_lss rfl rfl <| en <| x_seq <| x_cond rfl (fun h2 => ?_) (fun h2 => ?_)
       ·try simp only [nm, ne_eq] at h2
        refine x_skip <| then_n <| x_seq <| x_block <| sr rfl ?_
        obtain ⟨y, hx35⟩ : ∃ zz, La[i]? = some zz := ⟨_, List.getElem?_eq_getElem (by omega)⟩
        obtain ⟨lb40, _, vs39, hA36, hR38, hC37⟩ := hs0.at hx35
        obtain rfl : vs39 = [.int .i64 y.kind, S y.text, .int .i64 y.at_, S y.here, .bool y.raw] := hR38
        refine Wp rfl <| st_indexAddr T.u23 T.size28 (congrArg (fun z => Value.slice z _ _) hA36) rfl (by omega) (by omega) <| Wp rfl <| st_loadA (vs := [_, _, _, _, _]) T.agg28 rfl hC37 rfl <| Wp rfl <| st_alloc T.zero28 ?_
        intro b41 w42 e43 c44 hb45
        have ge_b41 : w.heap.size ≤ b41 := by rw [e43]; exact HC.size
        have nf_hs0_b41 : La = [] ∨ b41 ∉ ob (A0) := hs0.fresh (by rw [e43]; exact Nat.le_refl _)
        have nf_hs1_b41 : Lb = [] ∨ b41 ∉ ob (A1) := hs1.fresh (by rw [e43]; exact Nat.le_refl _)
        have nf_hs2_b41 : Lc = [] ∨ b41 ∉ ob (A2) := hs2.fresh (by rw [e43]; exact Nat.le_refl _)
        replace HC := HC.then c44
        replace ht := ht.tr0 c44
        replace hmx := hmx.tr0 c44
        replace hs0 := hs0.tr0 c44
        replace hs1 := hs1.tr0 c44
        replace hs2 := hs2.tr0 c44
        clear e43
        refine Wp rfl <| st_store (v := .agg ⟨[.int _ _, S _, .int _ _, S _, .bool _]⟩) T.size28 rfl rfl rfl hb45 rfl (Nat.le_of_ble_eq_true rfl) (by simp [Value.oneCell', S]) rfl ?_
        intro w46 c47 hb48; simp only [setVs, setV] at hb48
        clear hb45
        replace HC := HC.then1 c47 ge_b41
        replace ht := ht.tr c47 (by intro hx; have := ht.lt; have := ht1; simp only [List.mem_cons, List.mem_nil_iff, or_false] at hx; omega)
        replace hmx := hmx.tr c47 (by intro hx; simp only [List.mem_cons, List.mem_nil_iff, or_false] at hx; omega)
        replace hs0 := hs0.trF flat_flat c47 (by intro k hx; simp only [List.mem_singleton] at hx; subst hx; exact nf_hs0_b41)
        replace hs1 := hs1.trF flat_flat c47 (by intro k hx; simp only [List.mem_singleton] at hx; subst hx; exact nf_hs1_b41)
        replace hs2 := hs2.trF flat_flat c47 (by intro k hx; simp only [List.mem_singleton] at hx; subst hx; exact nf_hs2_b41)
        refine en <| sr rfl <| fa T.fld28_0 rfl <| lI T.one3 rfl (hb48.cell rfl) <| Wp rfl <| st_eql rfl rfl <| mB rfl <| w_split (d := 87) rfl (fun g49 => ?_) (fun g49 => ?_)
        ·try simp only [nm, ne_eq] at g49
         refine w_yes 3 87 true <| st_fieldAddr T.fld28_1 rfl <| w_yes 3 87 true <| st_load1 (v := S _) T.one9 rfl (hb48.cell rfl) <| w_yes 3 87 true <| st_seql rfl rfl <| w_yes 3 87 true <| st_move (v := .bool _) rfl <| w_split (d := 91) rfl (fun g50 => ?_) (fun g50 => ?_)
         ·try simp only [nm, ne_eq] at g50
          iterate 3 refine w_no 7 91 false ?_
          refine w_yes 3 87 true <| st_pick (b := true) (v := .bool _) rfl rfl <| pT rfl rfl <| en <| x_cond (t := true) rfl (fun h3 => ?_) (fun h3 => ?_)
          rotate_left
          · exact absurd h3 (by decide)
          refine sr rfl <| Wp rfl <| st_call (ags := []) rfl rfl T.ent8 rfl (awake15_spec _ hmx ht) ?_
          rintro _ w51 ⟨rfl, c52⟩
          replace HC := HC.then c52
          replace ht := ht.tr0 c52
          replace hmx := hmx.tr0 c52
          replace hs0 := hs0.tr0 c52
          replace hs1 := hs1.tr0 c52
          replace hs2 := hs2.tr0 c52
          replace hb48 := hb48.tr0 c52
          refine aB rfl <| en <| x_ret <| block_r <| then_r <| then_r <| block_r <| then_r <| ret_tmp (v := .bool _) rfl rfl ?_
          exact ⟨rfl, HC⟩
         ·try simp only [nm, ne_eq] at g50
          refine w_yes 7 91 false <| st_fieldAddr T.fld28_1 rfl <| w_yes 7 91 false <| st_load1 (v := S _) T.one9 rfl (hb48.cell rfl) <| w_yes 7 91 false <| st_seql rfl rfl <| w_yes 3 87 true <| st_pick (b := false) (v := .bool _) rfl rfl <| pT rfl rfl <| en <| x_cond rfl (fun h3 => ?_) (fun h3 => ?_)
          ·try simp only [nm, ne_eq] at h3
           refine sr rfl <| Wp rfl <| st_call (ags := []) rfl rfl T.ent8 rfl (awake15_spec _ hmx ht) ?_
           rintro _ w53 ⟨rfl, c54⟩
           replace HC := HC.then c54
           replace ht := ht.tr0 c54
           replace hmx := hmx.tr0 c54
           replace hs0 := hs0.tr0 c54
           replace hs1 := hs1.tr0 c54
           replace hs2 := hs2.tr0 c54
           replace hb48 := hb48.tr0 c54
           refine aB rfl <| en <| x_ret <| block_r <| then_r <| then_r <| block_r <| then_r <| ret_tmp (v := .bool _) rfl rfl ?_
           exact ⟨rfl, HC⟩
          ·try simp only [nm, ne_eq] at h3
           have hny : ¬ (y.kind = 2 ∧ (y.text = [60, 60] ∨ y.text = [60, 60, 45])) := by rintro ⟨q1, q2 | q2⟩ <;> simp_all
           refine x_skip <| block_n <| then_n <| x_region rfl <| Wp rfl <| st_addn rfl rfl (by constructor <;> omega) <| mI rfl <| en <| ⟨i + 1, ?_, ?_, rfl, ⟨rfl, trivial⟩, ?_⟩
           ·refine ⟨?_, HC, ht, hmx, hs0, hs1, hs2⟩
            exact ⟨by omega, fun j z hz hj => (Nat.lt_succ_iff_lt_or_eq.1 hj).elim (hq j z hz) (fun e => by subst e; rw [Option.some.inj (hz.symm.trans hx35)]; exact hny)⟩
           ·show La.length - (i + 1) < La.length - i; omega
           repeat (first | exact agree_upds agree_over rfl | refine agree_upd ?_ rfl | refine agree_upds ?_ rfl | refine agree_over_sub ?_ rfl)
        ·try simp only [nm, ne_eq] at g49
         iterate 4 refine w_no 3 87 true ?_
         iterate 3 refine w_no 7 91 false ?_
         refine w_no 3 87 true <| pF rfl rfl <| en <| x_cond (t := false) rfl (fun h3 => ?_) (fun h3 => ?_)
         · exact absurd h3 (by decide)
         have hny : ¬ (y.kind = 2 ∧ (y.text = [60, 60] ∨ y.text = [60, 60, 45])) := by rintro ⟨q1, q2 | q2⟩ <;> simp_all
         refine x_skip <| block_n <| then_n <| x_region rfl <| Wp rfl <| st_addn rfl rfl (by constructor <;> omega) <| mI rfl <| en <| ⟨i + 1, ?_, ?_, rfl, ⟨rfl, trivial⟩, ?_⟩
         ·refine ⟨?_, HC, ht, hmx, hs0, hs1, hs2⟩
          exact ⟨by omega, fun j z hz hj => (Nat.lt_succ_iff_lt_or_eq.1 hj).elim (hq j z hz) (fun e => by subst e; rw [Option.some.inj (hz.symm.trans hx35)]; exact hny)⟩
         ·show La.length - (i + 1) < La.length - i; omega
         repeat (first | exact agree_upds agree_over rfl | refine agree_upd ?_ rfl | refine agree_upds ?_ rfl | refine agree_over_sub ?_ rfl)
       ·try simp only [nm, ne_eq] at h2
        have hqa : ∀ y, y ∈ La → ¬ (y.kind = 2 ∧ (y.text = [60, 60] ∨ y.text = [60, 60, 45])) := fun y hy => by obtain ⟨j, hj, rfl⟩ := List.getElem_of_mem hy; exact hq j _ (List.getElem?_eq_getElem hj) (by omega)
        have hcc := tokens_two hs3 ht3 (by rw [hEa]; exact he0) (hLa.trans hl) hx3 hxa (by rw [hLa]; exact hqa)
        rw [hEb, hLb] at hcc
        have hEE : Eb = Ec := by rw [← hEc, hcc]; split; rfl; (rename_i h9; simpa using h9)
        refine x_exit <| then_x <| then_x <| block_x <| then_n <| x_seq <| sr rfl <| mI rfl <| mI rfl <| Wp rfl <| st_neq rfl rfl <| en <| x_cond rfl (fun h4 => ?_) (fun h4 => ?_)
        ·try simp only [nm, ne_eq] at h4
         exact absurd hEE (by first | assumption | simp_all)
        ·try simp only [nm, ne_eq] at h4
         refine x_skip <| then_n <| x_seq <| sr rfl <| mI rfl <| Wp rfl <| st_neq rfl rfl <| en <| x_cond rfl (fun h5 => ?_) (fun h5 => ?_)
         ·try simp only [nm, ne_eq] at h5
          refine sr rfl <| Wp rfl <| st_call (ags := []) rfl rfl T.ent8 rfl (awake15_spec _ hmx ht) ?_
          rintro _ w55 ⟨rfl, c56⟩
          replace HC := HC.then c56
          replace ht := ht.tr0 c56
          replace hmx := hmx.tr0 c56
          replace hs0 := hs0.tr0 c56
          replace hs1 := hs1.tr0 c56
          replace hs2 := hs2.tr0 c56
          refine aB rfl <| en <| x_ret <| then_r <| ret_tmp (v := .bool _) rfl rfl ?_
          exact ⟨rfl, HC⟩
         ·try simp only [nm, ne_eq] at h5
          have hb0 : Eb = 0 := by first | assumption | simp_all
          rw [if_neg (by rw [hb0]; simp)] at hcc
          have hLc2 : Lc = (l0 ++ [x]) ++ Lb.map (shT s.length) := by rw [← hLc, hcc]
          have hlc : Lc.length = l0.length + 1 + Lb.length := by rw [hLc2, List.length_append, List.length_append, List.length_map]; rfl
          have hGb := (hgb.resolve_left (fun h => h.1 (hEb.trans hb0))).2
          rw [hLb] at hGb
          have hx1 : (l0 ++ [x]).length = l0.length + 1 := by simp
          have htc : Lc.take (l0.length + 1) = La.take (l0.length + 1) := by rw [hLc2, hl, show l0 ++ [x, e9] = (l0 ++ [x]) ++ [e9] by simp, ← hx1, List.take_left, List.take_left]
          refine x_skip <| then_n <| x_seq <| x_seq <| x_draw [(0, 0), (1, 0), (2, 0), (3, 0), (4, 0), (5, 0), (6, 0), (7, 0), (8, 0), (9, 0), (10, 0), (11, 0), (12, 0), (13, 0), (14, 0), (15, 0), (16, 0), (17, 0), (18, 0), (19, 0), (20, 1), (21, 0), (22, 0)] T.mixed rfl rfl rfl (fun _ => True) trivial ?_
          have c58 := Chg.drew w33
          generalize World.drew w33 = w57 at c58 ⊢
          replace HC := HC.then c58
          replace ht := ht.tr0 c58
          replace hmx := hmx.tr0 c58
          replace hs0 := hs0.tr0 c58
          replace hs1 := hs1.tr0 c58
          replace hs2 := hs2.tr0 c58
          refine sq_q rfl (fun W hT => r_move (v := .slice _ _ _) rfl) <| sq_q rfl (fun W hT => r_len (ct := #[23]) (by rw [show ((#[23] : Array TypeId)[0]?).bind Tryd.prog.underlying = some (.slice 28) from T.u23]; rfl) rfl) <| sq_q rfl (fun W hT => r_move (v := .slice _ _ _) rfl) <| sq_q rfl (fun W hT => r_len (ct := #[23]) (by rw [show ((#[23] : Array TypeId)[0]?).bind Tryd.prog.underlying = some (.slice 28) from T.u23]; rfl) rfl) <| sq_q rfl (fun W hT => r_subk rfl rfl (by exact hw1)) <| sq_q rfl (fun W hT => r_move (v := .slice _ _ _) rfl) <| sq_q rfl (fun W hT => r_len (ct := #[23]) (by rw [show ((#[23] : Array TypeId)[0]?).bind Tryd.prog.underlying = some (.slice 28) from T.u23]; rfl) rfl) <| sq_q rfl (fun W hT => r_addk rfl rfl (by exact wrap64_id (by first | omega | assumption) (by first | omega | assumption))) <| sq_q rfl (fun W hT => r_neq rfl rfl) <| sq_q rfl (fun W hT => r_move (v := .bool _) rfl) <| sq_split (d := 114) rfl (fun g59 => ?_) (fun g59 => ?_)
          ·try simp only [nm, ne_eq] at g59
           exfalso; omega
          ·try simp only [nm, ne_eq] at g59
           refine sq_q rfl (fun W hT => r_move (v := .slice _ _ _) rfl) <| sq_q rfl (fun W hT => r_move (v := .slice _ _ _) rfl) <| sq_q rfl (fun W hT => r_len (ct := #[23]) (by rw [show ((#[23] : Array TypeId)[0]?).bind Tryd.prog.underlying = some (.slice 28) from T.u23]; rfl) rfl) <| sq_q rfl (fun W hT => r_subk rfl rfl (by exact hw1)) <| sq_q rfl (fun W hT => r_cut (xs := Lc) (j := l0.length + 1) T.u23 T.size28 rfl ⟨_, rfl⟩ (by omega) (by omega)) <| sq_q rfl (fun W hT => r_move (v := .slice _ _ _) rfl) <| sq_q rfl (fun W hT => r_move (v := .slice _ _ _) rfl) <| sq_q rfl (fun W hT => r_len (ct := #[23]) (by rw [show ((#[23] : Array TypeId)[0]?).bind Tryd.prog.underlying = some (.slice 28) from T.u23]; rfl) rfl) <| sq_q rfl (fun W hT => r_subk rfl rfl (by exact hw1)) <| sq_q rfl (fun W hT => r_cut (xs := La) (j := l0.length + 1) T.u23 T.size28 rfl ⟨_, rfl⟩ (by omega) (by omega)) <| sq_call1 rfl (r_call (ags := [_, _]) rfl rfl T.ent11 rfl) (TSame_spec (a := Lc.take (l0.length + 1)) (b := La.take (l0.length + 1)) (hs2.take _) (hs0.take _) (by rw [List.length_take]; omega)) ?_
           rintro _ w60 ⟨rfl, c61⟩
           replace HC := HC.then c61
           replace ht := ht.tr0 c61
           replace hmx := hmx.tr0 c61
           replace hs0 := hs0.tr0 c61
           replace hs1 := hs1.tr0 c61
           replace hs2 := hs2.tr0 c61
           refine ⟨_, fun _ h => h, trivial, ?_⟩
           refine sq_q rfl (fun W hT => r_not rfl) <| sq_q rfl (fun W hT => r_pick (b := false) (v := .bool _) rfl rfl) <| sq_nil <| then_n <| x_cond rfl (fun h6 => ?_) (fun h6 => ?_)
           ·try simp only [nm, ne_eq] at h6
            exfalso; rw [htc] at h6; simp at h6
           ·try simp only [nm, ne_eq] at h6
            refine x_skip <| then_n <| x_seq <| sr rfl <| mL rfl <| Wp rfl <| st_len (ct := #[23]) (by rw [show ((#[23] : Array TypeId)[0]?).bind Tryd.prog.underlying = some (.slice 28) from T.u23]; rfl) rfl <| mI rfl <| en <| x_block <| x_loop (ι := Nat) [4, 16, 17, 130, 131, 132, 133, 134, 135, 136, 137, 138, 139, 140, 141, 142, 143, 144, 145, 146, 147, 148, 149, 150, 151] (fun k => [(130, .int .i64 (k : Int))]) (fun k W => (k ≤ Lb.length) ∧ (Chg [] w W) ∧ (Tab W) ∧ (MaxT W) ∧ (Sl tok5E W (fun k => w.heap.size ≤ k) A0 La) ∧ (Sl tok5E W (fun k => w6.heap.size ≤ k) A1 Lb) ∧ (Sl tok5E W (fun k => w8.heap.size ≤ k) A2 Lc)) (fun k => Lb.length - k) 0 ?_ ?_ ?_
            · exact ⟨rfl, trivial⟩
            ·refine ⟨?_, HC, ht, hmx, hs0, hs1, hs2⟩
             exact Nat.zero_le _
            intro k G63 w62 ⟨hk, HC, ht, hmx, hs0, hs1, hs2⟩
            change wp _ _ _ _ _ (upds (over _ _ G63) [(130, .int .i64 (k : Int))]) _ _
            refine sr rfl <| Wp rfl <| st_lss rfl rfl <| en <| x_seq <| x_cond rfl (fun h7 => ?_) (fun h7 => ?_)
            ·try simp only [nm, ne_eq] at h7
             refine x_skip <| then_n <| x_seq <| x_block <| sr rfl <| mI rfl ?_
             obtain ⟨y, hx64⟩ : ∃ zz, Lb[k]? = some zz := ⟨_, List.getElem?_eq_getElem (by omega)⟩
             obtain ⟨lb69, _, vs68, hA65, hR67, hC66⟩ := hs1.at hx64
             obtain rfl : vs68 = [.int .i64 y.kind, S y.text, .int .i64 y.at_, S y.here, .bool y.raw] := hR67
             refine Wp rfl <| st_indexAddr T.u23 T.size28 (congrArg (fun z => Value.slice z _ _) hA65) rfl (by omega) (by omega) <| Wp rfl <| st_loadA (vs := [_, _, _, _, _]) T.agg28 rfl hC66 rfl <| Wp rfl <| st_alloc T.zero28 ?_
             intro b17 w70 e71 c72 hb73
             have ge_b17 : w.heap.size ≤ b17 := by rw [e71]; exact HC.size
             have nf_hs0_b17 : La = [] ∨ b17 ∉ ob (A0) := hs0.fresh (by rw [e71]; exact Nat.le_refl _)
             have nf_hs1_b17 : Lb = [] ∨ b17 ∉ ob (A1) := hs1.fresh (by rw [e71]; exact Nat.le_refl _)
             have nf_hs2_b17 : Lc = [] ∨ b17 ∉ ob (A2) := hs2.fresh (by rw [e71]; exact Nat.le_refl _)
             replace HC := HC.then c72
             replace ht := ht.tr0 c72
             replace hmx := hmx.tr0 c72
             replace hs0 := hs0.tr0 c72
             replace hs1 := hs1.tr0 c72
             replace hs2 := hs2.tr0 c72
             clear e71
             refine aI rfl <| Wp rfl <| st_store (v := .agg ⟨[.int _ _, S _, .int _ _, S _, .bool _]⟩) T.size28 rfl rfl rfl hb73 rfl (Nat.le_of_ble_eq_true rfl) (by simp [Value.oneCell', S]) rfl ?_
             intro w74 c75 hb76; simp only [setVs, setV] at hb76
             clear hb73
             replace HC := HC.then1 c75 ge_b17
             replace ht := ht.tr c75 (by intro hx; have := ht.lt; have := ht1; simp only [List.mem_cons, List.mem_nil_iff, or_false] at hx; omega)
             replace hmx := hmx.tr c75 (by intro hx; simp only [List.mem_cons, List.mem_nil_iff, or_false] at hx; omega)
             replace hs0 := hs0.trF flat_flat c75 (by intro k hx; simp only [List.mem_singleton] at hx; subst hx; exact nf_hs0_b17)
             replace hs1 := hs1.trF flat_flat c75 (by intro k hx; simp only [List.mem_singleton] at hx; subst hx; exact nf_hs1_b17)
             replace hs2 := hs2.trF flat_flat c75 (by intro k hx; simp only [List.mem_singleton] at hx; subst hx; exact nf_hs2_b17)
             refine en <| x_seq ?_
             have gb := hGb.at_ k _ hx64
             have hkc : Lc[l0.length + 1 + k]? = some (shT s.length y) := by rw [hLc2, List.getElem?_append_right (by simp), show l0.length + 1 + k - (l0 ++ [x]).length = k by simp, List.getElem?_map, hx64]; rfl
             refine x_region rfl <| fa T.fld28_2 rfl <| lI T.one3 rfl (hb76.cell rfl) <| mS rfl <| Wp rfl <| st_slen (ct := #[9]) T.u9 rfl <| Wp rfl <| st_addk rfl rfl (by exact wrap64_id (by first | omega | assumption) (by first | omega | assumption)) <| fa T.fld28_2 rfl <| Wp rfl <| st_store (v := .int _ _) T.size3 rfl rfl rfl hb76 rfl (Nat.le_of_ble_eq_true rfl) (by simp [Value.oneCell', S]) rfl ?_
             intro w77 c78 hb79; simp only [setVs, setV] at hb79
             clear hb76
             replace HC := HC.then1 c78 ge_b17
             replace ht := ht.tr c78 (by intro hx; have := ht.lt; have := ht1; simp only [List.mem_cons, List.mem_nil_iff, or_false] at hx; omega)
             replace hmx := hmx.tr c78 (by intro hx; simp only [List.mem_cons, List.mem_nil_iff, or_false] at hx; omega)
             replace hs0 := hs0.trF flat_flat c78 (by intro k hx; simp only [List.mem_singleton] at hx; subst hx; exact nf_hs0_b17)
             replace hs1 := hs1.trF flat_flat c78 (by intro k hx; simp only [List.mem_singleton] at hx; subst hx; exact nf_hs1_b17)
             replace hs2 := hs2.trF flat_flat c78 (by intro k hx; simp only [List.mem_singleton] at hx; subst hx; exact nf_hs2_b17)
             refine en <| x_seq ?_
             obtain ⟨lb84, _, vs83, hA80, hR82, hC81⟩ := hs2.at (i := (l0.length + 1 + k)) (x := (shT s.length y)) (hkc)
             obtain rfl : vs83 = [.int .i64 (shT s.length y).kind, S (shT s.length y).text, .int .i64 (shT s.length y).at_, S (shT s.length y).here, .bool (shT s.length y).raw] := hR82
             refine x_draw [(0, 0), (1, 0), (2, 0), (3, 0), (4, 0), (5, 0), (6, 0), (7, 0), (8, 0), (9, 0)] T.mixed rfl rfl rfl (fun W => W.heap[b17]? = w77.heap[b17]? ∧ W.heap[lb84]? = w77.heap[lb84]? ∧ True) ⟨rfl, rfl, trivial⟩ ?_
             have o87 := hb79
             have c86 := Chg.drew w77
             generalize World.drew w77 = w85 at c86 ⊢
             have ht_lb84 : lb84 < w85.heap.size ∧ w85.heap[lb84]? = w77.heap[lb84]? := ⟨Nat.lt_of_lt_of_le hC81.lt c86.size, c86.block lb84 hC81.lt (by simp)⟩
             replace HC := HC.then c86
             replace ht := ht.tr0 c86
             replace hmx := hmx.tr0 c86
             replace hs0 := hs0.tr0 c86
             replace hs1 := hs1.tr0 c86
             replace hs2 := hs2.tr0 c86
             replace hb79 := hb79.tr0 c86
             refine sq_q rfl (fun W hT => r_move (v := .slice _ _ _) rfl) <| sq_q rfl (fun W hT => r_move (v := .slice _ _ _) rfl) <| sq_q rfl (fun W hT => r_len (ct := #[23]) (by rw [show ((#[23] : Array TypeId)[0]?).bind Tryd.prog.underlying = some (.slice 28) from T.u23]; rfl) rfl) <| sq_q rfl (fun W hT => r_subk rfl rfl (by exact hw1)) <| sq_q rfl (fun W hT => r_move (v := .int _ _) rfl) <| sq_q rfl (fun W hT => r_addk rfl rfl (by exact (show IntKind.i64.wrap (((l0.length + 1 : Nat) : Int) + (k : Int)) = ((l0.length + 1 + k : Nat) : Int) by rw [wrap64_id (by omega) (by omega)]; omega))) <| sq_q rfl (fun W hT => r_indexAddr T.u23 T.size28 (congrArg (fun z => Value.slice z _ _) hA80) rfl (by omega) (by omega)) <| sq_q rfl (fun W hT => r_loadA (vs := [_, _, _, _, _]) T.agg28 rfl (Cells.tr hC81 hT.2.1) rfl) <| sq_q rfl (fun W hT => r_loadA (vs := [_, _, _, _, _]) T.agg28 rfl (Blk.cells (n := 5) (vs := [_, _, _, _, _]) (show Blk W b17 _ _ from hT.1.trans o87) rfl) rfl) <| sq_q rfl (fun W hT => r_aneq (va := [_, _, _, _, _]) (vb := [_, _, _, _, _]) T.eq28 rfl rfl rfl) ?_
             clear o87
             refine sq_nil <| then_n <| x_cond rfl (fun h8 => ?_) (fun h8 => ?_)
             ·try simp only [nm, ne_eq] at h8
              exfalso; simp [shT] at h8
             ·try simp only [nm, ne_eq] at h8
              refine x_skip <| block_n <| then_n <| x_region rfl <| Wp rfl <| st_addn rfl rfl (by constructor <;> omega) <| mI rfl <| en <| ⟨k + 1, ?_, ?_, rfl, ⟨rfl, trivial⟩, ?_⟩
              ·refine ⟨?_, HC, ht, hmx, hs0, hs1, hs2⟩
               exact (by omega)
              ·show Lb.length - (k + 1) < Lb.length - k; omega
              repeat (first | exact agree_upds agree_over rfl | refine agree_upd ?_ rfl | refine agree_upds ?_ rfl | refine agree_over_sub ?_ rfl)
            ·try simp only [nm, ne_eq] at h7
             refine x_exit <| then_x <| then_x <| block_x <| then_n <| sr rfl <| Wp rfl <| st_call (ags := []) rfl rfl T.ent8 rfl (awake15_spec _ hmx ht) ?_
             rintro _ w88 ⟨rfl, c89⟩
             replace HC := HC.then c89
             replace ht := ht.tr0 c89
             replace hmx := hmx.tr0 c89
             replace hs0 := hs0.tr0 c89
             replace hs1 := hs1.tr0 c89
             replace hs2 := hs2.tr0 c89
             refine aB rfl <| en <| x_ret <| ret_tmp (v := .bool _) rfl rfl ?_
             exact ⟨rfl, HC⟩

end Go.Proofs.YthggegbljpmecaaDoor.K
