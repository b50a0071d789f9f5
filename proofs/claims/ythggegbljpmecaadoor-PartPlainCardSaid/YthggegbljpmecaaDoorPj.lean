import Derived.Test.YthggegbljpmecaaDoorPh
import Derived.Test.YthggegbljpmecaaDoorKitX
set_option linter.unusedVariables false
set_option linter.unusedSimpArgs false
set_option autoImplicit false
set_option maxRecDepth 20000
namespace Go.Proofs.YthggegbljpmecaaDoor.K
open Go Go.Proofs Go.RowKit

theorem prt_same (x y : Prt) : (decide (x.kind = y.kind) && (decide (x.text = y.text) && (decide (x.name = y.name) && (decide (x.op = y.op) && (decide (x.word = y.word) && (x.quoted == y.quoted)))))) = decide (x = y) := by
  rw [show (x.quoted == y.quoted) = decide (x.quoted = y.quoted) from by cases x.quoted <;> cases y.quoted <;> rfl]
  cases x; cases y
  simp only [Prt.mk.injEq, Bool.decide_and]
theorem take_same {α : Type} {a b : List α} {i : Nat} {x y : α} (h : a.take i = b.take i) (hx : a[i]? = some x) (hy : b[i]? = some y) (he : x = y) : a.take (i + 1) = b.take (i + 1) := by
  rw [List.take_add_one, List.take_add_one, h, hx, hy, he]
theorem chunks_flat {α : Type} {sz : Nat} {f : α → List Value} {h1 h2 h3} {w : World} {D : Nat → Prop} : ∀ xs : List α, Chunks (Enc.flat sz f h1 h2 h3) w D xs (xs.flatMap f)
  | [] => .nil
  | x :: xs => by rw [List.flatMap_cons]; exact Chunks.cons rfl (chunks_flat xs)
theorem sl_lit {α : Type} {sz : Nat} {f : α → List Value} {h1 h2 h3} {w : World} {b : Nat} {T : TypeId} (xs : List α) (hm : xs.length ≤ 9223372036854775807) (h : Blk w b (xs.flatMap f) T) : Sl (Enc.flat sz f h1 h2 h3) w (fun k => k = b) (some ⟨b, 0, none⟩) xs :=
  (Own.of_blk (D := fun k => k = b) h rfl hm (chunks_flat xs)).sl

theorem RSame_spec {a b : List Prt} {Aa Ab : Option Addr} {capa capb : Nat} {D D2 : Nat → Prop} {w : World} (ha : Sl prtE w D Aa a) (hb : Sl prtE w D2 Ab b) (hla : a.length ≤ 9223372036854775807) :
    CallR Tryd.prog 15 #[.slice Aa a.length capa, .slice Ab b.length capb] w fun v w' => v = .bool (decide (a = b)) ∧ Chg [] w w' := by
 refine callR_of_wp (args := [_, _]) Tryd.func15 rfl (Nat.le_of_ble_eq_true rfl) ?_
 have HC : Chg [] w w := .refl _
 refine sr rfl <| aB rfl <| en <| x_seq <| sr rfl <| mL rfl <| Wp rfl <| st_len (ct := #[34]) (by rw [show ((#[34] : Array TypeId)[0]?).bind Tryd.prog.underlying = some (.slice 42) from T.u34]; rfl) rfl <| mL rfl <| Wp rfl <| st_len (ct := #[34]) (by rw [show ((#[34] : Array TypeId)[0]?).bind Tryd.prog.underlying = some (.slice 42) from T.u34]; rfl) rfl <| Wp rfl <| st_neq rfl rfl <| en <| x_cond rfl (fun h0 => ?_) (fun h0 => ?_)
 ·try simp only [nm, ne_eq] at h0
  refine sr rfl <| aB rfl <| en <| x_ret <| then_r <| ret_tmp (v := .bool _) rfl rfl <| ⟨?_, HC⟩
  rw [decide_eq_false (fun e => h0 (by rw [e]))]
 ·try simp only [nm, ne_eq] at h0
  have hll : a.length = b.length := by omega
  refine x_skip <| then_n <| x_seq <| sr rfl <| aI rfl <| en <| x_block <| x_loop (ι := Nat) [4, 5, 11, 12, 13, 14, 15, 16, 17, 18, 19, 20, 21, 22, 23, 24, 25] (fun i => [(5, .int .i64 (i : Int))]) (fun i W => (i ≤ a.length ∧ a.take i = b.take i) ∧ (Chg [] w W) ∧ (Sl prtE W D Aa a) ∧ (Sl prtE W D2 Ab b)) (fun i => a.length - i) 0 ?_ ?_ ?_
  · exact ⟨rfl, trivial⟩
  ·refine ⟨?_, HC, ha, hb⟩
   exact ⟨Nat.zero_le _, rfl⟩
  intro i G2 w1 ⟨⟨hi, ht⟩, HC, ha, hb⟩
  change wp _ _ _ _ _ (upds (over _ _ G2) [(5, .int .i64 (i : Int))]) _ _
  refine x_seq <| sr rfl <| mI rfl <| mL rfl <| Wp rfl <| st_len (ct := #[34]) (by rw [show ((#[34] : Array TypeId)[0]?).bind Tryd.prog.underlying = some (.slice 42) from T.u34]; rfl) rfl <| Wp rfl <| st_lss rfl rfl <| en <| x_cond rfl (fun h1 => ?_) (fun h1 => ?_)
  ·try simp only [nm, ne_eq] at h1
   refine x_skip <| then_n <| x_seq <| x_block <| x_seq ?_
   obtain ⟨x3, hx4⟩ : ∃ zz, a[i]? = some zz := ⟨_, List.getElem?_eq_getElem (by omega)⟩
   obtain ⟨lb9, _, vs8, hA5, hR7, hC6⟩ := ha.at hx4
   obtain rfl : vs8 = [.int .i64 x3.kind, S x3.text, S x3.name, S x3.op, S x3.word, .bool x3.quoted] := hR7
   obtain ⟨x10, hx11⟩ : ∃ zz, b[i]? = some zz := ⟨_, List.getElem?_eq_getElem (by omega)⟩
   obtain ⟨lb16, _, vs15, hA12, hR14, hC13⟩ := hb.at hx11
   obtain rfl : vs15 = [.int .i64 x10.kind, S x10.text, S x10.name, S x10.op, S x10.word, .bool x10.quoted] := hR14
   refine x_draw [(0, 0), (1, 0), (2, 0), (3, 0), (4, 0), (5, 0), (6, 0), (7, 0), (8, 0)] T.mixed rfl rfl rfl (fun W => W.heap[lb9]? = w1.heap[lb9]? ∧ W.heap[lb16]? = w1.heap[lb16]? ∧ True) ⟨rfl, rfl, trivial⟩ ?_
   have c18 := Chg.drew w1
   generalize World.drew w1 = w17 at c18 ⊢
   have ht_lb9 : lb9 < w17.heap.size ∧ w17.heap[lb9]? = w1.heap[lb9]? := ⟨Nat.lt_of_lt_of_le hC6.lt c18.size, c18.block lb9 hC6.lt (by simp)⟩
   have ht_lb16 : lb16 < w17.heap.size ∧ w17.heap[lb16]? = w1.heap[lb16]? := ⟨Nat.lt_of_lt_of_le hC13.lt c18.size, c18.block lb16 hC13.lt (by simp)⟩
   replace HC := HC.then c18
   replace ha := ha.tr0 c18
   replace hb := hb.tr0 c18
   refine sq_q rfl (fun W hT => r_move (v := .slice _ _ _) rfl) <| sq_q rfl (fun W hT => r_move (v := .int _ _) rfl) <| sq_q rfl (fun W hT => r_indexAddr T.u34 T.size42 (congrArg (fun z => Value.slice z _ _) hA5) rfl (by omega) (by omega)) <| sq_q rfl (fun W hT => r_loadA (vs := [_, _, _, _, _, _]) T.agg42 rfl (Cells.tr hC6 hT.1) rfl) <| sq_q rfl (fun W hT => r_move (v := .slice _ _ _) rfl) <| sq_q rfl (fun W hT => r_move (v := .int _ _) rfl) <| sq_q rfl (fun W hT => r_indexAddr T.u34 T.size42 (congrArg (fun z => Value.slice z _ _) hA12) rfl (by omega) (by omega)) <| sq_q rfl (fun W hT => r_loadA (vs := [_, _, _, _, _, _]) T.agg42 rfl (Cells.tr hC13 hT.2.1) rfl) <| sq_q rfl (fun W hT => r_aneq (va := [_, _, _, _, _, _]) (vb := [_, _, _, _, _, _]) T.eq42 rfl rfl rfl) <| sq_nil <| then_n <| x_cond rfl (fun h2 => ?_) (fun h2 => ?_)
   ·try simp only [nm, ne_eq] at h2
    rw [prt_same] at h2
    refine sr rfl <| aB rfl <| en <| x_ret <| block_r <| then_r <| then_r <| block_r <| then_r <| ret_tmp (v := .bool _) rfl rfl <| ⟨?_, HC⟩
    rw [decide_eq_false (fun e => by subst e; have := hx4.symm.trans hx11; exact absurd (Option.some.inj this) (of_decide_eq_false h2))]
   ·try simp only [nm, ne_eq] at h2
    rw [prt_same] at h2
    refine x_skip <| block_n <| then_n <| x_region rfl <| mI rfl <| Wp rfl <| st_addn rfl rfl (by constructor <;> omega) <| aI rfl <| en <| ⟨i + 1, ?_, ?_, rfl, ⟨rfl, trivial⟩, ?_⟩
    ·refine ⟨?_, HC, ha, hb⟩
     exact ⟨by omega, take_same ht hx4 hx11 (of_decide_eq_true h2)⟩
    ·show a.length - (i + 1) < a.length - i; omega
    repeat (first | exact agree_upds agree_over rfl | refine agree_upd ?_ rfl | refine agree_upds ?_ rfl | refine agree_over_sub ?_ rfl)
  ·try simp only [nm, ne_eq] at h1
   refine x_exit <| then_x <| then_x <| block_x <| then_n <| sr rfl <| aB rfl <| en <| x_ret <| ret_tmp (v := .bool _) rfl rfl <| ⟨?_, HC⟩
   rw [decide_eq_true (by rw [List.take_of_length_le (by omega), List.take_of_length_le (by omega)] at ht; exact ht)]

def aw0 : Bytes := [97, 34, 36, 120, 34, 39, 98, 39]
def awP0 : List Prt := [⟨0, [97], [], [], [], false⟩, ⟨1, [], [120], [], [], true⟩, ⟨0, [98], [], [], [], true⟩]
theorem aw0_eq : parsV 0 aw0 = (awP0, 0) := by kernel_rfl

def aw1 : Bytes := [36, 123, 120, 58, 45, 121, 32, 122, 125]
def awP1 : List Prt := [⟨1, [], [120], [58, 45], [121, 32, 122], false⟩]
theorem aw1_eq : parsV 0 aw1 = (awP1, 0) := by kernel_rfl

def aw2 : Bytes := [36, 123, 35, 120, 125]
def awP2 : List Prt := [⟨1, [], [120], [108, 101, 110], [], false⟩]
theorem aw2_eq : parsV 0 aw2 = (awP2, 0) := by kernel_rfl

def aw3 : Bytes := [36, 123, 120, 33, 125]
def awP3 : List Prt := []
theorem aw3_eq : parsV 0 aw3 = (awP3, 107) := by kernel_rfl

theorem awake_spec (w : World) (ht : Tab w) : CallR Tryd.prog 12 #[] w fun v w' => v = .bool true ∧ Chg [] w w' := by
 refine callR_of_wp (args := []) Tryd.func12 rfl (Nat.le_of_ble_eq_true rfl) ?_
 have HC : Chg [] w w := .refl _
 have ht1 := ht.lt
 refine sr rfl <| aB rfl <| en <| sr rfl <| Wp rfl <| st_call (ags := [_, _]) rfl rfl T.ent13 rfl (Parse_spec 0 aw0 _ (by decide) ht) ?_
 have sz1_hs0 := HC.size
 rintro _ w1 ⟨A0, cap0, rfl, hs0, c2⟩
 rw [aw0_eq] at hs0 ⊢
 replace HC := HC.then c2
 replace ht := ht.tr0 c2
 refine mv (v := .tuple ⟨[_, _]⟩) rfl <| Wp rfl <| st_extract (vs := [_, _]) (v := .slice _ _ _) rfl rfl <| Wp rfl <| st_extract (vs := [_, _]) (v := .int _ _) rfl rfl <| aL rfl <| aI rfl <| en <| sr rfl <| Wp rfl <| st_call (ags := [_, _]) rfl rfl T.ent13 rfl (Parse_spec 0 aw1 _ (by decide) ht) ?_
 have sz1_hs1 := HC.size
 rintro _ w3 ⟨A1, cap1, rfl, hs1, c4⟩
 rw [aw1_eq] at hs1 ⊢
 replace HC := HC.then c4
 replace ht := ht.tr0 c4
 replace hs0 := hs0.tr0 c4
 refine mv (v := .tuple ⟨[_, _]⟩) rfl <| Wp rfl <| st_extract (vs := [_, _]) (v := .slice _ _ _) rfl rfl <| Wp rfl <| st_extract (vs := [_, _]) (v := .int _ _) rfl rfl <| aL rfl <| aI rfl <| en <| sr rfl <| Wp rfl <| st_call (ags := [_, _]) rfl rfl T.ent13 rfl (Parse_spec 0 aw2 _ (by decide) ht) ?_
 have sz1_hs2 := HC.size
 rintro _ w5 ⟨A2, cap2, rfl, hs2, c6⟩
 rw [aw2_eq] at hs2 ⊢
 replace HC := HC.then c6
 replace ht := ht.tr0 c6
 replace hs0 := hs0.tr0 c6
 replace hs1 := hs1.tr0 c6
 refine mv (v := .tuple ⟨[_, _]⟩) rfl <| Wp rfl <| st_extract (vs := [_, _]) (v := .slice _ _ _) rfl rfl <| Wp rfl <| st_extract (vs := [_, _]) (v := .int _ _) rfl rfl <| aL rfl <| aI rfl <| en <| sr rfl <| Wp rfl <| st_call (ags := [_, _]) rfl rfl T.ent13 rfl (Parse_spec 0 aw3 _ (by decide) ht) ?_
 have sz1_hs3 := HC.size
 rintro _ w7 ⟨A3, cap3, rfl, hs3, c8⟩
 rw [aw3_eq] at hs3 ⊢
 replace HC := HC.then c8
 replace ht := ht.tr0 c8
 replace hs0 := hs0.tr0 c8
 replace hs1 := hs1.tr0 c8
 replace hs2 := hs2.tr0 c8
 refine mv (v := .tuple ⟨[_, _]⟩) rfl <| Wp rfl <| st_extract (vs := [_, _]) (v := .slice _ _ _) rfl rfl <| Wp rfl <| st_extract (vs := [_, _]) (v := .int _ _) rfl rfl <| aL rfl <| aI rfl <| en <| sr rfl <| mI rfl <| Wp rfl <| st_eql rfl rfl <| mB rfl <| w_split (d := 27) rfl (fun g9 => ?_) (fun g9 => ?_)
 ·try simp only [nm, ne_eq] at g9
  refine w_yes 2 27 true <| st_move (v := .slice _ _ _) rfl <| w_yes 2 27 true <| st_bld (ps := [(1, .const (S [97]))]) (vs := [.int _ _, S _, S _, S _, S _, .bool _]) T.bld42 rfl <| w_yes 2 27 true <| st_bld (ps := [(0, .const (.int .i64 1)), (2, .const (S [120])), (5, .const (.bool true))]) (vs := [.int _ _, S _, S _, S _, S _, .bool _]) T.bld42 rfl <| w_yes 2 27 true <| st_bld (ps := [(1, .const (S [98])), (5, .const (.bool true))]) (vs := [.int _ _, S _, S _, S _, S _, .bool _]) T.bld42 rfl <| w_yes 2 27 true <| st_lit (ps := [(0, .tmp 29), (1, .tmp 30), (2, .tmp 31)]) (vs := [.int _ _, S _, S _, S _, S _, .bool _, .int _ _, S _, S _, S _, S _, .bool _, .int _ _, S _, S _, S _, S _, .bool _]) T.lit34 (by decide) rfl (by simp only [List.forall_mem_cons, List.not_mem_nil, false_imp_iff, implies_true, and_true]; exact ⟨rfl, rfl, rfl⟩) rfl ?_
  intro b10 w11 e12 c13 hb14
  have ge_b10 : w.heap.size ≤ b10 := by rw [e12]; exact HC.size
  replace HC := HC.then c13
  replace ht := ht.tr0 c13
  replace hs0 := hs0.tr0 c13
  replace hs1 := hs1.tr0 c13
  replace hs2 := hs2.tr0 c13
  replace hs3 := hs3.tr0 c13
  clear e12
  refine w_yes 2 27 true <| st_call (ags := [_, _]) rfl rfl T.ent15 rfl (RSame_spec (a := awP0) (b := awP0) hs0 (sl_lit awP0 (by decide) (show Blk _ _ (awP0.flatMap prtC) 42 from hb14)) (by decide)) ?_
  rintro _ w15 ⟨rfl, c16⟩
  replace HC := HC.then c16
  replace ht := ht.tr0 c16
  replace hs0 := hs0.tr0 c16
  replace hs1 := hs1.tr0 c16
  replace hs2 := hs2.tr0 c16
  replace hs3 := hs3.tr0 c16
  replace hb14 := hb14.tr0 c16
  refine pT rfl rfl <| mB rfl <| w_split (d := 35) rfl (fun g17 => ?_) (fun g17 => ?_)
  ·try simp only [nm, ne_eq] at g17
   refine w_yes 10 35 true <| st_move (v := .int _ _) rfl <| w_yes 10 35 true <| st_eql rfl rfl <| pT rfl rfl <| mB rfl <| w_split (d := 39) rfl (fun g18 => ?_) (fun g18 => ?_)
   ·try simp only [nm, ne_eq] at g18
    refine w_yes 14 39 true <| st_move (v := .slice _ _ _) rfl <| w_yes 14 39 true <| st_len (ct := #[34]) (by rw [show ((#[34] : Array TypeId)[0]?).bind Tryd.prog.underlying = some (.slice 42) from T.u34]; rfl) rfl <| w_yes 14 39 true <| st_eql rfl rfl <| pT rfl rfl <| mB rfl <| w_split (d := 44) rfl (fun g19 => ?_) (fun g19 => ?_)
    ·try simp only [nm, ne_eq] at g19
     refine w_yes 19 44 true <| st_move (v := .slice _ _ _) rfl ?_
     obtain ⟨lb24, _, vs23, hA20, hR22, hC21⟩ := hs1.at (i := 0) (x := (⟨1, [], [120], [58, 45], [121, 32, 122], false⟩ : Prt)) (rfl)
     obtain rfl : vs23 = [.int .i64 (⟨1, [], [120], [58, 45], [121, 32, 122], false⟩ : Prt).kind, S (⟨1, [], [120], [58, 45], [121, 32, 122], false⟩ : Prt).text, S (⟨1, [], [120], [58, 45], [121, 32, 122], false⟩ : Prt).name, S (⟨1, [], [120], [58, 45], [121, 32, 122], false⟩ : Prt).op, S (⟨1, [], [120], [58, 45], [121, 32, 122], false⟩ : Prt).word, .bool (⟨1, [], [120], [58, 45], [121, 32, 122], false⟩ : Prt).quoted] := hR22
     refine w_yes 19 44 true <| st_indexAddr T.u34 T.size42 (congrArg (fun z => Value.slice z _ _) hA20) rfl (by decide) (by decide) <| w_yes 19 44 true <| st_fieldAddr T.fld42_3 rfl <| w_yes 19 44 true <| st_load1 (v := S _) T.one9 rfl (hC21.at (j := 3) rfl) <| w_yes 19 44 true <| st_seql rfl rfl <| pT rfl rfl <| mB rfl <| w_split (d := 51) rfl (fun g25 => ?_) (fun g25 => ?_)
     ·try simp only [nm, ne_eq] at g25
      refine w_yes 26 51 true <| st_move (v := .slice _ _ _) rfl ?_
      obtain ⟨lb30, _, vs29, hA26, hR28, hC27⟩ := hs1.at (i := 0) (x := (⟨1, [], [120], [58, 45], [121, 32, 122], false⟩ : Prt)) (rfl)
      obtain rfl : vs29 = [.int .i64 (⟨1, [], [120], [58, 45], [121, 32, 122], false⟩ : Prt).kind, S (⟨1, [], [120], [58, 45], [121, 32, 122], false⟩ : Prt).text, S (⟨1, [], [120], [58, 45], [121, 32, 122], false⟩ : Prt).name, S (⟨1, [], [120], [58, 45], [121, 32, 122], false⟩ : Prt).op, S (⟨1, [], [120], [58, 45], [121, 32, 122], false⟩ : Prt).word, .bool (⟨1, [], [120], [58, 45], [121, 32, 122], false⟩ : Prt).quoted] := hR28
      refine w_yes 26 51 true <| st_indexAddr T.u34 T.size42 (congrArg (fun z => Value.slice z _ _) hA26) rfl (by decide) (by decide) <| w_yes 26 51 true <| st_fieldAddr T.fld42_4 rfl <| w_yes 26 51 true <| st_load1 (v := S _) T.one9 rfl (hC27.at (j := 4) rfl) <| w_yes 26 51 true <| st_seql rfl rfl <| pT rfl rfl <| mB rfl <| w_split (d := 58) rfl (fun g31 => ?_) (fun g31 => ?_)
      ·try simp only [nm, ne_eq] at g31
       refine w_yes 33 58 true <| st_move (v := .int _ _) rfl <| w_yes 33 58 true <| st_eql rfl rfl <| pT rfl rfl <| mB rfl <| w_split (d := 62) rfl (fun g32 => ?_) (fun g32 => ?_)
       ·try simp only [nm, ne_eq] at g32
        refine w_yes 37 62 true <| st_move (v := .slice _ _ _) rfl <| w_yes 37 62 true <| st_len (ct := #[34]) (by rw [show ((#[34] : Array TypeId)[0]?).bind Tryd.prog.underlying = some (.slice 42) from T.u34]; rfl) rfl <| w_yes 37 62 true <| st_eql rfl rfl <| pT rfl rfl <| mB rfl <| w_split (d := 67) rfl (fun g33 => ?_) (fun g33 => ?_)
        ·try simp only [nm, ne_eq] at g33
         refine w_yes 42 67 true <| st_move (v := .slice _ _ _) rfl ?_
         obtain ⟨lb38, _, vs37, hA34, hR36, hC35⟩ := hs2.at (i := 0) (x := (⟨1, [], [120], [108, 101, 110], [], false⟩ : Prt)) (rfl)
         obtain rfl : vs37 = [.int .i64 (⟨1, [], [120], [108, 101, 110], [], false⟩ : Prt).kind, S (⟨1, [], [120], [108, 101, 110], [], false⟩ : Prt).text, S (⟨1, [], [120], [108, 101, 110], [], false⟩ : Prt).name, S (⟨1, [], [120], [108, 101, 110], [], false⟩ : Prt).op, S (⟨1, [], [120], [108, 101, 110], [], false⟩ : Prt).word, .bool (⟨1, [], [120], [108, 101, 110], [], false⟩ : Prt).quoted] := hR36
         refine w_yes 42 67 true <| st_indexAddr T.u34 T.size42 (congrArg (fun z => Value.slice z _ _) hA34) rfl (by decide) (by decide) <| w_yes 42 67 true <| st_fieldAddr T.fld42_3 rfl <| w_yes 42 67 true <| st_load1 (v := S _) T.one9 rfl (hC35.at (j := 3) rfl) <| w_yes 42 67 true <| st_seql rfl rfl <| pT rfl rfl <| mB rfl <| w_split (d := 74) rfl (fun g39 => ?_) (fun g39 => ?_)
         ·try simp only [nm, ne_eq] at g39
          refine w_yes 49 74 true <| st_move (v := .int _ _) rfl <| w_yes 49 74 true <| st_eql rfl rfl <| pT rfl rfl <| aB rfl <| en <| x_ret <| ret_tmp (v := .bool _) rfl rfl ?_
          exact ⟨rfl, HC⟩
         ·try simp only [nm, ne_eq] at g39
          first | exact absurd rfl g39 | exact absurd trivial g39 | (simp at g39; done) | exact absurd g39 (by decide)
        ·try simp only [nm, ne_eq] at g33
         first | exact absurd rfl g33 | exact absurd trivial g33 | (simp at g33; done) | exact absurd g33 (by decide)
       ·try simp only [nm, ne_eq] at g32
        first | exact absurd rfl g32 | exact absurd trivial g32 | (simp at g32; done) | exact absurd g32 (by decide)
      ·try simp only [nm, ne_eq] at g31
       first | exact absurd rfl g31 | exact absurd trivial g31 | (simp at g31; done) | exact absurd g31 (by decide)
     ·try simp only [nm, ne_eq] at g25
      first | exact absurd rfl g25 | exact absurd trivial g25 | (simp at g25; done) | exact absurd g25 (by decide)
    ·try simp only [nm, ne_eq] at g19
     first | exact absurd rfl g19 | exact absurd trivial g19 | (simp at g19; done) | exact absurd g19 (by decide)
   ·try simp only [nm, ne_eq] at g18
    first | exact absurd rfl g18 | exact absurd trivial g18 | (simp at g18; done) | exact absurd g18 (by decide)
  ·try simp only [nm, ne_eq] at g17
   first | exact absurd rfl g17 | exact absurd trivial g17 | (simp at g17; done) | exact absurd g17 (by decide)
 ·try simp only [nm, ne_eq] at g9
  first | exact absurd rfl g9 | exact absurd trivial g9 | (simp at g9; done) | exact absurd g9 (by decide)

end Go.Proofs.YthggegbljpmecaaDoor.K
set_option linter.unusedVariables false
set_option linter.unusedSimpArgs false
set_option autoImplicit false
set_option maxRecDepth 20000
namespace Go.Proofs.YthggegbljpmecaaDoor.K
open Go Go.RowKit

def plainB (c : UInt8) : Bool := !(c == 39 || c == 92 || c == 34 || c == 36 || c == 96)
theorem next_plain {pq : Bytes → List Prt × Int} {c : UInt8} {t : Bytes} (h : plainB c = true) : nextP pq 0 (c :: t) = ([txtP [c] false], 1, 0) := by
  simp only [plainB, Bool.not_eq_true', Bool.or_eq_false_iff, beq_eq_false_iff_ne, ne_eq] at h
  obtain ⟨⟨⟨⟨h1, h2⟩, h3⟩, h4⟩, h5⟩ := h
  have hb : byte (c :: t) 0 = c := rfl
  simp only [nextP, hb]
  rw [if_neg (by rintro ⟨h, _⟩; exact h2 h), if_pos ⟨h4, h5, .inr ⟨h1, h3, h2⟩⟩]
  rfl
theorem parts_plain {pq : Bytes → List Prt × Int} : ∀ (k : Nat) (s : Bytes), s.length ≤ k → (∀ c, c ∈ s → plainB c = true) → partsY pq 0 k s = s.map fun c => (txtP [c] false, 0)
  | 0, s, h, _ => by rw [show s = [] from List.length_eq_zero_iff.1 (by omega)]; rfl
  | k + 1, [], _, _ => by simp [partsY]
  | k + 1, c :: t, h, hp => by
    have h1 := next_plain (pq := pq) (t := t) (hp c (by simp))
    simp only [partsY, h1]
    rw [if_neg (by simp), if_neg (by simp)]
    simp only [List.drop_succ_cons, List.drop_zero, List.map_cons, List.map_nil, List.singleton_append]
    rw [parts_plain k t (by simp at h; omega) fun c hc => hp c (by simp [hc])]
theorem fold_plain : ∀ (s u : Bytes), foldY [txtP u false] (s.map fun c => (txtP [c] false, 0)) = ([txtP (u ++ s) false], 0)
  | [], u => by simp [foldY]
  | c :: t, u => by
    simp only [List.map_cons, foldY]
    rw [if_neg (by simp)]
    have h : addP [txtP u false] (txtP [c] false) = [txtP (u ++ [c]) false] := by simp [addP, txtP]
    rw [h, fold_plain t (u ++ [c])]; simp
theorem pars_plain {s : Bytes} (hs : s ≠ []) (hp : ∀ c, c ∈ s → plainB c = true) : parsV 0 s = ([txtP s false], 0) := by
  obtain ⟨c, t, rfl⟩ : ∃ c t, s = c :: t := by cases s with | nil => exact absurd rfl hs | cons c t => exact ⟨c, t, rfl⟩
  rw [parsV, if_neg (by omega), parts_plain _ _ (Nat.le_refl _) hp]
  simp only [List.map_cons, foldY]
  rw [if_neg (by simp)]
  exact fold_plain t [c]
theorem run_quote : ∀ (s t : Bytes), (∀ c, c ∈ s → c ≠ 39) → runL 39 false (s ++ 39 :: t) = some (s.length + 1)
  | [], t, _ => by cases t <;> simp [runL]
  | c :: u, t, h => by
    have h1 := run_quote u t fun c hc => h c (by simp [hc])
    have h2 : c ≠ 39 := h c (by simp)
    have h3 : ∃ d v, u ++ 39 :: t = d :: v := by cases u <;> simp
    obtain ⟨d, v, h3⟩ := h3
    rw [List.cons_append, h3]
    rw [h3] at h1
    simp only [runL, if_neg h2, Bool.false_and, Bool.false_eq_true, if_false, h1]
    simp
theorem next_quote {pq : Bytes → List Prt × Int} {s t : Bytes} (h : ∀ c, c ∈ s → c ≠ 39) : nextP pq 0 (39 :: (s ++ 39 :: t)) = ([txtP s true], s.length + 2, 0) := by
  have hb : byte (39 :: (s ++ 39 :: t)) 0 = 39 := rfl
  have hk : skipL 64 (39 :: (s ++ 39 :: t)) = .ok (s.length + 2) := by
    simp only [skipL]; rw [if_neg (by decide), if_pos trivial, run_quote s t h]; rfl
  simp only [nextP, hb]
  rw [if_neg (by simp), if_neg (by simp), hk]
  simp only []
  rw [if_neg (by decide), if_pos trivial]
  simp
theorem pars_quote {s : Bytes} (h : ∀ c, c ∈ s → c ≠ 39) : parsV 0 (39 :: (s ++ [39])) = ([txtP s true], 0) := by
  have h1 := next_quote (pq := parsQ 1) (t := []) h
  rw [parsV, if_neg (by omega)]
  have hl : (39 :: (s ++ [39])).length = (s.length + 1) + 1 := by simp
  rw [hl]
  simp only [partsY, h1]
  rw [if_neg (by simp), if_neg (by simp)]
  have h2 : (39 :: (s ++ [39])).drop (s.length + 2) = [] := List.drop_eq_nil_of_le (by simp)
  rw [h2]
  simp [partsY, foldY, addP]
end Go.Proofs.YthggegbljpmecaaDoor.K
set_option linter.unusedVariables false
set_option linter.unusedSimpArgs false
set_option autoImplicit false
set_option maxRecDepth 20000
namespace Go.Proofs.YthggegbljpmecaaDoor.K
open Go Go.Proofs Go.RowKit

theorem take_all {s : Bytes} {f : UInt8 → Bool} {i : Nat} (h : i < s.length) : (s.take (i + 1)).all f = ((s.take i).all f && f (byte s i)) := by
  have hb : byte s i = s[i] := by simp [byte, List.getD_eq_getElem?_getD, h]
  rw [List.take_add_one, List.getElem?_eq_getElem h, List.all_append, hb]
  simp only [Option.toList_some, List.all_cons, List.all_nil, Bool.and_true]
def noq (c : UInt8) : Bool := c != 39

theorem PartPlain_spec (s : Bytes) (w : World) (hs : s.length ≤ 140737488351232) (ht : Tab w) : CallR Tryd.prog 7 #[S s] w fun v w' => v = .bool true ∧ Chg [] w w' := by
 refine callR_of_wp (args := [_]) Tryd.func7 rfl (Nat.le_of_ble_eq_true rfl) ?_
 have HC : Chg [] w w := .refl _
 have ht1 := ht.lt
 refine sr rfl <| aB rfl <| en <| x_seq <| sr rfl <| mS rfl <| Wp rfl <| st_slen (ct := #[9]) T.u9 rfl <| Wp rfl <| st_gtr rfl rfl <| mB rfl <| w_split (d := 13) rfl (fun g1 => ?_) (fun g1 => ?_)
 ·try simp only [nm, ne_eq] at g1
  refine w_no 3 13 false <| w_no 3 13 false <| pT rfl rfl <| en <| x_cond (t := true) rfl (fun h0 => ?_) (fun h0 => ?_)
  rotate_left
  · exact absurd h0 (by decide)
  refine sr rfl <| Wp rfl <| st_call (ags := []) rfl rfl T.ent12 rfl (awake_spec _ ht) ?_
  rintro _ w2 ⟨rfl, c3⟩
  replace HC := HC.then c3
  replace ht := ht.tr0 c3
  refine aB rfl <| en <| x_ret <| then_r <| ret_tmp (v := .bool _) rfl rfl ?_
  exact ⟨rfl, HC⟩
 ·try simp only [nm, ne_eq] at g1
  refine w_yes 3 13 false <| st_move (v := S _) rfl <| w_yes 3 13 false <| st_seql rfl rfl <| pF rfl rfl <| en <| x_cond rfl (fun h0 => ?_) (fun h0 => ?_)
  ·try simp only [nm, ne_eq] at h0
   refine sr rfl <| Wp rfl <| st_call (ags := []) rfl rfl T.ent12 rfl (awake_spec _ ht) ?_
   rintro _ w4 ⟨rfl, c5⟩
   replace HC := HC.then c5
   replace ht := ht.tr0 c5
   refine aB rfl <| en <| x_ret <| then_r <| ret_tmp (v := .bool _) rfl rfl ?_
   exact ⟨rfl, HC⟩
  ·try simp only [nm, ne_eq] at h0
   have hne : s ≠ [] := by first | assumption | simp_all
   have hl3 : s.length ≤ 3000 := by first | omega | simp_all
   refine x_skip <| then_n <| sr rfl <| aB rfl <| aB rfl <| en <| x_seq <| sr rfl <| aI rfl <| en <| x_block <| x_loop (ι := Nat) [3, 4, 5, 18, 19, 20, 21, 22, 23, 24, 25, 26, 27, 28, 29, 30, 31, 32, 33] (fun i => [(3, .bool ((s.take i).all plainB)), (4, .bool ((s.take i).all noq)), (5, .int .i64 (i : Int))]) (fun i W => (i ≤ s.length) ∧ (Chg [] w W) ∧ (Tab W)) (fun i => s.length - i) 0 ?_ ?_ ?_
   · exact ⟨rfl, rfl, rfl, trivial⟩
   ·refine ⟨?_, HC, ht⟩
    exact Nat.zero_le _
   intro i G7 w6 ⟨hi, HC, ht⟩
   change wp _ _ _ _ _ (upds (over _ _ G7) [(3, .bool ((s.take i).all plainB)), (4, .bool ((s.take i).all noq)), (5, .int .i64 (i : Int))]) _ _
   refine x_seq <| sr rfl <| mI rfl <| mS rfl <| Wp rfl <| st_slen (ct := #[9]) T.u9 rfl <| Wp rfl <| st_lss rfl rfl <| en <| x_cond rfl (fun h1 => ?_) (fun h1 => ?_)
   ·try simp only [nm, ne_eq] at h1
    refine x_skip <| then_n <| x_seq <| x_block <| sr rfl <| mS rfl <| mI rfl <| Wp rfl <| st_sidx T.u9 rfl rfl (by omega) (by omega) <| en <| x_block <| sr rfl <| Wp rfl <| st_eql rfl rfl <| aB rfl <| en <| x_cond rfl (fun h2 => ?_) (fun h2 => ?_)
    ·try simp only [nm, ne_eq] at h2
     refine x_region rfl <| aB rfl <| aB rfl <| wops_nil <| block_n <| block_n <| then_n <| x_region rfl <| mI rfl <| Wp rfl <| st_addn rfl rfl (by constructor <;> omega) <| aI rfl <| en <| ⟨i + 1, ?_, ?_, rfl, ⟨(congrArg Value.bool (by rw [take_all (by omega)]; rw [show byte s i = 39 from u8_eq h2 rfl]; simp [plainB])), (congrArg Value.bool (by rw [take_all (by omega)]; rw [show byte s i = 39 from u8_eq h2 rfl]; simp [noq])), rfl, trivial⟩, ?_⟩
     ·refine ⟨?_, HC, ht⟩
      exact (by omega)
     ·show s.length - (i + 1) < s.length - i; omega
     repeat (first | exact agree_upds agree_over rfl | refine agree_upd ?_ rfl | refine agree_upds ?_ rfl | refine agree_over_sub ?_ rfl)
    ·try simp only [nm, ne_eq] at h2
     have hn39 : byte s i ≠ 39 := fun e => h2 (by rw [e]; rfl)
     refine x_seq <| sr rfl <| Wp rfl <| st_eql rfl rfl <| aB rfl <| en <| x_cond rfl (fun h3 => ?_) (fun h3 => ?_)
     ·try simp only [nm, ne_eq] at h3
      refine x_skip <| then_n <| x_cond rfl (fun h6 => ?_) (fun h6 => ?_)
      rotate_left
      · first | (simp only [nm, ne_eq] at h6; exact absurd (by assumption) h6) | (exfalso; simp_all)
      refine x_region rfl <| aB rfl <| wops_nil <| block_n <| block_n <| then_n <| x_region rfl <| mI rfl <| Wp rfl <| st_addn rfl rfl (by constructor <;> omega) <| aI rfl <| en <| ⟨i + 1, ?_, ?_, rfl, ⟨(congrArg Value.bool (by rw [take_all (by omega)]; rw [show byte s i = 92 from u8_eq h3 rfl]; simp [plainB])), (congrArg Value.bool (by rw [take_all (by omega)]; rw [show noq (byte s i) = true by simp only [noq, bne_iff_ne]; exact hn39]; simp)), rfl, trivial⟩, ?_⟩
      ·refine ⟨?_, HC, ht⟩
       exact (by omega)
      ·show s.length - (i + 1) < s.length - i; omega
      repeat (first | exact agree_upds agree_over rfl | refine agree_upd ?_ rfl | refine agree_upds ?_ rfl | refine agree_over_sub ?_ rfl)
     ·try simp only [nm, ne_eq] at h3
      have hn92 : byte s i ≠ 92 := fun e => h3 (by rw [e]; rfl)
      refine sr rfl <| Wp rfl <| st_eql rfl rfl <| aB rfl <| en <| x_cond rfl (fun h4 => ?_) (fun h4 => ?_)
      ·try simp only [nm, ne_eq] at h4
       refine x_skip <| then_n <| x_cond rfl (fun h6 => ?_) (fun h6 => ?_)
       rotate_left
       · first | (simp only [nm, ne_eq] at h6; exact absurd (by assumption) h6) | (exfalso; simp_all)
       refine x_region rfl <| aB rfl <| wops_nil <| block_n <| block_n <| then_n <| x_region rfl <| mI rfl <| Wp rfl <| st_addn rfl rfl (by constructor <;> omega) <| aI rfl <| en <| ⟨i + 1, ?_, ?_, rfl, ⟨(congrArg Value.bool (by rw [take_all (by omega)]; rw [show byte s i = 34 from u8_eq h4 rfl]; simp [plainB])), (congrArg Value.bool (by rw [take_all (by omega)]; rw [show noq (byte s i) = true by simp only [noq, bne_iff_ne]; exact hn39]; simp)), rfl, trivial⟩, ?_⟩
       ·refine ⟨?_, HC, ht⟩
        exact (by omega)
       ·show s.length - (i + 1) < s.length - i; omega
       repeat (first | exact agree_upds agree_over rfl | refine agree_upd ?_ rfl | refine agree_upds ?_ rfl | refine agree_over_sub ?_ rfl)
      ·try simp only [nm, ne_eq] at h4
       have hn34 : byte s i ≠ 34 := fun e => h4 (by rw [e]; rfl)
       refine sr rfl <| Wp rfl <| st_eql rfl rfl <| aB rfl <| en <| x_cond rfl (fun h5 => ?_) (fun h5 => ?_)
       ·try simp only [nm, ne_eq] at h5
        refine x_skip <| then_n <| x_cond rfl (fun h6 => ?_) (fun h6 => ?_)
        rotate_left
        · first | (simp only [nm, ne_eq] at h6; exact absurd (by assumption) h6) | (exfalso; simp_all)
        refine x_region rfl <| aB rfl <| wops_nil <| block_n <| block_n <| then_n <| x_region rfl <| mI rfl <| Wp rfl <| st_addn rfl rfl (by constructor <;> omega) <| aI rfl <| en <| ⟨i + 1, ?_, ?_, rfl, ⟨(congrArg Value.bool (by rw [take_all (by omega)]; rw [show byte s i = 36 from u8_eq h5 rfl]; simp [plainB])), (congrArg Value.bool (by rw [take_all (by omega)]; rw [show noq (byte s i) = true by simp only [noq, bne_iff_ne]; exact hn39]; simp)), rfl, trivial⟩, ?_⟩
        ·refine ⟨?_, HC, ht⟩
         exact (by omega)
        ·show s.length - (i + 1) < s.length - i; omega
        repeat (first | exact agree_upds agree_over rfl | refine agree_upd ?_ rfl | refine agree_upds ?_ rfl | refine agree_over_sub ?_ rfl)
       ·try simp only [nm, ne_eq] at h5
        have hn36 : byte s i ≠ 36 := fun e => h5 (by rw [e]; rfl)
        refine x_region rfl <| Wp rfl <| st_eql rfl rfl <| aB rfl <| en <| x_cond rfl (fun h6 => ?_) (fun h6 => ?_)
        ·try simp only [nm, ne_eq] at h6
         refine x_region rfl <| aB rfl <| wops_nil <| block_n <| block_n <| then_n <| x_region rfl <| mI rfl <| Wp rfl <| st_addn rfl rfl (by constructor <;> omega) <| aI rfl <| en <| ⟨i + 1, ?_, ?_, rfl, ⟨(congrArg Value.bool (by rw [take_all (by omega)]; rw [show byte s i = 96 from u8_eq h6 rfl]; simp [plainB])), (congrArg Value.bool (by rw [take_all (by omega)]; rw [show noq (byte s i) = true by simp only [noq, bne_iff_ne]; exact hn39]; simp)), rfl, trivial⟩, ?_⟩
         ·refine ⟨?_, HC, ht⟩
          exact (by omega)
         ·show s.length - (i + 1) < s.length - i; omega
         repeat (first | exact agree_upds agree_over rfl | refine agree_upd ?_ rfl | refine agree_upds ?_ rfl | refine agree_over_sub ?_ rfl)
        ·try simp only [nm, ne_eq] at h6
         have hn96 : byte s i ≠ 96 := fun e => h6 (by rw [e]; rfl)
         refine x_skip <| block_n <| block_n <| then_n <| x_region rfl <| mI rfl <| Wp rfl <| st_addn rfl rfl (by constructor <;> omega) <| aI rfl <| en <| ⟨i + 1, ?_, ?_, rfl, ⟨(congrArg Value.bool (by rw [take_all (by omega)]; rw [show plainB (byte s i) = true by simp only [plainB, Bool.not_eq_true', Bool.or_eq_false_iff, beq_eq_false_iff_ne, ne_eq]; exact ⟨⟨⟨⟨hn39, hn92⟩, hn34⟩, hn36⟩, hn96⟩]; simp)), (congrArg Value.bool (by rw [take_all (by omega)]; rw [show noq (byte s i) = true by simp only [noq, bne_iff_ne]; exact hn39]; simp)), rfl, trivial⟩, ?_⟩
         ·refine ⟨?_, HC, ht⟩
          exact (by omega)
         ·show s.length - (i + 1) < s.length - i; omega
         repeat (first | exact agree_upds agree_over rfl | refine agree_upd ?_ rfl | refine agree_upds ?_ rfl | refine agree_over_sub ?_ rfl)
   ·try simp only [nm, ne_eq] at h1
    have hie : i = s.length := by omega
    rw [hie, List.take_length]
    refine x_exit <| then_x <| then_x <| block_x <| then_n <| x_seq <| sr rfl <| mB rfl <| en <| x_cond rfl (fun h7 => ?_) (fun h7 => ?_)
    ·try simp only [nm, ne_eq] at h7
     have hpl : ∀ c, c ∈ s → plainB c = true := fun c hc => List.all_eq_true.1 h7 c hc
     refine sr rfl <| mS rfl <| Wp rfl <| st_call (ags := [_, _]) rfl rfl T.ent13 rfl (Parse_spec 0 s _ (by omega) ht) ?_
     have sz1_hs1 := HC.size
     rintro _ w8 ⟨A1, cap1, rfl, hs1, c9⟩
     rw [pars_plain hne hpl] at hs1 ⊢
     replace HC := HC.then c9
     replace ht := ht.tr0 c9
     refine mv (v := .tuple ⟨[_, _]⟩) rfl <| Wp rfl <| st_extract (vs := [_, _]) (v := .slice _ _ _) rfl rfl <| Wp rfl <| st_extract (vs := [_, _]) (v := .int _ _) rfl rfl <| aL rfl <| aI rfl <| en <| sr rfl <| mI rfl <| Wp rfl <| st_neq rfl rfl <| mB rfl <| w_split (d := 42) rfl (fun g10 => ?_) (fun g10 => ?_)
     ·try simp only [nm, ne_eq] at g10
      first | exact absurd rfl g10 | exact absurd trivial g10 | (simp at g10; done) | exact absurd g10 (by decide)
     ·try simp only [nm, ne_eq] at g10
      refine w_yes 2 42 false <| st_move (v := .slice _ _ _) rfl <| w_yes 2 42 false <| st_move (v := S _) rfl <| w_yes 2 42 false <| st_bld (ps := [(1, .tmp 44)]) (vs := [.int _ _, S _, S _, S _, S _, .bool _]) T.bld42 rfl <| w_yes 2 42 false <| st_lit (ps := [(0, .tmp 45)]) (vs := [.int _ _, S _, S _, S _, S _, .bool _]) T.lit34 (by decide) rfl (by simp only [List.forall_mem_cons, List.not_mem_nil, false_imp_iff, implies_true, and_true]; exact rfl) rfl ?_
      intro b11 w12 e13 c14 hb15
      have ge_b11 : w.heap.size ≤ b11 := by rw [e13]; exact HC.size
      replace HC := HC.then c14
      replace ht := ht.tr0 c14
      replace hs1 := hs1.tr0 c14
      clear e13
      refine w_yes 2 42 false <| st_call (ags := [_, _]) rfl rfl T.ent15 rfl (RSame_spec (a := [txtP s false]) (b := [txtP s false]) hs1 (sl_lit [txtP s false] (by simp) (show Blk _ _ ([txtP s false].flatMap prtC) 42 from hb15)) (by simp)) ?_
      rintro _ w16 ⟨rfl, c17⟩
      replace HC := HC.then c17
      replace ht := ht.tr0 c17
      replace hs1 := hs1.tr0 c17
      replace hb15 := hb15.tr0 c17
      refine w_yes 2 42 false <| st_not rfl <| pF rfl rfl <| en <| x_cond rfl (fun h8 => ?_) (fun h8 => ?_)
      ·try simp only [nm, ne_eq] at h8
       first | exact absurd rfl h8 | exact absurd trivial h8 | (simp at h8; done) | exact absurd h8 (by decide)
      ·try simp only [nm, ne_eq] at h8
       refine x_skip <| then_n <| x_seq <| sr rfl <| mB rfl <| en <| x_cond rfl (fun h9 => ?_) (fun h9 => ?_)
       ·try simp only [nm, ne_eq] at h9
        have hql : ∀ c, c ∈ s → c ≠ 39 := fun c hc => by have := List.all_eq_true.1 h9 c hc; simpa [noq] using this
        refine sr rfl <| mS rfl <| Wp rfl <| st_sadd rfl rfl (by (simp only [List.length_cons, List.length_nil]; omega)) <| Wp rfl <| st_sadd rfl rfl (by (simp only [List.length_append, List.length_cons, List.length_nil]; omega)) <| Wp rfl <| st_call (ags := [_, _]) rfl rfl T.ent13 rfl (Parse_spec 0 ([39] ++ s ++ [39]) _ (by simp only [List.length_append, List.length_cons, List.length_nil]; omega) ht) ?_
        have sz1_hs2 := HC.size
        rintro _ w18 ⟨A2, cap2, rfl, hs2, c19⟩
        rw [show parsV 0 ([39] ++ s ++ [39]) = _ from pars_quote hql] at hs2 ⊢
        replace HC := HC.then c19
        replace ht := ht.tr0 c19
        replace hs1 := hs1.tr0 c19
        replace hb15 := hb15.tr0 c19
        refine mv (v := .tuple ⟨[_, _]⟩) rfl <| Wp rfl <| st_extract (vs := [_, _]) (v := .slice _ _ _) rfl rfl <| Wp rfl <| st_extract (vs := [_, _]) (v := .int _ _) rfl rfl <| aL rfl <| aI rfl <| en <| sr rfl <| mI rfl <| Wp rfl <| st_eql rfl rfl <| mB rfl <| w_split (d := 60) rfl (fun g20 => ?_) (fun g20 => ?_)
        ·try simp only [nm, ne_eq] at g20
         refine w_yes 2 60 true <| st_move (v := .slice _ _ _) rfl <| w_yes 2 60 true <| st_move (v := S _) rfl <| w_yes 2 60 true <| st_bld (ps := [(1, .tmp 62), (5, .const (.bool true))]) (vs := [.int _ _, S _, S _, S _, S _, .bool _]) T.bld42 rfl <| w_yes 2 60 true <| st_lit (ps := [(0, .tmp 63)]) (vs := [.int _ _, S _, S _, S _, S _, .bool _]) T.lit34 (by decide) rfl (by simp only [List.forall_mem_cons, List.not_mem_nil, false_imp_iff, implies_true, and_true]; exact rfl) rfl ?_
         intro b21 w22 e23 c24 hb25
         have ge_b21 : w.heap.size ≤ b21 := by rw [e23]; exact HC.size
         have ne_b11_b21 : b11 ≠ b21 := by rw [e23]; exact hb15.ne_size
         replace HC := HC.then c24
         replace ht := ht.tr0 c24
         replace hs1 := hs1.tr0 c24
         replace hb15 := hb15.tr0 c24
         replace hs2 := hs2.tr0 c24
         clear e23
         refine w_yes 2 60 true <| st_call (ags := [_, _]) rfl rfl T.ent15 rfl (RSame_spec (a := [txtP s true]) (b := [txtP s true]) hs2 (sl_lit [txtP s true] (by simp) (show Blk _ _ ([txtP s true].flatMap prtC) 42 from hb25)) (by simp)) ?_
         rintro _ w26 ⟨rfl, c27⟩
         replace HC := HC.then c27
         replace ht := ht.tr0 c27
         replace hs1 := hs1.tr0 c27
         replace hb15 := hb15.tr0 c27
         replace hs2 := hs2.tr0 c27
         replace hb25 := hb25.tr0 c27
         refine pT rfl rfl <| mB rfl <| w_split (d := 67) rfl (fun g28 => ?_) (fun g28 => ?_)
         ·try simp only [nm, ne_eq] at g28
          refine w_yes 9 67 true <| st_call (ags := []) rfl rfl T.ent12 rfl (awake_spec _ ht) ?_
          rintro _ w29 ⟨rfl, c30⟩
          replace HC := HC.then c30
          replace ht := ht.tr0 c30
          replace hs1 := hs1.tr0 c30
          replace hb15 := hb15.tr0 c30
          replace hs2 := hs2.tr0 c30
          replace hb25 := hb25.tr0 c30
          refine pT rfl rfl <| aB rfl <| en <| x_ret <| then_r <| ret_tmp (v := .bool _) rfl rfl ?_
          exact ⟨rfl, HC⟩
         ·try simp only [nm, ne_eq] at g28
          first | exact absurd rfl g28 | exact absurd trivial g28 | (simp at g28; done) | exact absurd g28 (by decide)
        ·try simp only [nm, ne_eq] at g20
         first | exact absurd rfl g20 | exact absurd trivial g20 | (simp at g20; done) | exact absurd g20 (by decide)
       ·try simp only [nm, ne_eq] at h9
        refine x_skip <| then_n <| sr rfl <| Wp rfl <| st_call (ags := []) rfl rfl T.ent12 rfl (awake_spec _ ht) ?_
        rintro _ w31 ⟨rfl, c32⟩
        replace HC := HC.then c32
        replace ht := ht.tr0 c32
        replace hs1 := hs1.tr0 c32
        replace hb15 := hb15.tr0 c32
        refine aB rfl <| en <| x_ret <| ret_tmp (v := .bool _) rfl rfl ?_
        exact ⟨rfl, HC⟩
    ·try simp only [nm, ne_eq] at h7
     refine x_skip <| then_n <| x_seq <| sr rfl <| mB rfl <| en <| x_cond rfl (fun h9 => ?_) (fun h9 => ?_)
     ·try simp only [nm, ne_eq] at h9
      have hql : ∀ c, c ∈ s → c ≠ 39 := fun c hc => by have := List.all_eq_true.1 h9 c hc; simpa [noq] using this
      refine sr rfl <| mS rfl <| Wp rfl <| st_sadd rfl rfl (by (simp only [List.length_cons, List.length_nil]; omega)) <| Wp rfl <| st_sadd rfl rfl (by (simp only [List.length_append, List.length_cons, List.length_nil]; omega)) <| Wp rfl <| st_call (ags := [_, _]) rfl rfl T.ent13 rfl (Parse_spec 0 ([39] ++ s ++ [39]) _ (by simp only [List.length_append, List.length_cons, List.length_nil]; omega) ht) ?_
      have sz1_hs2 := HC.size
      rintro _ w33 ⟨A2, cap2, rfl, hs2, c34⟩
      rw [show parsV 0 ([39] ++ s ++ [39]) = _ from pars_quote hql] at hs2 ⊢
      replace HC := HC.then c34
      replace ht := ht.tr0 c34
      refine mv (v := .tuple ⟨[_, _]⟩) rfl <| Wp rfl <| st_extract (vs := [_, _]) (v := .slice _ _ _) rfl rfl <| Wp rfl <| st_extract (vs := [_, _]) (v := .int _ _) rfl rfl <| aL rfl <| aI rfl <| en <| sr rfl <| mI rfl <| Wp rfl <| st_eql rfl rfl <| mB rfl <| w_split (d := 60) rfl (fun g35 => ?_) (fun g35 => ?_)
      ·try simp only [nm, ne_eq] at g35
       refine w_yes 2 60 true <| st_move (v := .slice _ _ _) rfl <| w_yes 2 60 true <| st_move (v := S _) rfl <| w_yes 2 60 true <| st_bld (ps := [(1, .tmp 62), (5, .const (.bool true))]) (vs := [.int _ _, S _, S _, S _, S _, .bool _]) T.bld42 rfl <| w_yes 2 60 true <| st_lit (ps := [(0, .tmp 63)]) (vs := [.int _ _, S _, S _, S _, S _, .bool _]) T.lit34 (by decide) rfl (by simp only [List.forall_mem_cons, List.not_mem_nil, false_imp_iff, implies_true, and_true]; exact rfl) rfl ?_
       intro b36 w37 e38 c39 hb40
       have ge_b36 : w.heap.size ≤ b36 := by rw [e38]; exact HC.size
       replace HC := HC.then c39
       replace ht := ht.tr0 c39
       replace hs2 := hs2.tr0 c39
       clear e38
       refine w_yes 2 60 true <| st_call (ags := [_, _]) rfl rfl T.ent15 rfl (RSame_spec (a := [txtP s true]) (b := [txtP s true]) hs2 (sl_lit [txtP s true] (by simp) (show Blk _ _ ([txtP s true].flatMap prtC) 42 from hb40)) (by simp)) ?_
       rintro _ w41 ⟨rfl, c42⟩
       replace HC := HC.then c42
       replace ht := ht.tr0 c42
       replace hs2 := hs2.tr0 c42
       replace hb40 := hb40.tr0 c42
       refine pT rfl rfl <| mB rfl <| w_split (d := 67) rfl (fun g43 => ?_) (fun g43 => ?_)
       ·try simp only [nm, ne_eq] at g43
        refine w_yes 9 67 true <| st_call (ags := []) rfl rfl T.ent12 rfl (awake_spec _ ht) ?_
        rintro _ w44 ⟨rfl, c45⟩
        replace HC := HC.then c45
        replace ht := ht.tr0 c45
        replace hs2 := hs2.tr0 c45
        replace hb40 := hb40.tr0 c45
        refine pT rfl rfl <| aB rfl <| en <| x_ret <| then_r <| ret_tmp (v := .bool _) rfl rfl ?_
        exact ⟨rfl, HC⟩
       ·try simp only [nm, ne_eq] at g43
        first | exact absurd rfl g43 | exact absurd trivial g43 | (simp at g43; done) | exact absurd g43 (by decide)
      ·try simp only [nm, ne_eq] at g35
       first | exact absurd rfl g35 | exact absurd trivial g35 | (simp at g35; done) | exact absurd g35 (by decide)
     ·try simp only [nm, ne_eq] at h9
      refine x_skip <| then_n <| sr rfl <| Wp rfl <| st_call (ags := []) rfl rfl T.ent12 rfl (awake_spec _ ht) ?_
      rintro _ w46 ⟨rfl, c47⟩
      replace HC := HC.then c47
      replace ht := ht.tr0 c47
      refine aB rfl <| en <| x_ret <| ret_tmp (v := .bool _) rfl rfl ?_
      exact ⟨rfl, HC⟩

end Go.Proofs.YthggegbljpmecaaDoor.K
