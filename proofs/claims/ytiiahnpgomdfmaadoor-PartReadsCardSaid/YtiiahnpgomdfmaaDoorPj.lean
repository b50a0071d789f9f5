import Derived.Test.YtiiahnpgomdfmaaDoorPh
import Derived.Test.YtiiahnpgomdfmaaDoorKitX
set_option linter.unusedVariables false
set_option linter.unusedSimpArgs false
set_option autoImplicit false
set_option maxRecDepth 20000
namespace Go.Proofs.YtiiahnpgomdfmaaDoor.K
open Go Go.Proofs Go.RowKit

theorem prt_same (x y : Prt) : (decide (x.kind = y.kind) && (decide (x.text = y.text) && (decide (x.name = y.name) && (decide (x.op = y.op) && (decide (x.word = y.word) && (x.quoted == y.quoted)))))) = decide (x = y) := by
  rw [show (x.quoted == y.quoted) = decide (x.quoted = y.quoted) from by cases x.quoted <;> cases y.quoted <;> rfl]
  cases x; cases y
  simp only [Prt.mk.injEq, Bool.decide_and]
theorem take_same {α : Type} {a b : List α} {i : Nat} {x y : α} (h : a.take i = b.take i) (hx : a[i]? = some x) (hy : b[i]? = some y) (he : x = y) : a.take (i + 1) = b.take (i + 1) := by
  rw [List.take_add_one, List.take_add_one, h, hx, hy, he]
theorem chunks_flat {α : Type} {sz : Nat} {f : α → List Value} {h1 h2 h3} {w : World} {D : Nat → Prop} : ∀ xs : List α, Chunks (Enc.flat sz f h1 h2 h3) w D xs (xs.flatMap f)
  | [] => .nil
  | x :: xs => by rw [List.flatMap_cons]; exact Chunks.cons rfl (chunks_flat xs)
theorem sl_lit {α : Type} {sz : Nat} {f : α → List Value} {h1 h2 h3} {w : World} {b : Nat} {T : TypeId} (xs : List α) (hm : xs.length ≤ 9223372036854775807) (h : Blk w b (xs.flatMap f) T) : Sl (Enc.flat sz f h1 h2 h3) w (fun k => k = b) (some ⟨b, 0, none⟩) xs :=
  (Own.of_blk (D := fun k => k = b) h rfl hm (chunks_flat xs)).sl

theorem RSame_spec {a b : List Prt} {Aa Ab : Option Addr} {capa capb : Nat} {D D2 : Nat → Prop} {w : World} (ha : Sl prtE w D Aa a) (hb : Sl prtE w D2 Ab b) (hla : a.length ≤ 9223372036854775807) :
    CallR Tryd.prog 11 #[.slice Aa a.length capa, .slice Ab b.length capb] w fun v w' => v = .bool (decide (a = b)) ∧ Chg [] w w' := by
 refine callR_of_wp (args := [_, _]) Tryd.func11 rfl (Nat.le_of_ble_eq_true rfl) ?_
 have HC : Chg [] w w := .refl _
 refine sr rfl <| aB rfl <| en <| x_seq <| sr rfl <| mL rfl <| Wp rfl <| st_len (ct := #[23]) (by rw [show ((#[23] : Array TypeId)[0]?).bind Tryd.prog.underlying = some (.slice 33) from T.u23]; rfl) rfl <| mL rfl <| Wp rfl <| st_len (ct := #[23]) (by rw [show ((#[23] : Array TypeId)[0]?).bind Tryd.prog.underlying = some (.slice 33) from T.u23]; rfl) rfl <| Wp rfl <| st_neq rfl rfl <| en <| x_cond rfl (fun h0 => ?_) (fun h0 => ?_)
 ·try simp only [nm, ne_eq] at h0
  refine sr rfl <| aB rfl <| en <| x_ret <| then_r <| ret_tmp (v := .bool _) rfl rfl <| ⟨?_, HC⟩
  rw [decide_eq_false (fun e => h0 (by rw [e]))]
 ·try simp only [nm, ne_eq] at h0
  have hll : a.length = b.length := by omega
  refine x_skip <| then_n <| x_seq <| sr rfl <| aI rfl <| en <| x_block <| x_loop (ι := Nat) [4, 5, 11, 12, 13, 14, 15, 16, 17, 18, 19, 20, 21, 22, 23, 24, 25] (fun i => [(5, .int .i64 (i : Int))]) (fun i W => (i ≤ a.length ∧ a.take i = b.take i) ∧ (Chg [] w W) ∧ (Sl prtE W D Aa a) ∧ (Sl prtE W D2 Ab b)) (fun i => a.length - i) 0 ?_ ?_ ?_
  · exact ⟨rfl, trivial⟩
  ·refine ⟨?_, HC, ha, hb⟩
   exact ⟨Nat.zero_le _, rfl⟩
  intro i G2 w1 ⟨⟨hi, ht⟩, HC, ha, hb⟩
  change wp _ _ _ _ _ (upds (over _ _ G2) [(5, .int .i64 (i : Int))]) _ _
  refine x_seq <| sr rfl <| mI rfl <| mL rfl <| Wp rfl <| st_len (ct := #[23]) (by rw [show ((#[23] : Array TypeId)[0]?).bind Tryd.prog.underlying = some (.slice 33) from T.u23]; rfl) rfl <| Wp rfl <| st_lss rfl rfl <| en <| x_cond rfl (fun h1 => ?_) (fun h1 => ?_)
  ·try simp only [nm, ne_eq] at h1
   refine x_skip <| then_n <| x_seq <| x_block <| x_seq ?_
   obtain ⟨x3, hx4⟩ : ∃ zz, a[i]? = some zz := ⟨_, List.getElem?_eq_getElem (by omega)⟩
   obtain ⟨lb9, _, vs8, hA5, hR7, hC6⟩ := ha.at hx4
   obtain rfl : vs8 = [.int .i64 x3.kind, S x3.text, S x3.name, S x3.op, S x3.word, .bool x3.quoted] := hR7
   obtain ⟨x10, hx11⟩ : ∃ zz, b[i]? = some zz := ⟨_, List.getElem?_eq_getElem (by omega)⟩
   obtain ⟨lb16, _, vs15, hA12, hR14, hC13⟩ := hb.at hx11
   obtain rfl : vs15 = [.int .i64 x10.kind, S x10.text, S x10.name, S x10.op, S x10.word, .bool x10.quoted] := hR14
   refine x_draw [(0, 0), (1, 0), (2, 0), (3, 0), (4, 0), (5, 0), (6, 0), (7, 0), (8, 0)] T.mixed rfl rfl rfl (fun W => W.heap[lb9]? = w1.heap[lb9]? ∧ W.heap[lb16]? = w1.heap[lb16]? ∧ True) ⟨rfl, rfl, trivial⟩ ?_
   have c18 := Chg.drew w1
   generalize World.drew w1 = w17 at c18 ⊢
   have ht_lb9 : lb9 < w17.heap.size ∧ w17.heap[lb9]? = w1.heap[lb9]? := ⟨Nat.lt_of_lt_of_le hC6.lt c18.size, c18.block lb9 hC6.lt (by simp)⟩
   have ht_lb16 : lb16 < w17.heap.size ∧ w17.heap[lb16]? = w1.heap[lb16]? := ⟨Nat.lt_of_lt_of_le hC13.lt c18.size, c18.block lb16 hC13.lt (by simp)⟩
   replace HC := HC.then c18
   replace ha := ha.tr0 c18
   replace hb := hb.tr0 c18
   refine sq_q rfl (fun W hT => r_move (v := .slice _ _ _) rfl) <| sq_q rfl (fun W hT => r_move (v := .int _ _) rfl) <| sq_q rfl (fun W hT => r_indexAddr T.u23 T.size33 (congrArg (fun z => Value.slice z _ _) hA5) rfl (by omega) (by omega)) <| sq_q rfl (fun W hT => r_loadA (vs := [_, _, _, _, _, _]) T.agg33 rfl (Cells.tr hC6 hT.1) rfl) <| sq_q rfl (fun W hT => r_move (v := .slice _ _ _) rfl) <| sq_q rfl (fun W hT => r_move (v := .int _ _) rfl) <| sq_q rfl (fun W hT => r_indexAddr T.u23 T.size33 (congrArg (fun z => Value.slice z _ _) hA12) rfl (by omega) (by omega)) <| sq_q rfl (fun W hT => r_loadA (vs := [_, _, _, _, _, _]) T.agg33 rfl (Cells.tr hC13 hT.2.1) rfl) <| sq_q rfl (fun W hT => r_aneq (va := [_, _, _, _, _, _]) (vb := [_, _, _, _, _, _]) T.eq33 rfl rfl rfl) <| sq_nil <| then_n <| x_cond rfl (fun h2 => ?_) (fun h2 => ?_)
   ·try simp only [nm, ne_eq] at h2
    rw [prt_same] at h2
    refine sr rfl <| aB rfl <| en <| x_ret <| block_r <| then_r <| then_r <| block_r <| then_r <| ret_tmp (v := .bool _) rfl rfl <| ⟨?_, HC⟩
    rw [decide_eq_false (fun e => by subst e; have := hx4.symm.trans hx11; exact absurd (Option.some.inj this) (of_decide_eq_false h2))]
   ·try simp only [nm, ne_eq] at h2
    rw [prt_same] at h2
    refine x_skip <| block_n <| then_n <| x_region rfl <| mI rfl <| Wp rfl <| st_addn rfl rfl (by constructor <;> omega) <| aI rfl <| en <| ⟨i + 1, ?_, ?_, rfl, ⟨rfl, trivial⟩, ?_⟩
    ·refine ⟨?_, HC, ha, hb⟩
     exact ⟨by omega, take_same ht hx4 hx11 (of_decide_eq_true h2)⟩
    ·show a.length - (i + 1) < a.length - i; omega
    repeat (first | exact agree_upds agree_over rfl | refine agree_upd ?_ rfl | refine agree_upds ?_ rfl | refine agree_over_sub ?_ rfl)
  ·try simp only [nm, ne_eq] at h1
   refine x_exit <| then_x <| then_x <| block_x <| then_n <| sr rfl <| aB rfl <| en <| x_ret <| ret_tmp (v := .bool _) rfl rfl <| ⟨?_, HC⟩
   rw [decide_eq_true (by rw [List.take_of_length_le (by omega), List.take_of_length_le (by omega)] at ht; exact ht)]

def aw0 : Bytes := [97, 34, 36, 120, 34, 39, 98, 39]
def awP0 : List Prt := [⟨0, [97], [], [], [], false⟩, ⟨1, [], [120], [], [], true⟩, ⟨0, [98], [], [], [], true⟩]
theorem aw0_eq : parsV 0 aw0 = (awP0, 0) := by kernel_rfl

def aw1 : Bytes := [36, 123, 120, 58, 45, 121, 32, 122, 125]
def awP1 : List Prt := [⟨1, [], [120], [58, 45], [121, 32, 122], false⟩]
theorem aw1_eq : parsV 0 aw1 = (awP1, 0) := by kernel_rfl

def aw2 : Bytes := [36, 123, 35, 120, 125]
def awP2 : List Prt := [⟨1, [], [120], [108, 101, 110], [], false⟩]
theorem aw2_eq : parsV 0 aw2 = (awP2, 0) := by kernel_rfl

def aw3 : Bytes := [36, 123, 120, 33, 125]
def awP3 : List Prt := []
theorem aw3_eq : parsV 0 aw3 = (awP3, 107) := by kernel_rfl

theorem awake_spec (w : World) (ht : Tab w) : CallR Tryd.prog 8 #[] w fun v w' => v = .bool true ∧ Chg [] w w' := by
 refine callR_of_wp (args := []) Tryd.func8 rfl (Nat.le_of_ble_eq_true rfl) ?_
 have HC : Chg [] w w := .refl _
 have ht1 := ht.lt
 refine sr rfl <| aB rfl <| en <| sr rfl <| Wp rfl <| st_call (ags := [_, _]) rfl rfl T.ent9 rfl (Parse_spec 0 aw0 _ (by decide) ht) ?_
 have sz1_hs0 := HC.size
 rintro _ w1 ⟨A0, cap0, rfl, hs0, c2⟩
 rw [aw0_eq] at hs0 ⊢
 replace HC := HC.then c2
 replace ht := ht.tr0 c2
 refine mv (v := .tuple ⟨[_, _]⟩) rfl <| Wp rfl <| st_extract (vs := [_, _]) (v := .slice _ _ _) rfl rfl <| Wp rfl <| st_extract (vs := [_, _]) (v := .int _ _) rfl rfl <| aL rfl <| aI rfl <| en <| sr rfl <| Wp rfl <| st_call (ags := [_, _]) rfl rfl T.ent9 rfl (Parse_spec 0 aw1 _ (by decide) ht) ?_
 have sz1_hs1 := HC.size
 rintro _ w3 ⟨A1, cap1, rfl, hs1, c4⟩
 rw [aw1_eq] at hs1 ⊢
 replace HC := HC.then c4
 replace ht := ht.tr0 c4
 replace hs0 := hs0.tr0 c4
 refine mv (v := .tuple ⟨[_, _]⟩) rfl <| Wp rfl <| st_extract (vs := [_, _]) (v := .slice _ _ _) rfl rfl <| Wp rfl <| st_extract (vs := [_, _]) (v := .int _ _) rfl rfl <| aL rfl <| aI rfl <| en <| sr rfl <| Wp rfl <| st_call (ags := [_, _]) rfl rfl T.ent9 rfl (Parse_spec 0 aw2 _ (by decide) ht) ?_
 have sz1_hs2 := HC.size
 rintro _ w5 ⟨A2, cap2, rfl, hs2, c6⟩
 rw [aw2_eq] at hs2 ⊢
 replace HC := HC.then c6
 replace ht := ht.tr0 c6
 replace hs0 := hs0.tr0 c6
 replace hs1 := hs1.tr0 c6
 refine mv (v := .tuple ⟨[_, _]⟩) rfl <| Wp rfl <| st_extract (vs := [_, _]) (v := .slice _ _ _) rfl rfl <| Wp rfl <| st_extract (vs := [_, _]) (v := .int _ _) rfl rfl <| aL rfl <| aI rfl <| en <| sr rfl <| Wp rfl <| st_call (ags := [_, _]) rfl rfl T.ent9 rfl (Parse_spec 0 aw3 _ (by decide) ht) ?_
 have sz1_hs3 := HC.size
 rintro _ w7 ⟨A3, cap3, rfl, hs3, c8⟩
 rw [aw3_eq] at hs3 ⊢
 replace HC := HC.then c8
 replace ht := ht.tr0 c8
 replace hs0 := hs0.tr0 c8
 replace hs1 := hs1.tr0 c8
 replace hs2 := hs2.tr0 c8
 refine mv (v := .tuple ⟨[_, _]⟩) rfl <| Wp rfl <| st_extract (vs := [_, _]) (v := .slice _ _ _) rfl rfl <| Wp rfl <| st_extract (vs := [_, _]) (v := .int _ _) rfl rfl <| aL rfl <| aI rfl <| en <| sr rfl <| mI rfl <| Wp rfl <| st_eql rfl rfl <| mB rfl <| w_split (d := 27) rfl (fun g9 => ?_) (fun g9 => ?_)
 ·try simp only [nm, ne_eq] at g9
  refine w_yes 2 27 true <| st_move (v := .slice _ _ _) rfl <| w_yes 2 27 true <| st_bld (ps := [(1, .const (S [97]))]) (vs := [.int _ _, S _, S _, S _, S _, .bool _]) T.bld33 rfl <| w_yes 2 27 true <| st_bld (ps := [(0, .const (.int .i64 1)), (2, .const (S [120])), (5, .const (.bool true))]) (vs := [.int _ _, S _, S _, S _, S _, .bool _]) T.bld33 rfl <| w_yes 2 27 true <| st_bld (ps := [(1, .const (S [98])), (5, .const (.bool true))]) (vs := [.int _ _, S _, S _, S _, S _, .bool _]) T.bld33 rfl <| w_yes 2 27 true <| st_lit (ps := [(0, .tmp 29), (1, .tmp 30), (2, .tmp 31)]) (vs := [.int _ _, S _, S _, S _, S _, .bool _, .int _ _, S _, S _, S _, S _, .bool _, .int _ _, S _, S _, S _, S _, .bool _]) T.lit23 (by decide) rfl (by simp only [List.forall_mem_cons, List.not_mem_nil, false_imp_iff, implies_true, and_true]; exact ⟨rfl, rfl, rfl⟩) rfl ?_
  intro b10 w11 e12 c13 hb14
  have ge_b10 : w.heap.size ≤ b10 := by rw [e12]; exact HC.size
  replace HC := HC.then c13
  replace ht := ht.tr0 c13
  replace hs0 := hs0.tr0 c13
  replace hs1 := hs1.tr0 c13
  replace hs2 := hs2.tr0 c13
  replace hs3 := hs3.tr0 c13
  clear e12
  refine w_yes 2 27 true <| st_call (ags := [_, _]) rfl rfl T.ent11 rfl (RSame_spec (a := awP0) (b := awP0) hs0 (sl_lit awP0 (by decide) (show Blk _ _ (awP0.flatMap prtC) 33 from hb14)) (by decide)) ?_
  rintro _ w15 ⟨rfl, c16⟩
  replace HC := HC.then c16
  replace ht := ht.tr0 c16
  replace hs0 := hs0.tr0 c16
  replace hs1 := hs1.tr0 c16
  replace hs2 := hs2.tr0 c16
  replace hs3 := hs3.tr0 c16
  replace hb14 := hb14.tr0 c16
  refine pT rfl rfl <| mB rfl <| w_split (d := 35) rfl (fun g17 => ?_) (fun g17 => ?_)
  ·try simp only [nm, ne_eq] at g17
   refine w_yes 10 35 true <| st_move (v := .int _ _) rfl <| w_yes 10 35 true <| st_eql rfl rfl <| pT rfl rfl <| mB rfl <| w_split (d := 39) rfl (fun g18 => ?_) (fun g18 => ?_)
   ·try simp only [nm, ne_eq] at g18
    refine w_yes 14 39 true <| st_move (v := .slice _ _ _) rfl <| w_yes 14 39 true <| st_len (ct := #[23]) (by rw [show ((#[23] : Array TypeId)[0]?).bind Tryd.prog.underlying = some (.slice 33) from T.u23]; rfl) rfl <| w_yes 14 39 true <| st_eql rfl rfl <| pT rfl rfl <| mB rfl <| w_split (d := 44) rfl (fun g19 => ?_) (fun g19 => ?_)
    ·try simp only [nm, ne_eq] at g19
     refine w_yes 19 44 true <| st_move (v := .slice _ _ _) rfl ?_
     obtain ⟨lb24, _, vs23, hA20, hR22, hC21⟩ := hs1.at (i := 0) (x := (⟨1, [], [120], [58, 45], [121, 32, 122], false⟩ : Prt)) (rfl)
     obtain rfl : vs23 = [.int .i64 (⟨1, [], [120], [58, 45], [121, 32, 122], false⟩ : Prt).kind, S (⟨1, [], [120], [58, 45], [121, 32, 122], false⟩ : Prt).text, S (⟨1, [], [120], [58, 45], [121, 32, 122], false⟩ : Prt).name, S (⟨1, [], [120], [58, 45], [121, 32, 122], false⟩ : Prt).op, S (⟨1, [], [120], [58, 45], [121, 32, 122], false⟩ : Prt).word, .bool (⟨1, [], [120], [58, 45], [121, 32, 122], false⟩ : Prt).quoted] := hR22
     refine w_yes 19 44 true <| st_indexAddr T.u23 T.size33 (congrArg (fun z => Value.slice z _ _) hA20) rfl (by decide) (by decide) <| w_yes 19 44 true <| st_fieldAddr T.fld33_3 rfl <| w_yes 19 44 true <| st_load1 (v := S _) T.one9 rfl (hC21.at (j := 3) rfl) <| w_yes 19 44 true <| st_seql rfl rfl <| pT rfl rfl <| mB rfl <| w_split (d := 51) rfl (fun g25 => ?_) (fun g25 => ?_)
     ·try simp only [nm, ne_eq] at g25
      refine w_yes 26 51 true <| st_move (v := .slice _ _ _) rfl ?_
      obtain ⟨lb30, _, vs29, hA26, hR28, hC27⟩ := hs1.at (i := 0) (x := (⟨1, [], [120], [58, 45], [121, 32, 122], false⟩ : Prt)) (rfl)
      obtain rfl : vs29 = [.int .i64 (⟨1, [], [120], [58, 45], [121, 32, 122], false⟩ : Prt).kind, S (⟨1, [], [120], [58, 45], [121, 32, 122], false⟩ : Prt).text, S (⟨1, [], [120], [58, 45], [121, 32, 122], false⟩ : Prt).name, S (⟨1, [], [120], [58, 45], [121, 32, 122], false⟩ : Prt).op, S (⟨1, [], [120], [58, 45], [121, 32, 122], false⟩ : Prt).word, .bool (⟨1, [], [120], [58, 45], [121, 32, 122], false⟩ : Prt).quoted] := hR28
      refine w_yes 26 51 true <| st_indexAddr T.u23 T.size33 (congrArg (fun z => Value.slice z _ _) hA26) rfl (by decide) (by decide) <| w_yes 26 51 true <| st_fieldAddr T.fld33_4 rfl <| w_yes 26 51 true <| st_load1 (v := S _) T.one9 rfl (hC27.at (j := 4) rfl) <| w_yes 26 51 true <| st_seql rfl rfl <| pT rfl rfl <| mB rfl <| w_split (d := 58) rfl (fun g31 => ?_) (fun g31 => ?_)
      ·try simp only [nm, ne_eq] at g31
       refine w_yes 33 58 true <| st_move (v := .int _ _) rfl <| w_yes 33 58 true <| st_eql rfl rfl <| pT rfl rfl <| mB rfl <| w_split (d := 62) rfl (fun g32 => ?_) (fun g32 => ?_)
       ·try simp only [nm, ne_eq] at g32
        refine w_yes 37 62 true <| st_move (v := .slice _ _ _) rfl <| w_yes 37 62 true <| st_len (ct := #[23]) (by rw [show ((#[23] : Array TypeId)[0]?).bind Tryd.prog.underlying = some (.slice 33) from T.u23]; rfl) rfl <| w_yes 37 62 true <| st_eql rfl rfl <| pT rfl rfl <| mB rfl <| w_split (d := 67) rfl (fun g33 => ?_) (fun g33 => ?_)
        ·try simp only [nm, ne_eq] at g33
         refine w_yes 42 67 true <| st_move (v := .slice _ _ _) rfl ?_
         obtain ⟨lb38, _, vs37, hA34, hR36, hC35⟩ := hs2.at (i := 0) (x := (⟨1, [], [120], [108, 101, 110], [], false⟩ : Prt)) (rfl)
         obtain rfl : vs37 = [.int .i64 (⟨1, [], [120], [108, 101, 110], [], false⟩ : Prt).kind, S (⟨1, [], [120], [108, 101, 110], [], false⟩ : Prt).text, S (⟨1, [], [120], [108, 101, 110], [], false⟩ : Prt).name, S (⟨1, [], [120], [108, 101, 110], [], false⟩ : Prt).op, S (⟨1, [], [120], [108, 101, 110], [], false⟩ : Prt).word, .bool (⟨1, [], [120], [108, 101, 110], [], false⟩ : Prt).quoted] := hR36
         refine w_yes 42 67 true <| st_indexAddr T.u23 T.size33 (congrArg (fun z => Value.slice z _ _) hA34) rfl (by decide) (by decide) <| w_yes 42 67 true <| st_fieldAddr T.fld33_3 rfl <| w_yes 42 67 true <| st_load1 (v := S _) T.one9 rfl (hC35.at (j := 3) rfl) <| w_yes 42 67 true <| st_seql rfl rfl <| pT rfl rfl <| mB rfl <| w_split (d := 74) rfl (fun g39 => ?_) (fun g39 => ?_)
         ·try simp only [nm, ne_eq] at g39
          refine w_yes 49 74 true <| st_move (v := .int _ _) rfl <| w_yes 49 74 true <| st_eql rfl rfl <| pT rfl rfl <| aB rfl <| en <| x_ret <| ret_tmp (v := .bool _) rfl rfl ?_
          exact ⟨rfl, HC⟩
         ·try simp only [nm, ne_eq] at g39
          first | exact absurd rfl g39 | exact absurd trivial g39 | (simp at g39; done) | exact absurd g39 (by decide)
        ·try simp only [nm, ne_eq] at g33
         first | exact absurd rfl g33 | exact absurd trivial g33 | (simp at g33; done) | exact absurd g33 (by decide)
       ·try simp only [nm, ne_eq] at g32
        first | exact absurd rfl g32 | exact absurd trivial g32 | (simp at g32; done) | exact absurd g32 (by decide)
      ·try simp only [nm, ne_eq] at g31
       first | exact absurd rfl g31 | exact absurd trivial g31 | (simp at g31; done) | exact absurd g31 (by decide)
     ·try simp only [nm, ne_eq] at g25
      first | exact absurd rfl g25 | exact absurd trivial g25 | (simp at g25; done) | exact absurd g25 (by decide)
    ·try simp only [nm, ne_eq] at g19
     first | exact absurd rfl g19 | exact absurd trivial g19 | (simp at g19; done) | exact absurd g19 (by decide)
   ·try simp only [nm, ne_eq] at g18
    first | exact absurd rfl g18 | exact absurd trivial g18 | (simp at g18; done) | exact absurd g18 (by decide)
  ·try simp only [nm, ne_eq] at g17
   first | exact absurd rfl g17 | exact absurd trivial g17 | (simp at g17; done) | exact absurd g17 (by decide)
 ·try simp only [nm, ne_eq] at g9
  first | exact absurd rfl g9 | exact absurd trivial g9 | (simp at g9; done) | exact absurd g9 (by decide)

end Go.Proofs.YtiiahnpgomdfmaaDoor.K
set_option linter.unusedVariables false
set_option linter.unusedSimpArgs false
set_option autoImplicit false
set_option maxRecDepth 20000
namespace Go.Proofs.YtiiahnpgomdfmaaDoor.K
open Go Go.RowKit

end Go.Proofs.YtiiahnpgomdfmaaDoor.K
set_option linter.unusedVariables false
set_option linter.unusedSimpArgs false
set_option autoImplicit false
set_option maxRecDepth 20000
namespace Go.Proofs.YtiiahnpgomdfmaaDoor.K
open Go Go.Proofs Go.RowKit

end Go.Proofs.YtiiahnpgomdfmaaDoor.K
