/- The chapter's examples. -/
import Derived.Test.YtcgcbpknbjafcaaDoorCi
import Derived.Test.YtcgcbpknbjafcaaDoorKitN
set_option linter.unusedVariables false
set_option linter.unusedSimpArgs false
set_option autoImplicit false
set_option maxRecDepth 20000
namespace Go.Proofs.YtcgcbpknbjafcaaDoor.K
open Go Go.Proofs Go.RowKit

def bw1 : Bytes := [49, 43, 50, 42, 97, 61, 51]
def bw2 : Bytes := [97, 61, 49, 43, 50, 42, 51]
def bw3 : Bytes := [120, 63, 45, 49, 58, 121]
def bwA : List Nd := [⟨[35], 1, [], []⟩, ⟨[35], 2, [], []⟩, ⟨[35], 3, [], []⟩, ⟨[42], 0, [], [1, 2]⟩, ⟨[43], 0, [], [0, 3]⟩, ⟨[61], 0, [97], [4]⟩]
def bwB : List Nd := [⟨[36], 0, [120], []⟩, ⟨[35], 1, [], []⟩, ⟨[117, 45], 0, [], [1]⟩, ⟨[36], 0, [121], []⟩, ⟨[63], 0, [], [0, 2, 3]⟩]
theorem bw1_eq : parseV bw1 (toksF (bw1.length + 1) bw1 0) = ([], 5, 101) := by kernel_rfl
theorem bw2_eq : parseV bw2 (toksF (bw2.length + 1) bw2 0) = (bwA, 0, 0) := by kernel_rfl
theorem bw3_eq : parseV bw3 (toksF (bw3.length + 1) bw3 0) = (bwB, 0, 0) := by kernel_rfl
theorem bwA_fit : fitV bwA = true := by kernel_rfl
theorem bwB_fit : fitV bwB = true := by kernel_rfl
theorem bw4_eq : tokV (toksF 2 [49] 0) = ([((1, 1, []), 0), ((0, 0, []), 1)], 0, 0) := by kernel_rfl
theorem bwA_small : ∀ x, x ∈ bwA → x.kids.length ≤ 140737488355328 ∧ x.name.length ≤ 140737488355328 := by decide
theorem bwB_small : ∀ x, x ∈ bwB → x.kids.length ≤ 140737488355328 ∧ x.name.length ≤ 140737488355328 := by decide
theorem bwA_num : ∀ x, x ∈ bwA → x.num ≤ 9223372036854775807 := by decide
theorem bwB_num : ∀ x, x ∈ bwB → x.num ≤ 9223372036854775807 := by decide
theorem bwA_print : printV bwA = [40, 97, 61, 40, 49, 43, 40, 50, 42, 51, 41, 41, 41] := by kernel_rfl
theorem bwB_print : printV bwB = [40, 120, 63, 40, 45, 49, 41, 58, 121, 41] := by kernel_rfl

theorem awake3_spec (w : World) (ht : Tab w) : CallR Tryd.prog 20 #[] w fun v w' => v = .bool true ∧ Chg [] w w' := by
 refine callR_of_wp (args := []) Tryd.func20 rfl (Nat.le_of_ble_eq_true rfl) ?_
 have HC : Chg [] w w := .refl _
 have ht1 := ht.lt
 refine sr rfl <| aB rfl <| en <| sr rfl <| Wp rfl <| st_call (ags := [_]) rfl rfl T.ent21 rfl (Parse_spec (L := toksF (bw1.length + 1) bw1 0) bw1 _ rfl (by decide) ht) ?_
 rintro _ w1 ⟨A1, cap1, rfl, ho1, c2⟩
 rw [bw1_eq] at ho1 ⊢
 have hs1 := ho1.sl.mono (D' := fun k => w.heap.size ≤ k) (fun k _ h => by have := HC.size; omega)
 replace HC := HC.then c2
 replace ht := ht.tr0 c2
 refine mv (v := .tuple ⟨[_, _, _]⟩) rfl <| Wp rfl <| st_extract (vs := [_, _, _]) (v := .slice _ _ _) rfl rfl <| Wp rfl <| st_extract (vs := [_, _, _]) (v := .int _ _) rfl rfl <| Wp rfl <| st_extract (vs := [_, _, _]) (v := .int _ _) rfl rfl <| aL rfl <| aI rfl <| aI rfl <| en <| sr rfl <| Wp rfl <| st_call (ags := [_]) rfl rfl T.ent21 rfl (Parse_spec (L := toksF (bw2.length + 1) bw2 0) bw2 _ rfl (by decide) ht) ?_
 rintro _ w3 ⟨A2, cap2, rfl, ho2, c4⟩
 rw [bw2_eq] at ho2 ⊢
 have hs2 := ho2.sl.mono (D' := fun k => w.heap.size ≤ k) (fun k _ h => by have := HC.size; omega)
 replace HC := HC.then c4
 replace ht := ht.tr0 c4
 replace hs1 := hs1.tr0 c4
 refine mv (v := .tuple ⟨[_, _, _]⟩) rfl <| Wp rfl <| st_extract (vs := [_, _, _]) (v := .slice _ _ _) rfl rfl <| Wp rfl <| st_extract (vs := [_, _, _]) (v := .int _ _) rfl rfl <| Wp rfl <| st_extract (vs := [_, _, _]) (v := .int _ _) rfl rfl <| aL rfl <| aI rfl <| aI rfl <| en <| sr rfl <| Wp rfl <| st_call (ags := [_]) rfl rfl T.ent21 rfl (Parse_spec (L := toksF (bw3.length + 1) bw3 0) bw3 _ rfl (by decide) ht) ?_
 rintro _ w5 ⟨A3, cap3, rfl, ho3, c6⟩
 rw [bw3_eq] at ho3 ⊢
 have hs3 := ho3.sl.mono (D' := fun k => w.heap.size ≤ k) (fun k _ h => by have := HC.size; omega)
 replace HC := HC.then c6
 replace ht := ht.tr0 c6
 replace hs1 := hs1.tr0 c6
 replace hs2 := hs2.tr0 c6
 refine mv (v := .tuple ⟨[_, _, _]⟩) rfl <| Wp rfl <| st_extract (vs := [_, _, _]) (v := .slice _ _ _) rfl rfl <| Wp rfl <| st_extract (vs := [_, _, _]) (v := .int _ _) rfl rfl <| Wp rfl <| st_extract (vs := [_, _, _]) (v := .int _ _) rfl rfl <| aL rfl <| aI rfl <| aI rfl <| en <| sr rfl <| Wp rfl <| st_call (ags := [_]) rfl rfl T.ent13 rfl (RTokens_spec (L := toksF 2 [49] 0) [49] _ rfl (by decide)) ?_
 rintro _ w7 ⟨A4, cap4, rfl, ho4, c8⟩
 rw [bw4_eq] at ho4 ⊢
 replace HC := HC.then c8
 replace ht := ht.tr0 c8
 replace hs1 := hs1.tr0 c8
 replace hs2 := hs2.tr0 c8
 replace hs3 := hs3.tr0 c8
 refine mv (v := .tuple ⟨[_, _, _]⟩) rfl <| Wp rfl <| st_extract (vs := [_, _, _]) (v := .slice _ _ _) rfl rfl <| Wp rfl <| st_extract (vs := [_, _, _]) (v := .int _ _) rfl rfl <| Wp rfl <| st_extract (vs := [_, _, _]) (v := .int _ _) rfl rfl <| aL rfl <| aI rfl <| aI rfl <| en <| x_seq <| sr rfl <| mI rfl <| Wp rfl <| st_neq rfl rfl <| mB rfl <| w_split (d := 35) rfl (fun g9 => ?_) (fun g9 => ?_)
 ·try simp only [nm, ne_eq] at g9
  first | exact absurd rfl g9 | (rw [bwA_fit] at g9; simp at g9; done) | (rw [bwB_fit] at g9; simp at g9; done) | exact absurd bwA_print g9 | exact absurd bwB_print g9 | (simp at g9; done)
 ·try simp only [nm, ne_eq] at g9
  refine w_yes 2 35 false <| st_move (v := .int _ _) rfl <| w_yes 2 35 false <| st_neq rfl rfl <| pF rfl rfl <| mB rfl <| w_split (d := 39) rfl (fun g10 => ?_) (fun g10 => ?_)
  ·try simp only [nm, ne_eq] at g10
   first | exact absurd rfl g10 | (rw [bwA_fit] at g10; simp at g10; done) | (rw [bwB_fit] at g10; simp at g10; done) | exact absurd bwA_print g10 | exact absurd bwB_print g10 | (simp at g10; done)
  ·try simp only [nm, ne_eq] at g10
   refine w_yes 6 39 false <| st_move (v := .slice _ _ _) rfl <| w_yes 6 39 false <| st_call (ags := [_]) rfl rfl T.ent24 rfl (RFit_spec hs2 bwA_small (by decide)) ?_
   rintro _ w11 ⟨rfl, c12⟩
   replace HC := HC.then c12
   replace ht := ht.tr0 c12
   replace hs1 := hs1.tr0 c12
   replace hs2 := hs2.tr0 c12
   replace hs3 := hs3.tr0 c12
   refine w_yes 6 39 false <| st_not rfl <| pF rfl rfl <| mB rfl <| w_split (d := 44) rfl (fun g13 => ?_) (fun g13 => ?_)
   ·try simp only [nm, ne_eq] at g13
    first | exact absurd rfl g13 | (rw [bwA_fit] at g13; simp at g13; done) | (rw [bwB_fit] at g13; simp at g13; done) | exact absurd bwA_print g13 | exact absurd bwB_print g13 | (simp at g13; done)
   ·try simp only [nm, ne_eq] at g13
    refine w_yes 11 44 false <| st_move (v := .slice _ _ _) rfl <| w_yes 11 44 false <| st_call (ags := [_]) rfl rfl T.ent24 rfl (RFit_spec hs3 bwB_small (by decide)) ?_
    rintro _ w14 ⟨rfl, c15⟩
    replace HC := HC.then c15
    replace ht := ht.tr0 c15
    replace hs1 := hs1.tr0 c15
    replace hs2 := hs2.tr0 c15
    replace hs3 := hs3.tr0 c15
    refine w_yes 11 44 false <| st_not rfl <| pF rfl rfl <| en <| x_cond rfl (fun h0 => ?_) (fun h0 => ?_)
    ·try simp only [nm, ne_eq] at h0
     first | exact absurd rfl h0 | (rw [bwA_fit] at h0; simp at h0; done) | (rw [bwB_fit] at h0; simp at h0; done) | exact absurd bwA_print h0 | exact absurd bwB_print h0 | (simp at h0; done)
    ·try simp only [nm, ne_eq] at h0
     refine x_skip <| then_n <| sr rfl <| mI rfl <| Wp rfl <| st_eql rfl rfl <| mB rfl <| w_split (d := 51) rfl (fun g16 => ?_) (fun g16 => ?_)
     ·try simp only [nm, ne_eq] at g16
      refine w_yes 2 51 true <| st_move (v := .int _ _) rfl <| w_yes 2 51 true <| st_eql rfl rfl <| pT rfl rfl <| mB rfl <| w_split (d := 55) rfl (fun g17 => ?_) (fun g17 => ?_)
      ·try simp only [nm, ne_eq] at g17
       refine w_yes 6 55 true <| st_move (v := .slice _ _ _) rfl <| w_yes 6 55 true <| st_call (ags := [_]) rfl rfl T.ent26 rfl (Print_spec hs2 bwA_fit (by decide) bwA_num) ?_
       rintro _ w18 ⟨rfl, c19⟩
       replace HC := HC.then c19
       replace ht := ht.tr0 c19
       replace hs1 := hs1.tr0 c19
       replace hs2 := hs2.tr0 c19
       replace hs3 := hs3.tr0 c19
       refine w_yes 6 55 true <| st_seql rfl rfl <| pT rfl rfl <| mB rfl <| w_split (d := 60) rfl (fun g20 => ?_) (fun g20 => ?_)
       ·try simp only [nm, ne_eq] at g20
        refine w_yes 11 60 true <| st_move (v := .slice _ _ _) rfl <| w_yes 11 60 true <| st_call (ags := [_]) rfl rfl T.ent26 rfl (Print_spec hs3 bwB_fit (by decide) bwB_num) ?_
        rintro _ w21 ⟨rfl, c22⟩
        replace HC := HC.then c22
        replace ht := ht.tr0 c22
        replace hs1 := hs1.tr0 c22
        replace hs2 := hs2.tr0 c22
        replace hs3 := hs3.tr0 c22
        refine w_yes 11 60 true <| st_seql rfl rfl <| pT rfl rfl <| mB rfl <| w_split (d := 65) rfl (fun g23 => ?_) (fun g23 => ?_)
        ·try simp only [nm, ne_eq] at g23
         refine w_yes 16 65 true <| st_move (v := .slice _ _ _) rfl <| w_yes 16 65 true <| st_len (ct := #[23]) (by rw [show ((#[23] : Array TypeId)[0]?).bind Tryd.prog.underlying = some (.slice 34) from T.u23]; rfl) rfl <| w_yes 16 65 true <| st_eql rfl rfl <| pT rfl rfl <| mB rfl <| w_split (d := 70) rfl (fun g24 => ?_) (fun g24 => ?_)
         ·try simp only [nm, ne_eq] at g24
          refine w_yes 21 70 true <| st_move (v := .int _ _) rfl <| w_yes 21 70 true <| st_eql rfl rfl <| pT rfl rfl <| aB rfl <| en <| x_ret <| ret_tmp (v := .bool _) rfl rfl ?_
          first | exact ⟨rfl, HC⟩ | (refine ⟨?_, HC⟩; rw [bwB_fit]; rfl)
         ·try simp only [nm, ne_eq] at g24
          first | exact absurd rfl g24 | (rw [bwA_fit] at g24; simp at g24; done) | (rw [bwB_fit] at g24; simp at g24; done) | exact absurd bwA_print g24 | exact absurd bwB_print g24 | (simp at g24; done)
        ·try simp only [nm, ne_eq] at g23
         first | exact absurd rfl g23 | (rw [bwA_fit] at g23; simp at g23; done) | (rw [bwB_fit] at g23; simp at g23; done) | exact absurd bwA_print g23 | exact absurd bwB_print g23 | (simp at g23; done)
       ·try simp only [nm, ne_eq] at g20
        first | exact absurd rfl g20 | (rw [bwA_fit] at g20; simp at g20; done) | (rw [bwB_fit] at g20; simp at g20; done) | exact absurd bwA_print g20 | exact absurd bwB_print g20 | (simp at g20; done)
      ·try simp only [nm, ne_eq] at g17
       first | exact absurd rfl g17 | (rw [bwA_fit] at g17; simp at g17; done) | (rw [bwB_fit] at g17; simp at g17; done) | exact absurd bwA_print g17 | exact absurd bwB_print g17 | (simp at g17; done)
     ·try simp only [nm, ne_eq] at g16
      first | exact absurd rfl g16 | (rw [bwA_fit] at g16; simp at g16; done) | (rw [bwB_fit] at g16; simp at g16; done) | exact absurd bwA_print g16 | exact absurd bwB_print g16 | (simp at g16; done)

theorem light_spec {l : List Nd} {Al : Option Addr} {capl : Nat} {D : Nat → Prop} {w : World} (hl : Sl ndE w D Al l) (hb : lightN l ≤ 4611686018427387904) (hlen : l.length ≤ 140737488355328) : CallR Tryd.prog 25 #[.slice Al l.length capl] w fun v w' => v = .bool (decide (lightN l ≤ 9000)) ∧ Chg [] w w' := by
 replace hl := hl.mono (D' := fun k => k < w.heap.size) (fun k hk _ => hk)
 refine callR_of_wp (args := [_]) Tryd.func25 rfl (Nat.le_of_ble_eq_true rfl) ?_
 have HC : Chg [] w w := .refl _
 refine sr rfl <| aB rfl <| en <| sr rfl <| aI rfl <| en <| x_seq <| sr rfl <| mL rfl <| Wp rfl <| st_len (ct := #[39]) (by rw [show ((#[39] : Array TypeId)[0]?).bind Tryd.prog.underlying = some (.slice 60) from T.u39]; rfl) rfl <| mI rfl <| en <| x_block <| x_loop (ι := Nat) [3, 5, 8, 9, 10, 11, 12, 13, 14, 15, 16, 17, 18] (fun i => [(8, .int .i64 (i : Int)), (3, .int .i64 ((lightN (l.take i) : Nat) : Int))]) (fun i W => (i ≤ l.length) ∧ (Chg [] w W) ∧ (Sl ndE W (fun k => k < w.heap.size) Al l)) (fun i => l.length - i) 0 ?_ ?_ ?_
 · exact ⟨rfl, rfl, trivial⟩
 ·refine ⟨?_, HC, hl⟩
  exact Nat.zero_le _
 intro i G2 w1 ⟨hi, HC, hl⟩
 change wp _ _ _ _ _ (upds (over _ _ G2) [(8, .int .i64 (i : Int)), (3, .int .i64 ((lightN (l.take i) : Nat) : Int))]) _ _
 refine sr rfl <| Wp rfl <| st_lss rfl rfl <| en <| x_seq <| x_cond rfl (fun h0 => ?_) (fun h0 => ?_)
 ·try simp only [nm, ne_eq] at h0
  refine x_skip <| then_n <| x_seq <| x_block <| sr rfl ?_
  obtain ⟨x3, hx4⟩ : ∃ zz, l[i]? = some zz := ⟨_, List.getElem?_eq_getElem (by omega)⟩
  obtain ⟨lb9, _, vs8, hA5, hR7, hC6⟩ := hl.at hx4
  obtain ⟨K10, cK10, rfl, hk1_10, hk2_10, hk3_10⟩ := hR7
  refine Wp rfl <| st_indexAddr T.u39 T.size60 (congrArg (fun z => Value.slice z _ _) hA5) rfl (by omega) (by omega) <| Wp rfl <| st_loadA (vs := [_, _, _, _]) T.agg60 rfl hC6 rfl <| Wp rfl <| st_alloc T.zero60 ?_
  intro b11 w12 e13 c14 hb15
  have ge_b11 : w.heap.size ≤ b11 := by rw [e13]; exact HC.size
  replace HC := HC.then c14
  replace hl := hl.tr0 c14
  replace hk3_10 := hk3_10.tr0 c14
  clear e13
  refine Wp rfl <| st_store (v := .agg ⟨[S _, .int _ _, S _, .slice _ _ _]⟩) T.size60 rfl rfl rfl hb15 rfl (Nat.le_of_ble_eq_true rfl) (by simp [Value.oneCell', S]) rfl ?_
  intro w16 c17 hb18; simp only [setVs, setV] at hb18
  clear hb15
  replace HC := HC.then1 c17 ge_b11
  replace hl := hl.tr c17 (by intro k hx hD; simp only [List.mem_cons, List.mem_nil_iff, or_false] at hx; have hD2 : k < w.heap.size := hD; omega)
  replace hk3_10 := hk3_10.tr c17 (by intro k hx hD; simp only [List.mem_cons, List.mem_nil_iff, or_false] at hx; have hD2 : k < w.heap.size := hD; omega)
  refine en ?_
  have hlt := lightN_take l (i + 1)
  rw [lightN_step hx4] at hlt
  refine x_region rfl <| mI rfl <| fa T.fld60_2 rfl <| lS T.one9 rfl (hb18.cell rfl) <| Wp rfl <| st_slen (ct := #[9]) T.u9 rfl <| Wp rfl <| st_addn rfl rfl (by constructor <;> omega) <| Wp rfl <| st_addn rfl rfl (by constructor <;> omega) <| aI rfl <| wops_nil <| block_n <| then_n <| x_region rfl <| Wp rfl <| st_addn rfl rfl (by constructor <;> omega) <| mI rfl <| en <| ⟨i + 1, ?_, ?_, rfl, ⟨rfl, by rw [lightN_step hx4]; rfl, trivial⟩, ?_⟩
  ·refine ⟨?_, HC, hl⟩
   show i + 1 ≤ l.length; omega
  ·show l.length - (i + 1) < l.length - i; omega
  repeat (first | exact agree_upds agree_over rfl | refine agree_upd ?_ rfl | refine agree_upds ?_ rfl | refine agree_over_sub ?_ rfl)
 ·try simp only [nm, ne_eq] at h0
  have hil : i = l.length := by omega
  subst hil
  rw [List.take_length] at *
  refine x_exit <| then_x <| then_x <| block_x <| then_n <| sr rfl <| mI rfl <| Wp rfl <| st_leq rfl rfl <| aB rfl <| en <| x_ret <| ret_tmp (v := .bool _) rfl rfl <| ⟨congrArg Value.bool ?_, HC⟩
  rw [decide_eq_decide]
  omega

end Go.Proofs.YtcgcbpknbjafcaaDoor.K
