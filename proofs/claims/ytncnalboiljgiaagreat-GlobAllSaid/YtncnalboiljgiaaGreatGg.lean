import Derived.Test.YtncnalboiljgiaaGreatKitSq
import Derived.Test.YtncnalboiljgiaaGreatGf
set_option linter.unusedVariables false
set_option linter.unusedSimpArgs false
set_option autoImplicit false
set_option maxRecDepth 20000
namespace Go.Proofs.YtncnalboiljgiaaGreat.K
open Go Go.Proofs Go.RowKit
theorem all_nil {L : List Wn} {i : Nat} (h : L.length ≤ i) : (L.drop i).all Wn.star = true := by rw [List.drop_of_length_le h]; rfl
theorem all_on {L : List Wn} {i : Nat} {w : Wn} (h : L[i]? = some w) (hs : w.star = true) : (L.drop i).all Wn.star = (L.drop (i + 1)).all Wn.star := by rw [all_drop h, hs]; rfl
theorem all_off {L : List Wn} {i : Nat} {w : Wn} (h : L[i]? = some w) (hs : w.star = false) : (L.drop i).all Wn.star = false := by rw [all_drop h, hs]; rfl
set_option maxHeartbeats 800000 in
theorem gmatch_spec {L : List Wn} {A : Option Addr} {cap : Nat} {D : Nat → Prop} {w : World} (s : Bytes) (hl : Sl wnE w D A L) (hL : L.length ≤ 1000000000) (hs : s.length ≤ 1000000000) : CallR Tryz.prog 64 #[.slice A L.length cap, S s] w fun v w' => v = .bool (mt L s) ∧ Chg [] w w' := by
 refine callR_of_wp (args := [_, _]) Tryz.func64 rfl (Nat.le_of_ble_eq_true rfl) ?_
 have HC : Chg [] w w := .refl _
 refine sr rfl <| aB rfl <| en <| sr rfl <| aI rfl <| aI rfl <| aI rfl <| aI rfl <| en <| x_seq <| x_block <| x_loop (ι := Nat × Nat × Int × Nat) [4, 5, 6, 7, 8, 9, 10, 11, 12, 13, 14, 15, 16, 17, 18, 19, 20, 21, 22, 23, 24, 25, 26, 27, 28, 29, 30, 31, 32, 33, 34, 35, 36, 37, 38, 39, 40, 41, 42, 43, 44, 45, 46, 47, 48, 49, 50, 51, 52, 53, 54, 55, 56, 57] (fun ⟨i, k, back, fr⟩ => [(5, .int .i64 (i : Int)), (6, .int .i64 (k : Int)), (7, .int .i64 back), (8, .int .i64 (fr : Int))]) (fun ⟨i, k, back, fr⟩ W => (MInv L s i k back fr) ∧ (Chg [] w W) ∧ (Sl wnE W D A L)) (fun ⟨i, k, back, fr⟩ => mMu L s i k back fr) (0, 0, -1, 0) ?_ ?_ ?_
 · exact ⟨rfl, rfl, rfl, rfl, trivial⟩
 ·refine ⟨?_, HC, hl⟩
  exact minv_0
 intro ⟨i, k, back, fr⟩ G2 w1 ⟨hI, HC, hl⟩
 change wp _ _ _ _ _ (upds (over _ _ G2) [(5, .int .i64 (i : Int)), (6, .int .i64 (k : Int)), (7, .int .i64 back), (8, .int .i64 (fr : Int))]) _ _
 have hI1 := hI.1
 have hI2 := hI.2.1
 have hI3 := hI.2.2.1
 have hI4 : -1 ≤ back ∧ back ≤ L.length := by rcases hI.2.2.2 with ⟨h9, _⟩ | ⟨b9, h9, h8, _⟩ <;> omega
 refine x_seq <| sr rfl <| mI rfl <| mS rfl <| Wp rfl <| st_slen (ct := #[9]) T.u9 rfl <| Wp rfl <| st_lss rfl rfl <| en <| x_cond rfl (fun h0 => ?_) (fun h0 => ?_)
 ·try simp only [nm, ne_eq] at h0
  have hkl : k < s.length := by omega
  refine x_skip <| then_n <| x_block <| x_block <| sr rfl <| mI rfl <| mL rfl <| Wp rfl <| st_len (ct := #[105]) (by rw [show ((#[105] : Array TypeId)[0]?).bind Tryz.prog.underlying = some (.slice 134) from T.u105]; rfl) rfl <| Wp rfl <| st_lss rfl rfl <| mB rfl <| w_split (d := 23) rfl (fun g3 => ?_) (fun g3 => ?_)
  ·try simp only [nm, ne_eq] at g3
   have hil : i < L.length := by omega
   refine w_yes 4 23 true <| st_move (v := .slice _ _ _) rfl <| w_yes 4 23 true <| st_move (v := .int _ _) rfl ?_
   obtain ⟨x4, hx5⟩ : ∃ zz, L[i]? = some zz := ⟨_, List.getElem?_eq_getElem (by omega)⟩
   obtain ⟨lb10, _, vs9, hA6, hR8, hC7⟩ := hl.at hx5
   obtain ⟨tu12, vu13, rfl⟩ := wn_form hR8
   have hu11 := hR8
   refine w_yes 4 23 true <| st_indexAddr T.u105 T.size134 (congrArg (fun z => Value.slice z _ _) hA6) rfl (by omega) (by omega) <| w_yes 4 23 true <| st_load1 T.one134 rfl (hC7.at (j := 0) rfl) <| w_yes 4 23 true <| st_call (ags := [_]) rfl rfl T.ent88 rfl (gstar_spec hu11) ?_
   rintro _ w14 ⟨rfl, c15⟩
   replace HC := HC.then c15
   replace hl := hl.tr0 c15
   replace hu11 := wnE.tr0 hu11 c15
   refine pT rfl rfl <| aB rfl <| en <| x_cond rfl (fun h1 => ?_) (fun h1 => ?_)
   ·try simp only [nm, ne_eq] at h1
    have hst : x4.star = true := by first | assumption | simpa using h1
    refine sr rfl <| mI rfl <| mI rfl <| aI rfl <| aI rfl <| en <| x_region rfl <| mI rfl <| Wp rfl <| st_addn rfl rfl (by constructor <;> omega) <| aI rfl <| wops_nil <| block_n <| block_n <| then_n <| ⟨(i + 1, k, (i : Int), k), ?_, ?_, rfl, ⟨rfl, rfl, rfl, rfl, trivial⟩, ?_⟩
    ·refine ⟨?_, HC, hl⟩
     exact minv_star hI hx5 hst
    ·exact mMu_star hI hil
    exact q9
   ·try simp only [nm, ne_eq] at h1
    have hsf : x4.star = false := by first | assumption | simpa using h1
    refine x_seq ?_
    skip
    ·obtain ⟨lb20, _, vs19, hA16, hR18, hC17⟩ := hl.at (i := i) (x := x4) (hx5)
     obtain ⟨tu22, vu23, rfl⟩ := wn_form hR18
     have hu21 := hR18
     refine x_draw [(0, 0), (1, 0), (2, 0), (3, 0), (4, 0), (5, 0), (6, 0), (7, 0), (8, 0), (9, 0), (10, 0), (11, 0), (12, 0), (13, 0), (14, 1), (15, 0), (16, 0)] T.mixed rfl rfl rfl (fun W => W.heap[lb20]? = w14.heap[lb20]? ∧ True) ⟨rfl, trivial⟩ ?_
     have c25 := Chg.drew w14
     generalize World.drew w14 = w24 at c25 ⊢
     have ht_lb20 : lb20 < w24.heap.size ∧ w24.heap[lb20]? = w14.heap[lb20]? := ⟨Nat.lt_of_lt_of_le hC17.lt c25.size, c25.block lb20 hC17.lt (by simp)⟩
     replace HC := HC.then c25
     replace hl := hl.tr0 c25
     replace hu21 := wnE.tr0 hu21 c25
     refine sq_q rfl (fun W hT => r_move (v := .int _ _) rfl) <| sq_q rfl (fun W hT => r_move (v := .slice _ _ _) rfl) <| sq_q rfl (fun W hT => r_len (ct := #[105]) (by rw [show ((#[105] : Array TypeId)[0]?).bind Tryz.prog.underlying = some (.slice 134) from T.u105]; rfl) rfl) <| sq_q rfl (fun W hT => r_lss rfl rfl) <| sq_q rfl (fun W hT => r_move (v := .bool _) rfl) <| sq_split (d := 39) rfl (fun g26 => ?_) (fun g26 => ?_)
     ·try simp only [nm, ne_eq] at g26
      refine sq_q rfl (fun W hT => r_move (v := .slice _ _ _) rfl) <| sq_q rfl (fun W hT => r_move (v := .int _ _) rfl) <| sq_q rfl (fun W hT => r_indexAddr T.u105 T.size134 (congrArg (fun z => Value.slice z _ _) hA16) rfl (by omega) (by omega)) <| sq_q rfl (fun W hT => r_load1 T.one134 rfl (Cells.at (j := 0) (Cells.tr hC17 hT.1) rfl)) <| sq_q rfl (fun W hT => r_move (v := S _) rfl) <| sq_q rfl (fun W hT => r_move (v := .int _ _) rfl) <| sq_q rfl (fun W hT => r_sidx T.u9 rfl rfl (by omega) (by omega)) <| sq_q rfl (fun W hT => r_nilCheckI rfl) <| sq_q rfl (fun W hT => r_move (v := .iface _ _) rfl) <| sq_eff1 rfl (want_eff (ch := byte s k) hu21 rfl rfl (by rfl)) ?_
      rintro _ w27 ⟨rfl, c28⟩
      replace HC := HC.then c28
      replace hl := hl.tr0 c28
      replace hu21 := wnE.tr0 hu21 c28
      replace ht_lb20 := And.intro (Nat.lt_of_lt_of_le ht_lb20.1 c28.size) ((c28.block lb20 ht_lb20.1 (by simp)).trans ht_lb20.2)
      refine ⟨_, fun _ h => h, ⟨(by first | assumption | exact ht_lb20.2), trivial⟩, ?_⟩
      refine sq_q rfl (fun W hT => r_pick (b := true) (v := .bool _) rfl rfl) <| sq_q rfl (fun W hT => r_assign (v := .bool _) rfl) <| sq_nil <| then_n <| x_cond rfl (fun h2 => ?_) (fun h2 => ?_)
      ·try simp only [nm, ne_eq] at h2
       have htk : x4.takes (byte s k).toNat = true := by first | assumption | simpa using h2
       refine x_region rfl <| mI rfl <| Wp rfl <| st_addn rfl rfl (by constructor <;> omega) <| mI rfl <| Wp rfl <| st_addn rfl rfl (by constructor <;> omega) <| aI rfl <| aI rfl <| wops_nil <| block_n <| block_n <| then_n <| ⟨(i + 1, k + 1, back, fr), ?_, ?_, rfl, ⟨rfl, rfl, rfl, rfl, trivial⟩, ?_⟩
       ·refine ⟨?_, HC, hl⟩
        exact minv_take hI hkl (hx5) hsf htk
       ·exact mMu_take hkl hil
       exact q9
      ·try simp only [nm, ne_eq] at h2
       have hno : L[i]? = none ∨ ∃ w, L[i]? = some w ∧ w.star = false ∧ w.takes (byte s k).toNat = false := .inr ⟨_, (hx5), hsf, by first | assumption | simpa using h2⟩
       refine sr rfl <| mI rfl <| Wp rfl <| st_lss rfl rfl <| aB rfl <| en <| x_cond rfl (fun h3 => ?_) (fun h3 => ?_)
       ·try simp only [nm, ne_eq] at h3
        have hbn : back = -1 := by omega
        refine sr rfl <| aB rfl <| en <| x_ret <| block_r <| block_r <| then_r <| block_r <| then_r <| ret_tmp (v := .bool _) rfl rfl ?_
        subst hbn
        rw [minv_fail hI hkl hno]
        exact ⟨rfl, HC⟩
       ·try simp only [nm, ne_eq] at h3
        have hbk : ¬ back < 0 := by omega
        refine sr rfl <| mI rfl <| Wp rfl <| st_addn rfl rfl (by constructor <;> omega) <| aI rfl <| en <| x_region rfl <| mI rfl <| Wp rfl <| st_addn rfl rfl (by constructor <;> omega) <| mI rfl <| aI rfl <| aI rfl <| wops_nil <| block_n <| block_n <| then_n <| ⟨(back.toNat + 1, fr + 1, back, fr + 1), ?_, ?_, rfl, ⟨(congrArg (Value.int .i64) (show back + 1 = ((back.toNat + 1 : Nat) : Int) by omega)), rfl, rfl, rfl, trivial⟩, ?_⟩
        ·refine ⟨?_, HC, hl⟩
         exact minv_back hI hbk hkl hno
        ·exact mMu_back hI hkl
        exact q9
     ·try simp only [nm, ne_eq] at g26
      exfalso; omega
  ·try simp only [nm, ne_eq] at g3
   have hil : ¬ i < L.length := by omega
   iterate 5 refine w_no 4 23 true ?_
   refine pF rfl rfl <| aB rfl <| en <| x_cond (t := false) rfl (fun h1 => ?_) (fun h1 => ?_)
   · exact absurd h1 (by decide)
   refine x_seq ?_
   skip
   ·refine x_draw [(0, 0), (1, 0), (2, 0), (3, 0), (4, 0), (5, 0), (6, 0), (7, 0), (8, 0), (9, 0), (10, 0), (11, 0), (12, 0), (13, 0), (14, 1), (15, 0), (16, 0)] T.mixed rfl rfl rfl (fun _ => True) trivial ?_
    have c30 := Chg.drew w1
    generalize World.drew w1 = w29 at c30 ⊢
    replace HC := HC.then c30
    replace hl := hl.tr0 c30
    refine sq_q rfl (fun W hT => r_move (v := .int _ _) rfl) <| sq_q rfl (fun W hT => r_move (v := .slice _ _ _) rfl) <| sq_q rfl (fun W hT => r_len (ct := #[105]) (by rw [show ((#[105] : Array TypeId)[0]?).bind Tryz.prog.underlying = some (.slice 134) from T.u105]; rfl) rfl) <| sq_q rfl (fun W hT => r_lss rfl rfl) <| sq_q rfl (fun W hT => r_move (v := .bool _) rfl) <| sq_split (d := 39) rfl (fun g31 => ?_) (fun g31 => ?_)
    ·try simp only [nm, ne_eq] at g31
     exfalso; omega
    ·try simp only [nm, ne_eq] at g31
     refine sq_no rfl rfl <| sq_no rfl rfl <| sq_no rfl rfl <| sq_no rfl rfl <| sq_no rfl rfl <| sq_no rfl rfl <| sq_no rfl rfl <| sq_no rfl rfl <| sq_no rfl rfl <| sq_no rfl rfl <| sq_q rfl (fun W hT => r_pick (b := false) (v := .bool _) rfl rfl) <| sq_q rfl (fun W hT => r_assign (v := .bool _) rfl) <| sq_nil <| then_n <| x_cond (t := false) rfl (fun h2 => ?_) (fun h2 => ?_)
     · exact absurd h2 (by decide)
     have hno : L[i]? = none ∨ ∃ w, L[i]? = some w ∧ w.star = false ∧ w.takes (byte s k).toNat = false := .inl (List.getElem?_eq_none (by omega))
     refine sr rfl <| mI rfl <| Wp rfl <| st_lss rfl rfl <| aB rfl <| en <| x_cond rfl (fun h3 => ?_) (fun h3 => ?_)
     ·try simp only [nm, ne_eq] at h3
      have hbn : back = -1 := by omega
      refine sr rfl <| aB rfl <| en <| x_ret <| block_r <| block_r <| then_r <| block_r <| then_r <| ret_tmp (v := .bool _) rfl rfl ?_
      subst hbn
      rw [minv_fail hI hkl hno]
      exact ⟨rfl, HC⟩
     ·try simp only [nm, ne_eq] at h3
      have hbk : ¬ back < 0 := by omega
      refine sr rfl <| mI rfl <| Wp rfl <| st_addn rfl rfl (by constructor <;> omega) <| aI rfl <| en <| x_region rfl <| mI rfl <| Wp rfl <| st_addn rfl rfl (by constructor <;> omega) <| mI rfl <| aI rfl <| aI rfl <| wops_nil <| block_n <| block_n <| then_n <| ⟨(back.toNat + 1, fr + 1, back, fr + 1), ?_, ?_, rfl, ⟨(congrArg (Value.int .i64) (show back + 1 = ((back.toNat + 1 : Nat) : Int) by omega)), rfl, rfl, rfl, trivial⟩, ?_⟩
      ·refine ⟨?_, HC, hl⟩
       exact minv_back hI hbk hkl hno
      ·exact mMu_back hI hkl
      exact q9
 ·try simp only [nm, ne_eq] at h0
  have hke : k = s.length := by omega
  have hfin := minv_end hI hke
  refine x_exit <| then_x <| then_x <| block_x <| then_n <| x_seq <| x_block <| x_loop (ι := Nat) [5, 58, 59, 60, 61, 62, 63, 64, 65, 66, 67, 68, 69, 70] (fun j => [(5, .int .i64 (j : Int))]) (fun j W => (j ≤ L.length ∧ mt L s = (L.drop j).all Wn.star) ∧ (Chg [] w W) ∧ (Sl wnE W D A L)) (fun j => L.length - j) i ?_ ?_ ?_
  · exact ⟨rfl, trivial⟩
  ·refine ⟨?_, HC, hl⟩
   exact ⟨hI2, hfin⟩
  intro j G33 w32 ⟨⟨hj, hst⟩, HC, hl⟩
  change wp _ _ _ _ _ (upds (over _ _ G33) [(5, .int .i64 (j : Int))]) _ _
  refine x_seq <| sr rfl <| mI rfl <| mL rfl <| Wp rfl <| st_len (ct := #[105]) (by rw [show ((#[105] : Array TypeId)[0]?).bind Tryz.prog.underlying = some (.slice 134) from T.u105]; rfl) rfl <| Wp rfl <| st_lss rfl rfl <| mB rfl <| w_split (d := 62) rfl (fun g34 => ?_) (fun g34 => ?_)
  ·try simp only [nm, ne_eq] at g34
   have hjl : j < L.length := by omega
   refine w_yes 4 62 true <| st_move (v := .slice _ _ _) rfl <| w_yes 4 62 true <| st_move (v := .int _ _) rfl ?_
   obtain ⟨x35, hx36⟩ : ∃ zz, L[j]? = some zz := ⟨_, List.getElem?_eq_getElem (by omega)⟩
   obtain ⟨lb41, _, vs40, hA37, hR39, hC38⟩ := hl.at hx36
   obtain ⟨tu43, vu44, rfl⟩ := wn_form hR39
   have hu42 := hR39
   refine w_yes 4 62 true <| st_indexAddr T.u105 T.size134 (congrArg (fun z => Value.slice z _ _) hA37) rfl (by omega) (by omega) <| w_yes 4 62 true <| st_load1 T.one134 rfl (hC38.at (j := 0) rfl) <| w_yes 4 62 true <| st_call (ags := [_]) rfl rfl T.ent88 rfl (gstar_spec hu42) ?_
   rintro _ w45 ⟨rfl, c46⟩
   replace HC := HC.then c46
   replace hl := hl.tr0 c46
   replace hu42 := wnE.tr0 hu42 c46
   refine pT rfl rfl <| en <| x_cond rfl (fun h4 => ?_) (fun h4 => ?_)
   ·try simp only [nm, ne_eq] at h4
    have hsj : x35.star = true := by first | assumption | simpa using h4
    refine x_skip <| then_n <| x_block <| x_region rfl <| mI rfl <| Wp rfl <| st_addn rfl rfl (by constructor <;> omega) <| aI rfl <| wops_nil <| block_n <| then_n <| ⟨j + 1, ?_, ?_, rfl, ⟨rfl, trivial⟩, ?_⟩
    ·refine ⟨?_, HC, hl⟩
     exact ⟨by omega, by rw [hst, all_on hx36 hsj]⟩
    ·show L.length - (j + 1) < L.length - j; omega
    exact q9
   ·try simp only [nm, ne_eq] at h4
    have hal : mt L s = decide ((j : Int) = L.length) := by rw [hst, all_off hx36 (by first | assumption | simpa using h4), decide_eq_false (by omega)]
    refine x_exit <| then_x <| then_x <| block_x <| then_n <| sr rfl <| mI rfl <| mL rfl <| Wp rfl <| st_len (ct := #[105]) (by rw [show ((#[105] : Array TypeId)[0]?).bind Tryz.prog.underlying = some (.slice 134) from T.u105]; rfl) rfl <| Wp rfl <| st_eql rfl rfl <| aB rfl <| en <| x_ret <| ret_tmp (v := .bool _) rfl rfl ?_
    rw [hal]
    exact ⟨rfl, HC⟩
  ·try simp only [nm, ne_eq] at g34
   have hjl : ¬ j < L.length := by omega
   iterate 5 refine w_no 4 62 true ?_
   refine pF rfl rfl <| en <| x_cond (t := false) rfl (fun h4 => ?_) (fun h4 => ?_)
   · exact absurd h4 (by decide)
   have hal : mt L s = decide ((j : Int) = L.length) := by rw [hst, all_nil (by omega), decide_eq_true (by omega)]
   refine x_exit <| then_x <| then_x <| block_x <| then_n <| sr rfl <| mI rfl <| mL rfl <| Wp rfl <| st_len (ct := #[105]) (by rw [show ((#[105] : Array TypeId)[0]?).bind Tryz.prog.underlying = some (.slice 134) from T.u105]; rfl) rfl <| Wp rfl <| st_eql rfl rfl <| aB rfl <| en <| x_ret <| ret_tmp (v := .bool _) rfl rfl ?_
   rw [hal]
   exact ⟨rfl, HC⟩
theorem gMatch_spec (p q s : Bytes) (w : World) (hp : p.length ≤ 100000000) (hs : s.length ≤ 1000000000) : CallR Tryz.prog 42 #[S p, S q, S s] w fun v w' => v = .bool (matchV p q s) ∧ Chg [] w w' := by
 refine callR_of_wp (args := [_, _, _]) Tryz.func42 rfl (Nat.le_of_ble_eq_true rfl) ?_
 have HC : Chg [] w w := .refl _
 refine sr rfl <| aB rfl <| en <| sr rfl <| mS rfl <| mS rfl <| Wp rfl <| st_call (ags := [_, _]) rfl rfl T.ent65 rfl (gwants_spec p q _ hp) ?_
 rintro _ w1 ⟨⟨A, cap, rfl, hcp, hsl⟩, c2⟩
 have hwl := wantsF_len (p := p) (q := q) (p.length + 1) 0 (Nat.zero_le _)
 replace HC := HC.then c2
 refine mS rfl <| Wp rfl <| st_call (ags := [_, _]) rfl rfl T.ent64 rfl (gmatch_spec s hsl (by unfold wantsV; omega) hs) ?_
 rintro _ w3 ⟨rfl, c4⟩
 replace HC := HC.then c4
 refine aB rfl <| en <| x_ret <| ret_tmp (v := .bool _) rfl rfl ?_
 exact ⟨rfl, HC⟩
theorem gMagic_spec (p q : Bytes) (w : World) (hp : p.length ≤ 100000000) : CallR Tryz.prog 17 #[S p, S q] w fun v w' => v = .bool (magicV p q) ∧ Chg [] w w' := by
 refine callR_of_wp (args := [_, _]) Tryz.func17 rfl (Nat.le_of_ble_eq_true rfl) ?_
 have HC : Chg [] w w := .refl _
 refine sr rfl <| aB rfl <| en <| sr rfl <| mS rfl <| mS rfl <| Wp rfl <| st_bld (ps := [(0, .tmp 6), (1, .tmp 7)]) (vs := [S _, S _, .int _ _]) T.bld71 rfl <| Wp rfl <| st_box (v := .agg ⟨[S _, S _, .int _ _]⟩) (vs := [_, _, _]) rfl rfl ?_
 intro bt w1 e2 c3 hb4
 have ge_bt := gB e2 HC.size
 replace HC := HC.then c3
 clear e2
 refine aP rfl <| en <| x_seq <| x_block <| x_loop (ι := Nat) [4, 10, 11, 12, 13, 14, 15, 16, 17, 18, 19, 20, 21, 22, 23, 24, 25, 26, 27, 28, 29, 30, 31, 32, 33] (fun i => []) (fun i W => (i ≤ p.length ∧ magicV p q = magF p q (p.length - i) i) ∧ (Chg [] w W) ∧ (Blk W bt [S p, S q, .int .i64 (i : Int)] 71)) (fun i => p.length - i) 0 ?_ ?_ ?_
 · exact trivial
 ·refine ⟨?_, HC, hb4⟩
  exact ⟨Nat.zero_le _, rfl⟩
 intro i G6 w5 ⟨⟨hi, hmg⟩, HC, hbt⟩
 change wp _ _ _ _ _ (upds (over _ _ G6) []) _ _
 refine x_seq <| sr rfl <| mP rfl <| nc rfl <| fa T.fld71_2 rfl <| lI T.one3 rfl (hbt.cell rfl) <| mS rfl <| Wp rfl <| st_slen (ct := #[9]) T.u9 rfl <| Wp rfl <| st_lss rfl rfl <| en <| x_cond rfl (fun h0 => ?_) (fun h0 => ?_)
 ·try simp only [nm, ne_eq] at h0
  have hil : i < p.length := by omega
  refine x_skip <| then_n <| x_seq <| x_block <| sr rfl <| mP rfl <| Wp rfl <| st_call (ags := [_, _, _]) rfl rfl T.ent34 rfl (gis_spec hbt 0 [42] i (by omega) (by omega) (by omega) (by simp)) ?_
  rintro _ w7 ⟨rfl, c8⟩
  replace HC := HC.then c8
  replace hbt := hbt.tr0 c8
  refine mB rfl <| w_split (d := 26) rfl (fun g9 => ?_) (fun g9 => ?_)
  ·try simp only [nm, ne_eq] at g9
   have h42 : atB p q (i) 42 = true := ((isB_1 p q (i) 42).symm).trans (by assumption)
   refine w_no 2 26 false <| w_no 2 26 false <| pT rfl rfl <| mB rfl <| w_no 6 30 false <| w_no 6 30 false <| pT rfl rfl <| en <| x_cond (t := true) rfl (fun h1 => ?_) (fun h1 => ?_)
   rotate_left
   · exact absurd h1 (by decide)
   have hmb : mgB p q i = true := by unfold mgB; rw [h42]; rfl
   refine sr rfl <| aB rfl <| en <| x_ret <| block_r <| then_r <| then_r <| block_r <| then_r <| ret_tmp (v := .bool _) rfl rfl ?_
   rw [hmg, mag_on hil, hmb]
   exact ⟨rfl, HC⟩
  ·try simp only [nm, ne_eq] at g9
   have h42 : atB p q (i) 42 = false := ((isB_1 p q (i) 42).symm).trans (by assumption)
   refine w_yes 2 26 false <| st_move (v := .pointer _) rfl <| w_yes 2 26 false <| st_call (ags := [_, _, _]) rfl rfl T.ent34 rfl (gis_spec hbt 0 [63] i (by omega) (by omega) (by omega) (by simp)) ?_
   rintro _ w10 ⟨rfl, c11⟩
   replace HC := HC.then c11
   replace hbt := hbt.tr0 c11
   refine pF rfl rfl <| mB rfl <| w_split (d := 30) rfl (fun g12 => ?_) (fun g12 => ?_)
   ·try simp only [nm, ne_eq] at g12
    have h63 : atB p q (i) 63 = true := ((isB_1 p q (i) 63).symm).trans (by assumption)
    refine w_no 6 30 false <| w_no 6 30 false <| pT rfl rfl <| en <| x_cond (t := true) rfl (fun h1 => ?_) (fun h1 => ?_)
    rotate_left
    · exact absurd h1 (by decide)
    have hmb : mgB p q i = true := by unfold mgB; rw [h42, h63]; rfl
    refine sr rfl <| aB rfl <| en <| x_ret <| block_r <| then_r <| then_r <| block_r <| then_r <| ret_tmp (v := .bool _) rfl rfl ?_
    rw [hmg, mag_on hil, hmb]
    exact ⟨rfl, HC⟩
   ·try simp only [nm, ne_eq] at g12
    have h63 : atB p q (i) 63 = false := ((isB_1 p q (i) 63).symm).trans (by assumption)
    refine w_yes 6 30 false <| st_move (v := .pointer _) rfl <| w_yes 6 30 false <| st_call (ags := [_, _, _]) rfl rfl T.ent34 rfl (gis_spec hbt 0 [91] i (by omega) (by omega) (by omega) (by simp)) ?_
    rintro _ w13 ⟨rfl, c14⟩
    replace HC := HC.then c14
    replace hbt := hbt.tr0 c14
    refine pF rfl rfl <| en <| x_cond rfl (fun h1 => ?_) (fun h1 => ?_)
    ·try simp only [nm, ne_eq] at h1
     have h91 : atB p q (i) 91 = true := ((isB_1 p q (i) 91).symm).trans (by first | assumption | simpa using h1)
     have hmb : mgB p q i = true := by unfold mgB; rw [h42, h63, h91]; rfl
     refine sr rfl <| aB rfl <| en <| x_ret <| block_r <| then_r <| then_r <| block_r <| then_r <| ret_tmp (v := .bool _) rfl rfl ?_
     rw [hmg, mag_on hil, hmb]
     exact ⟨rfl, HC⟩
    ·try simp only [nm, ne_eq] at h1
     have h91 : atB p q (i) 91 = false := ((isB_1 p q (i) 91).symm).trans (by first | assumption | simpa using h1)
     have hmb : mgB p q i = false := by unfold mgB; rw [h42, h63, h91]; rfl
     refine x_skip <| block_n <| then_n <| x_region rfl <| mP rfl <| nc rfl <| fa T.fld71_2 rfl <| lI T.one3 rfl (hbt.cell rfl) <| Wp rfl <| st_addn rfl rfl (by constructor <;> omega) <| nc rfl <| fa T.fld71_2 rfl <| Wp rfl <| st_st (v := .int _ _) T.size3 rfl rfl rfl hbt ?_
     intro w15 c16 hb17; simp only [setVs, setV] at hb17
     clear hbt
     replace HC := HC.then1 c16 ge_bt
     refine en <| ⟨i + 1, ?_, ?_, rfl, trivial, ?_⟩
     ·refine ⟨?_, HC, hb17⟩
      exact ⟨by omega, by rw [hmg, mag_on hil, hmb]; rfl⟩
     ·show p.length - (i + 1) < p.length - i; omega
     exact q9
 ·try simp only [nm, ne_eq] at h0
  have hil : ¬ i < p.length := by omega
  refine x_exit <| then_x <| then_x <| block_x <| then_n <| sr rfl <| aB rfl <| en <| x_ret <| ret_tmp (v := .bool _) rfl rfl ?_
  rw [hmg, mag_end hil]
  exact ⟨rfl, HC⟩
end Go.Proofs.YtncnalboiljgiaaGreat.K
