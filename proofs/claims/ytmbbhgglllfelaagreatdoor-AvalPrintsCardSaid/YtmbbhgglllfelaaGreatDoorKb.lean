/- The law AvalPrints. -/
import Derived.Test.YtmbbhgglllfelaaGreatDoorKa
set_option linter.unusedVariables false
set_option linter.unusedSimpArgs false
set_option autoImplicit false
set_option maxRecDepth 20000
namespace Go.Proofs.YtmbbhgglllfelaaGreatDoor.K
open Go Go.Proofs Go.RowKit
open Tr
theorem AvalPrints_spec {vs : List Vr} {Av : Option Addr} {cv : Nat} {Dv : Nat → Prop} {w : World} (s : Bytes) (hv : Sl prE w Dv Av vs) (hl : vs.length ≤ 1000000000000000) (hsz : ∀ p, p ∈ vs → p.1.length ≤ 1000000000000000 ∧ p.2.length ≤ 1000000000000000) (ht : Tab w) : CallR Tryz.prog 5 #[S s, .slice Av vs.length cv] w fun v w' => v = .bool true ∧ Chg [] w w' := by
 replace hv := hv.mono (D' := fun k => k < w.heap.size) (fun k hk _ => hk)
 refine callR_of_wp (args := [_, _]) Tryz.func5 rfl (Nat.le_of_ble_eq_true rfl) ?_
 have HC : Chg [] w w := .refl _
 have ht1 := ht.lt
 refine sr rfl <| aB rfl <| en <| x_seq <| sr rfl <| mS rfl <| Wp rfl <| st_slen (ct := #[9]) T.u9 rfl <| Wp rfl <| st_gtr rfl rfl <| mB rfl <| w_split (d := 17) rfl (fun g1 => ?_) (fun g1 => ?_)
 ·try simp only [nm, ne_eq] at g1
  iterate 3 refine w_no 3 17 false ?_
  refine pT rfl rfl <| en <| x_cond (t := true) rfl (fun h0 => ?_) (fun h0 => ?_)
  rotate_left
  · exact absurd h0 (by decide)
  refine sr rfl <| Wp rfl <| st_call (ags := []) rfl rfl T.ent7 rfl (awake14_spec _ ht) ?_
  rintro _ w2 ⟨rfl, c3⟩
  replace HC := HC.then c3
  replace ht := ht.tr0 c3
  replace hv := hv.tr0 c3
  refine aB rfl <| en <| x_ret <| then_r <| ret_tmp (v := .bool _) rfl rfl ?_
  exact ⟨rfl, HC⟩
 ·try simp only [nm, ne_eq] at g1
  refine w_yes 3 17 false <| st_move (v := .slice _ _ _) rfl <| w_yes 3 17 false <| st_call (ags := [_]) rfl rfl T.ent6 rfl (good_spec hv hl hsz) ?_
  rintro _ w4 ⟨⟨gd, rfl, hgd⟩, c5⟩
  replace HC := HC.then c5
  replace ht := ht.tr0 c5
  replace hv := hv.tr0 c5
  refine w_yes 3 17 false <| st_not rfl <| pF rfl rfl <| en <| x_cond rfl (fun h0 => ?_) (fun h0 => ?_)
  ·try simp only [nm, ne_eq] at h0
   refine sr rfl <| Wp rfl <| st_call (ags := []) rfl rfl T.ent7 rfl (awake14_spec _ ht) ?_
   rintro _ w6 ⟨rfl, c7⟩
   replace HC := HC.then c7
   replace ht := ht.tr0 c7
   replace hv := hv.tr0 c7
   refine aB rfl <| en <| x_ret <| then_r <| ret_tmp (v := .bool _) rfl rfl ?_
   exact ⟨rfl, HC⟩
  ·try simp only [nm, ne_eq] at h0
   have hgood : Gd vs := hgd (by first | assumption | simp_all)
   refine x_skip <| then_n <| x_seq ?_
   rcases parse_tree (L := toksF (s.length + 1) s 0) (by omega) rfl with ⟨hbad, _⟩ | ⟨hp2, t, hok, htz, hp1⟩
   ·obtain ⟨hgr, hgl, hgn⟩ := hgood
    have hvk := gd_vk ⟨hgr, hgl, hgn⟩
    refine x_region rfl <| mS rfl <| Wp rfl <| st_call (ags := [_]) rfl rfl T.ent11 rfl (RParse_spec (L := toksF (s.length + 1) s 0) s _ rfl (by omega)) ?_
    rintro _ w8 ⟨Al, capl, rfl, hlo, c9⟩
    clear hlo
    replace HC := HC.then c9
    replace ht := ht.tr0 c9
    replace hv := hv.tr0 c9
    refine mv (v := .tuple ⟨[_, _, _]⟩) rfl <| Wp rfl <| st_extract (vs := [_, _, _]) (v := .slice _ _ _) rfl rfl <| Wp rfl <| st_extract (vs := [_, _, _]) (v := .int _ _) rfl rfl <| Wp rfl <| st_extract (vs := [_, _, _]) (v := .int _ _) rfl rfl <| aL rfl <| aI rfl <| aI rfl <| en <| x_seq <| sr rfl <| mI rfl <| Wp rfl <| st_neq rfl rfl <| mB rfl <| w_split (d := 31) rfl (fun g10 => ?_) (fun g10 => ?_)
    ·try simp only [nm, ne_eq] at g10
     iterate 3 refine w_no 2 31 false ?_
     refine pT rfl rfl <| en <| x_cond (t := true) rfl (fun h1 => ?_) (fun h1 => ?_)
     rotate_left
     · exact absurd h1 (by decide)
     refine sr rfl <| Wp rfl <| st_call (ags := []) rfl rfl T.ent7 rfl (awake14_spec _ ht) ?_
     rintro _ w11 ⟨rfl, c12⟩
     replace HC := HC.then c12
     replace ht := ht.tr0 c12
     replace hv := hv.tr0 c12
     refine aB rfl <| en <| x_ret <| then_r <| ret_tmp (v := .bool _) rfl rfl ?_
     exact ⟨rfl, HC⟩
    ·try simp only [nm, ne_eq] at g10
     exact absurd g10 hbad
   ·obtain ⟨hgr, hgl, hgn⟩ := hgood
    have hvk := gd_vk ⟨hgr, hgl, hgn⟩
    have hp := tree_p hp1 hp2
    obtain ⟨r, hr, hrp⟩ := runV_some t vs hok hvk
    have hrl : (evalR r vs).2.1.length ≤ 100000000 := by have h9 := (runV_vk t vs r hr hvk).2; unfold evalR; split; (have := hp1 ▸ Tr.row_len t 0); omega; (dsimp only; omega)
    refine x_region rfl <| mS rfl <| Wp rfl <| st_call (ags := [_]) rfl rfl T.ent11 rfl (RParse_spec (L := toksF (s.length + 1) s 0) s _ rfl (by omega)) ?_
    rintro _ w13 ⟨Al, capl, rfl, hlo, c14⟩
    rw [hp] at hlo ⊢
    dsimp only at hlo
    replace HC := HC.then c14
    replace ht := ht.tr0 c14
    replace hv := hv.tr0 c14
    refine mv (v := .tuple ⟨[_, _, _]⟩) rfl <| Wp rfl <| st_extract (vs := [_, _, _]) (v := .slice _ _ _) rfl rfl <| Wp rfl <| st_extract (vs := [_, _, _]) (v := .int _ _) rfl rfl <| Wp rfl <| st_extract (vs := [_, _, _]) (v := .int _ _) rfl rfl <| aL rfl <| aI rfl <| aI rfl <| en <| x_seq <| sr rfl <| mI rfl <| Wp rfl <| st_neq rfl rfl <| mB rfl <| w_split (d := 31) rfl (fun g15 => ?_) (fun g15 => ?_)
    ·try simp only [nm, ne_eq] at g15
     first | exact absurd rfl g15 | exact absurd trivial g15 | (simp at g15; done)
    ·try simp only [nm, ne_eq] at g15
     refine w_yes 2 31 false <| st_move (v := .slice _ _ _) rfl <| w_yes 2 31 false <| st_len (ct := #[32]) (by rw [show ((#[32] : Array TypeId)[0]?).bind Tryz.prog.underlying = some (.slice 38) from T.u32]; rfl) rfl <| w_yes 2 31 false <| st_gtr rfl rfl <| pF rfl rfl <| en <| x_cond rfl (fun h1 => ?_) (fun h1 => ?_)
     ·try simp only [nm, ne_eq] at h1
      refine sr rfl <| Wp rfl <| st_call (ags := []) rfl rfl T.ent7 rfl (awake14_spec _ ht) ?_
      rintro _ w16 ⟨rfl, c17⟩
      replace HC := HC.then c17
      replace ht := ht.tr0 c17
      replace hv := hv.tr0 c17
      replace hlo := hlo.tr0 c17
      refine aB rfl <| en <| x_ret <| then_r <| ret_tmp (v := .bool _) rfl rfl ?_
      exact ⟨rfl, HC⟩
     ·try simp only [nm, ne_eq] at h1
      have hrl2 := Tr.row_len t 0
      have hz200 : t.sz ≤ 200 := by omega
      have hli := str_short (by omega) hok hp hz200
      have hsl := str_len t 0 hok
      refine x_skip <| then_n <| sr rfl <| mS rfl <| mL rfl <| Wp rfl <| st_call (ags := [_, _]) rfl rfl T.ent8 rfl (Eval_run (vs := vs) (L := toksF (s.length + 1) s 0) s t r rfl (by omega) hok htz hp hv (fun _ => trivial) hvk (by omega) hr ht) ?_
      rintro _ w18 ⟨⟨A1, cap1, rfl, hr1⟩, c19⟩
      replace HC := HC.then c19
      replace ht := ht.tr0 c19
      replace hv := hv.tr0 c19
      replace hlo := hlo.tr0 c19
      refine mv (v := .tuple ⟨[_, _, _]⟩) rfl <| Wp rfl <| st_extract (vs := [_, _, _]) (v := .int _ _) rfl rfl <| Wp rfl <| st_extract (vs := [_, _, _]) (v := .slice _ _ _) rfl rfl <| Wp rfl <| st_extract (vs := [_, _, _]) (v := .int _ _) rfl rfl <| aI rfl <| aL rfl <| aI rfl <| en <| x_seq ?_
      rcases parse_str hok htz rfl with hq | ⟨aq, hq⟩
      ·refine x_region rfl <| mL rfl <| Wp rfl <| st_call (ags := [_]) rfl rfl T.ent13 rfl (Print_spec (l := t.row 0) (hlo.sl) (tree_fitV hok htz) (by omega) (tree_num t 0 hok)) ?_
       rintro vp w20 ⟨hvp, c21⟩
       rw [printV_tree hok] at hvp
       subst hvp
       replace HC := HC.then c21
       replace ht := ht.tr0 c21
       replace hv := hv.tr0 c21
       replace hlo := hlo.tr0 c21
       replace hr1 := hr1.tr0 c21
       refine mL rfl <| Wp rfl <| st_call (ags := [_, _]) rfl rfl T.ent8 rfl (Eval_run (vs := vs) (L := toksF ((str t).length + 1) (str t) 0) (str t) t r rfl (by omega) hok htz hq hv (fun _ => trivial) hvk (by omega) hr ht) ?_
       rintro _ w22 ⟨⟨A2, cap2, rfl, hr2⟩, c23⟩
       replace HC := HC.then c23
       replace ht := ht.tr0 c23
       replace hv := hv.tr0 c23
       replace hlo := hlo.tr0 c23
       replace hr1 := hr1.tr0 c23
       refine mv (v := .tuple ⟨[_, _, _]⟩) rfl <| Wp rfl <| st_extract (vs := [_, _, _]) (v := .int _ _) rfl rfl <| Wp rfl <| st_extract (vs := [_, _, _]) (v := .slice _ _ _) rfl rfl <| Wp rfl <| st_extract (vs := [_, _, _]) (v := .int _ _) rfl rfl <| aI rfl <| aL rfl <| aI rfl <| en <| sr rfl <| mI rfl <| Wp rfl <| st_eql rfl rfl <| mB rfl <| w_split (d := 54) rfl (fun g24 => ?_) (fun g24 => ?_)
       ·try simp only [nm, ne_eq] at g24
        iterate 4 refine w_no 2 54 false ?_
        iterate 3 refine w_no 6 58 true ?_
        refine w_no 2 54 false <| w_no 2 54 false ?_
        iterate 3 refine w_no 11 63 true ?_
        refine w_no 2 54 false <| pT rfl rfl <| mB rfl <| w_yes 17 69 true <| st_call (ags := []) rfl rfl T.ent7 rfl (awake14_spec _ ht) ?_
        rintro _ w25 ⟨rfl, c26⟩
        replace HC := HC.then c26
        replace ht := ht.tr0 c26
        replace hv := hv.tr0 c26
        replace hlo := hlo.tr0 c26
        replace hr1 := hr1.tr0 c26
        replace hr2 := hr2.tr0 c26
        refine pT rfl rfl <| aB rfl <| en <| x_ret <| ret_tmp (v := .bool _) rfl rfl ?_
        exact ⟨rfl, HC⟩
       ·try simp only [nm, ne_eq] at g24
        refine w_yes 2 54 false <| st_move (v := .int _ _) rfl <| w_yes 2 54 false <| st_move (v := .int _ _) rfl <| w_yes 2 54 false <| st_eql rfl rfl <| w_yes 2 54 false <| st_move (v := .bool _) rfl <| w_split (d := 58) rfl (fun g27 => ?_) (fun g27 => ?_)
        ·try simp only [nm, ne_eq] at g27
         refine w_yes 6 58 true <| st_move (v := .slice _ _ _) rfl <| w_yes 6 58 true <| st_move (v := .slice _ _ _) rfl <| w_yes 6 58 true <| st_call (ags := [_, _]) rfl rfl T.ent10 rfl (RSameP_spec (a := (evalR r vs).2.1) (b := (evalR r vs).2.1) hr1 hr2 (by omega)) ?_
         rintro vS w28 ⟨hS, c29⟩
         rw [decide_eq_true rfl] at hS
         subst hS
         replace HC := HC.then c29
         replace ht := ht.tr0 c29
         replace hv := hv.tr0 c29
         replace hlo := hlo.tr0 c29
         replace hr1 := hr1.tr0 c29
         replace hr2 := hr2.tr0 c29
         refine w_yes 2 54 false <| st_pick (b := true) (v := .bool _) rfl rfl <| w_yes 2 54 false <| st_move (v := .bool _) rfl <| w_split (d := 63) rfl (fun g30 => ?_) (fun g30 => ?_)
         ·try simp only [nm, ne_eq] at g30
          refine w_yes 11 63 true <| st_move (v := .int _ _) rfl <| w_yes 11 63 true <| st_move (v := .int _ _) rfl <| w_yes 11 63 true <| st_eql rfl rfl <| w_yes 2 54 false <| st_pick (b := true) (v := .bool _) rfl rfl <| pF rfl rfl <| mB rfl <| w_split (d := 69) rfl (fun g31 => ?_) (fun g31 => ?_)
          ·try simp only [nm, ne_eq] at g31
           refine w_yes 17 69 true <| st_call (ags := []) rfl rfl T.ent7 rfl (awake14_spec _ ht) ?_
           rintro _ w32 ⟨rfl, c33⟩
           replace HC := HC.then c33
           replace ht := ht.tr0 c33
           replace hv := hv.tr0 c33
           replace hlo := hlo.tr0 c33
           replace hr1 := hr1.tr0 c33
           replace hr2 := hr2.tr0 c33
           refine pT rfl rfl <| aB rfl <| en <| x_ret <| ret_tmp (v := .bool _) rfl rfl ?_
           exact ⟨rfl, HC⟩
          ·try simp only [nm, ne_eq] at g31
           first | exact absurd rfl g31 | exact absurd trivial g31 | (simp at g31; done)
         ·try simp only [nm, ne_eq] at g30
          first | exact absurd rfl g30 | exact absurd trivial g30 | (simp at g30; done)
        ·try simp only [nm, ne_eq] at g27
         first | exact absurd rfl g27 | exact absurd trivial g27 | (simp at g27; done)
      ·refine x_region rfl <| mL rfl <| Wp rfl <| st_call (ags := [_]) rfl rfl T.ent13 rfl (Print_spec (l := t.row 0) (hlo.sl) (tree_fitV hok htz) (by omega) (tree_num t 0 hok)) ?_
       rintro vp w34 ⟨hvp, c35⟩
       rw [printV_tree hok] at hvp
       subst hvp
       replace HC := HC.then c35
       replace ht := ht.tr0 c35
       replace hv := hv.tr0 c35
       replace hlo := hlo.tr0 c35
       replace hr1 := hr1.tr0 c35
       refine mL rfl <| Wp rfl <| st_call (ags := [_, _]) rfl rfl T.ent8 rfl (Eval_bad (vs := vs) (L := toksF ((str t).length + 1) (str t) 0) (str t) rfl (by omega) (by rw [hq]; show (104 : Int) ≠ 0; decide) ht) ?_
       rintro vE w36 ⟨hE, c37⟩
       rw [hq] at hE
       subst hE
       replace HC := HC.then c37
       replace ht := ht.tr0 c37
       replace hv := hv.tr0 c37
       replace hlo := hlo.tr0 c37
       replace hr1 := hr1.tr0 c37
       refine mv (v := .tuple ⟨[_, _, _]⟩) rfl <| Wp rfl <| st_extract (vs := [_, _, _]) (v := .int _ _) rfl rfl <| Wp rfl <| st_extract (vs := [_, _, _]) (v := .slice _ _ _) rfl rfl <| Wp rfl <| st_extract (vs := [_, _, _]) (v := .int _ _) rfl rfl <| aI rfl <| aL rfl <| aI rfl <| en <| sr rfl <| mI rfl <| Wp rfl <| st_eql rfl rfl <| mB rfl <| w_split (d := 54) rfl (fun g38 => ?_) (fun g38 => ?_)
       ·try simp only [nm, ne_eq] at g38
        iterate 4 refine w_no 2 54 false ?_
        iterate 3 refine w_no 6 58 true ?_
        refine w_no 2 54 false <| w_no 2 54 false ?_
        iterate 3 refine w_no 11 63 true ?_
        refine w_no 2 54 false <| pT rfl rfl <| mB rfl <| w_yes 17 69 true <| st_call (ags := []) rfl rfl T.ent7 rfl (awake14_spec _ ht) ?_
        rintro _ w39 ⟨rfl, c40⟩
        replace HC := HC.then c40
        replace ht := ht.tr0 c40
        replace hv := hv.tr0 c40
        replace hlo := hlo.tr0 c40
        replace hr1 := hr1.tr0 c40
        refine pT rfl rfl <| aB rfl <| en <| x_ret <| ret_tmp (v := .bool _) rfl rfl ?_
        exact ⟨rfl, HC⟩
       ·try simp only [nm, ne_eq] at g38
        first | exact absurd rfl g38 | exact absurd trivial g38 | (simp at g38; done)

end Go.Proofs.YtmbbhgglllfelaaGreatDoor.K
