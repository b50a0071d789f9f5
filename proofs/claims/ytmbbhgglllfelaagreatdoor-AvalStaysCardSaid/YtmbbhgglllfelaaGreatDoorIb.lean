/- The law AvalStays. -/
import Derived.Test.YtmbbhgglllfelaaGreatDoorIa
set_option linter.unusedVariables false
set_option linter.unusedSimpArgs false
set_option autoImplicit false
set_option maxRecDepth 20000
namespace Go.Proofs.YtmbbhgglllfelaaGreatDoor.K
open Go Go.Proofs Go.RowKit
open Tr
set_option maxHeartbeats 800000 in
theorem AvalStays_spec {vs : List Vr} {Av : Option Addr} {cv : Nat} {Dv : Nat → Prop} {w : World} (s : Bytes) (hv : Sl prE w Dv Av vs) (hl : vs.length ≤ 1000000000000000) (hsz : ∀ p, p ∈ vs → p.1.length ≤ 1000000000000000 ∧ p.2.length ≤ 1000000000000000) (ht : Tab w) : CallR Tryz.prog 4 #[S s, .slice Av vs.length cv] w fun v w' => v = .bool true ∧ Chg [] w w' := by
 replace hv := hv.mono (D' := fun k => k < w.heap.size) (fun k hk _ => hk)
 refine callR_of_wp (args := [_, _]) Tryz.func4 rfl (Nat.le_of_ble_eq_true rfl) ?_
 have HC : Chg [] w w := .refl _
 have ht1 := ht.lt
 refine sr rfl <| aB rfl <| en <| x_seq <| sr rfl <| mS rfl <| Wp rfl <| st_slen (ct := #[9]) T.u9 rfl <| Wp rfl <| st_gtr rfl rfl <| mB rfl <| w_split (d := 29) rfl (fun g1 => ?_) (fun g1 => ?_)
 ·try simp only [nm, ne_eq] at g1
  iterate 3 refine w_no 3 29 false ?_
  refine pT rfl rfl <| en <| x_cond (t := true) rfl (fun h0 => ?_) (fun h0 => ?_)
  rotate_left
  · exact absurd h0 (by decide)
  refine sr rfl <| Wp rfl <| st_call (ags := []) rfl rfl T.ent7 rfl (awake14_spec _ ht) ?_
  rintro _ w2 ⟨rfl, c3⟩
  replace HC := HC.then c3
  replace ht := ht.tr0 c3
  replace hv := hv.tr0 c3
  refine aB rfl <| en <| x_ret <| then_r <| ret_tmp (v := .bool _) rfl rfl ?_
  exact ⟨rfl, HC⟩
 ·try simp only [nm, ne_eq] at g1
  refine w_yes 3 29 false <| st_move (v := .slice _ _ _) rfl <| w_yes 3 29 false <| st_call (ags := [_]) rfl rfl T.ent6 rfl (good_spec hv hl hsz) ?_
  rintro _ w4 ⟨⟨gd, rfl, hgd⟩, c5⟩
  replace HC := HC.then c5
  replace ht := ht.tr0 c5
  replace hv := hv.tr0 c5
  refine w_yes 3 29 false <| st_not rfl <| pF rfl rfl <| en <| x_cond rfl (fun h0 => ?_) (fun h0 => ?_)
  ·try simp only [nm, ne_eq] at h0
   refine sr rfl <| Wp rfl <| st_call (ags := []) rfl rfl T.ent7 rfl (awake14_spec _ ht) ?_
   rintro _ w6 ⟨rfl, c7⟩
   replace HC := HC.then c7
   replace ht := ht.tr0 c7
   replace hv := hv.tr0 c7
   refine aB rfl <| en <| x_ret <| then_r <| ret_tmp (v := .bool _) rfl rfl ?_
   exact ⟨rfl, HC⟩
  ·try simp only [nm, ne_eq] at h0
   have hgood : Gd vs := hgd (by first | assumption | simp_all)
   have hvk := gd_vk hgood
   obtain ⟨hgr, hgl, hgn⟩ := hgood
   refine x_skip <| then_n <| x_seq ?_
   rcases stay_cases (s := s) (vs := vs) (by omega) hvk with hbad | ⟨t, r, hok, htz, hp, hr, her⟩ | ⟨t, r, hok, htz, hp, hr, her, hro, hol, hkp⟩
   ·refine x_region rfl <| mS rfl <| mL rfl <| Wp rfl <| st_call (ags := [_, _]) rfl rfl T.ent8 rfl (Eval_bad (vs := vs) (L := toksF (s.length + 1) s 0) s rfl (by omega) hbad ht) ?_
    rintro _ w8 ⟨rfl, c9⟩
    replace HC := HC.then c9
    replace ht := ht.tr0 c9
    replace hv := hv.tr0 c9
    refine mv (v := .tuple ⟨[_, _, _]⟩) rfl <| Wp rfl <| st_extract (vs := [_, _, _]) (v := .int _ _) rfl rfl <| Wp rfl <| st_extract (vs := [_, _, _]) (v := .slice _ _ _) rfl rfl <| Wp rfl <| st_extract (vs := [_, _, _]) (v := .int _ _) rfl rfl <| aI rfl <| aL rfl <| aI rfl <| en <| x_seq <| sr rfl <| mI rfl <| Wp rfl <| st_neq rfl rfl <| en <| x_cond rfl (fun h1 => ?_) (fun h1 => ?_)
    ·try simp only [nm, ne_eq] at h1
     refine sr rfl <| mL rfl <| mL rfl <| Wp rfl <| st_call (ags := [_, _]) rfl rfl T.ent10 rfl (RSameP_spec (a := vs) (b := vs) hv hv (by omega)) ?_
     rintro vS w10 ⟨hS, c11⟩
     rw [decide_eq_true rfl] at hS
     subst hS
     replace HC := HC.then c11
     replace ht := ht.tr0 c11
     replace hv := hv.tr0 c11
     refine mB rfl <| w_split (d := 47) rfl (fun g12 => ?_) (fun g12 => ?_)
     ·try simp only [nm, ne_eq] at g12
      refine w_yes 3 47 true <| st_call (ags := []) rfl rfl T.ent7 rfl (awake14_spec _ ht) ?_
      rintro _ w13 ⟨rfl, c14⟩
      replace HC := HC.then c14
      replace ht := ht.tr0 c14
      replace hv := hv.tr0 c14
      refine pT rfl rfl <| aB rfl <| en <| x_ret <| then_r <| ret_tmp (v := .bool _) rfl rfl ?_
      exact ⟨rfl, HC⟩
     ·try simp only [nm, ne_eq] at g12
      first | exact absurd rfl g12 | exact absurd trivial g12 | (simp at g12; done)
    ·try simp only [nm, ne_eq] at h1
     exact absurd h1 hbad
   ·refine x_region rfl <| mS rfl <| mL rfl <| Wp rfl <| st_call (ags := [_, _]) rfl rfl T.ent8 rfl (Eval_run (vs := vs) (L := toksF (s.length + 1) s 0) s t r rfl (by omega) hok htz hp hv (fun _ => trivial) hvk (by omega) hr ht) ?_
    rintro vE w15 ⟨⟨A1, cap1, hE, hr1⟩, c16⟩
    rw [show evalR r vs = (0, vs, r.2.2) by unfold evalR; rw [if_neg her]] at hE hr1
    replace hE : vE = .tuple ⟨[.int .i64 0, .slice A1 vs.length cap1, .int .i64 r.2.2]⟩ := hE
    subst hE
    replace hr1 : Sl prE _ (fun _ => True) A1 vs := hr1
    replace HC := HC.then c16
    replace ht := ht.tr0 c16
    replace hv := hv.tr0 c16
    refine mv (v := .tuple ⟨[_, _, _]⟩) rfl <| Wp rfl <| st_extract (vs := [_, _, _]) (v := .int _ _) rfl rfl <| Wp rfl <| st_extract (vs := [_, _, _]) (v := .slice _ _ _) rfl rfl <| Wp rfl <| st_extract (vs := [_, _, _]) (v := .int _ _) rfl rfl <| aI rfl <| aL rfl <| aI rfl <| en <| x_seq <| sr rfl <| mI rfl <| Wp rfl <| st_neq rfl rfl <| en <| x_cond rfl (fun h1 => ?_) (fun h1 => ?_)
    ·try simp only [nm, ne_eq] at h1
     refine sr rfl <| mL rfl <| mL rfl <| Wp rfl <| st_call (ags := [_, _]) rfl rfl T.ent10 rfl (RSameP_spec (a := vs) (b := vs) hr1 hv (by omega)) ?_
     rintro vS w17 ⟨hS, c18⟩
     rw [decide_eq_true rfl] at hS
     subst hS
     replace HC := HC.then c18
     replace ht := ht.tr0 c18
     replace hv := hv.tr0 c18
     replace hr1 := hr1.tr0 c18
     refine mB rfl <| w_split (d := 47) rfl (fun g19 => ?_) (fun g19 => ?_)
     ·try simp only [nm, ne_eq] at g19
      refine w_yes 3 47 true <| st_call (ags := []) rfl rfl T.ent7 rfl (awake14_spec _ ht) ?_
      rintro _ w20 ⟨rfl, c21⟩
      replace HC := HC.then c21
      replace ht := ht.tr0 c21
      replace hv := hv.tr0 c21
      replace hr1 := hr1.tr0 c21
      refine pT rfl rfl <| aB rfl <| en <| x_ret <| then_r <| ret_tmp (v := .bool _) rfl rfl ?_
      exact ⟨rfl, HC⟩
     ·try simp only [nm, ne_eq] at g19
      first | exact absurd rfl g19 | exact absurd trivial g19 | (simp at g19; done)
    ·try simp only [nm, ne_eq] at h1
     exact absurd h1 her
   ·refine x_region rfl <| mS rfl <| mL rfl <| Wp rfl <| st_call (ags := [_, _]) rfl rfl T.ent8 rfl (Eval_run (vs := vs) (L := toksF (s.length + 1) s 0) s t r rfl (by omega) hok htz hp hv (fun _ => trivial) hvk (by omega) hr ht) ?_
    rintro vE w22 ⟨⟨A1, cap1, hE, hr1⟩, c23⟩
    rw [show evalR r vs = r by unfold evalR; rw [if_pos her]] at hE hr1
    replace hE : vE = .tuple ⟨[.int .i64 r.1, .slice A1 r.2.1.length cap1, .int .i64 r.2.2]⟩ := hE
    subst hE
    replace hr1 : Sl prE _ (fun _ => True) A1 r.2.1 := hr1
    replace HC := HC.then c23
    replace ht := ht.tr0 c23
    replace hv := hv.tr0 c23
    refine mv (v := .tuple ⟨[_, _, _]⟩) rfl <| Wp rfl <| st_extract (vs := [_, _, _]) (v := .int _ _) rfl rfl <| Wp rfl <| st_extract (vs := [_, _, _]) (v := .slice _ _ _) rfl rfl <| Wp rfl <| st_extract (vs := [_, _, _]) (v := .int _ _) rfl rfl <| aI rfl <| aL rfl <| aI rfl <| en <| x_seq <| sr rfl <| mI rfl <| Wp rfl <| st_neq rfl rfl <| en <| x_cond rfl (fun h1 => ?_) (fun h1 => ?_)
    ·try simp only [nm, ne_eq] at h1
     exact absurd her h1
    ·try simp only [nm, ne_eq] at h1
     have hrl := Tr.row_len t 0
     have hol2 : r.2.1.length ≤ 1100 := by omega
     refine x_skip <| then_n <| sr rfl <| mS rfl <| Wp rfl <| st_call (ags := [_]) rfl rfl T.ent11 rfl (RParse_spec (L := toksF (s.length + 1) s 0) s _ rfl (by omega)) ?_
     rintro _ w24 ⟨Al, capl, rfl, hlo, c25⟩
     rw [hp] at hlo ⊢
     dsimp only at hlo
     replace HC := HC.then c25
     replace ht := ht.tr0 c25
     replace hv := hv.tr0 c25
     replace hr1 := hr1.tr0 c25
     refine mv (v := .tuple ⟨[_, _, _]⟩) rfl <| Wp rfl <| st_extract (vs := [_, _, _]) (v := .slice _ _ _) rfl rfl <| Wp rfl <| st_extract (vs := [_, _, _]) (v := .int _ _) rfl rfl <| Wp rfl <| st_extract (vs := [_, _, _]) (v := .int _ _) rfl rfl <| aL rfl <| aI rfl <| aI rfl <| en <| x_seq ?_
     obtain ⟨wP, hwP⟩ : ∃ W, W = w24 := ⟨_, rfl⟩
     have hl1 : Sl ndE w24 (fun k => k < wP.heap.size) Al (t.row 0) := hlo.sl.mono (fun k hk _ => by rw [hwP]; exact hk)
     have hszP : wP.heap.size ≤ w24.heap.size := by rw [hwP]; exact Nat.le_refl _
     refine x_region rfl <| Wp rfl <| st_makeMap ?_
     intro bA w26 e27 c28 hm29
     have ge_bA : w.heap.size ≤ bA := by rw [e27]; exact HC.size
     have nf_hv_bA : vs = [] ∨ bA ∉ ob (Av) := hv.fresh (by rw [e27]; exact Nat.le_refl _)
     have nf_hr1_bA : r.2.1 = [] ∨ bA ∉ ob (A1) := hr1.fresh (by rw [e27]; exact Nat.le_refl _)
     have gp_bA : wP.heap.size ≤ bA := by rw [e27]; exact hszP
     replace HC := HC.then c28
     replace ht := ht.tr0 c28
     replace hv := hv.tr0 c28
     replace hr1 := hr1.tr0 c28
     replace hszP := Nat.le_trans hszP c28.size
     replace hl1 := hl1.tr0 c28
     clear e27
     refine av (v := .map _) rfl <| en <| x_seq <| x_seq ?_
     have hma : MpAt w26 bA (asgG ((t.row 0).take 0)) := MpAt.of hm29 (fun n => by simp [asgG, asgB, varG, lastV])
     refine x_region rfl <| mL rfl <| Wp rfl <| st_len (ct := #[32]) (by rw [show ((#[32] : Array TypeId)[0]?).bind Tryz.prog.underlying = some (.slice 38) from T.u32]; rfl) rfl <| mI rfl <| en <| x_block <| x_loop (ι := Nat) [13, 59, 60, 61, 62, 63, 64, 65, 66, 67, 68, 69] (fun i => [(59, .int .i64 (i : Int))]) (fun i W => (i ≤ (t.row 0).length) ∧ (Chg [] w W) ∧ (Tab W) ∧ (Sl prE W (fun k => k < w.heap.size) Av vs) ∧ (Sl prE W (fun _ => True) A1 r.2.1) ∧ (wP.heap.size ≤ W.heap.size) ∧ (Sl ndE W (fun k => k < wP.heap.size) Al (t.row 0)) ∧ (MpAt W bA (asgG ((t.row 0).take i)))) (fun i => (t.row 0).length - i) 0 ?_ ?_ ?_
     · exact ⟨rfl, trivial⟩
     ·refine ⟨?_, HC, ht, hv, hr1, hszP, hl1, hma⟩
      exact Nat.zero_le _
     intro i G31 w30 ⟨hi, HC, ht, hv, hr1, hszP, hl1, hma⟩
     change wp _ _ _ _ _ (upds (over _ _ G31) [(59, .int .i64 (i : Int))]) _ _
     refine sr rfl <| Wp rfl <| st_lss rfl rfl <| en <| x_seq <| x_cond rfl (fun h2 => ?_) (fun h2 => ?_)
     ·try simp only [nm, ne_eq] at h2
      obtain ⟨x, hxi⟩ : ∃ x, (t.row 0)[i]? = some x := ⟨_, List.getElem?_eq_getElem (by omega)⟩
      refine x_skip <| then_n <| x_seq <| x_block <| sr rfl ?_
      obtain ⟨lb36, _, vs35, hA32, hR34, hC33⟩ := hl1.at (i := i) (x := x) (hxi)
      obtain ⟨K37, cK37, rfl, hk1_37, hk2_37, hk3_37⟩ := hR34
      refine Wp rfl <| st_indexAddr T.u32 T.size38 (congrArg (fun z => Value.slice z _ _) hA32) rfl (by omega) (by omega) <| Wp rfl <| st_loadA (vs := [_, _, _, _]) T.agg38 rfl hC33 rfl <| Wp rfl <| st_alloc T.zero38 ?_
      intro b13 w38 e39 c40 hb41
      have ge_b13 : w.heap.size ≤ b13 := by rw [e39]; exact HC.size
      have nf_hv_b13 : vs = [] ∨ b13 ∉ ob (Av) := hv.fresh (by rw [e39]; exact Nat.le_refl _)
      have nf_hr1_b13 : r.2.1 = [] ∨ b13 ∉ ob (A1) := hr1.fresh (by rw [e39]; exact Nat.le_refl _)
      have gp_b13 : wP.heap.size ≤ b13 := by rw [e39]; exact hszP
      have nmp_bA_b13 : bA ≠ b13 := hma.fresh (by rw [e39]; exact Nat.le_refl _)
      replace HC := HC.then c40
      replace ht := ht.tr0 c40
      replace hv := hv.tr0 c40
      replace hr1 := hr1.tr0 c40
      replace hszP := Nat.le_trans hszP c40.size
      replace hl1 := hl1.tr0 c40
      replace hma := hma.tr0 c40
      replace hk3_37 := hk3_37.tr0 c40
      clear e39
      refine Wp rfl <| st_store (v := .agg ⟨[S _, .int _ _, S _, .slice _ _ _]⟩) T.size38 rfl rfl rfl hb41 rfl (Nat.le_of_ble_eq_true rfl) (by simp [Value.oneCell', S]) rfl ?_
      intro w42 c43 hb44; simp only [setVs, setV] at hb44
      clear hb41
      replace HC := HC.then1 c43 ge_b13
      replace ht := ht.tr c43 (by intro hx; have := ht.lt; have := ht1; simp only [List.mem_cons, List.mem_nil_iff, or_false] at hx; omega)
      replace hv := hv.trF flat_flat c43 (by intro k hx; simp only [List.mem_singleton] at hx; subst hx; exact nf_hv_b13)
      replace hr1 := hr1.trF flat_flat c43 (by intro k hx; simp only [List.mem_singleton] at hx; subst hx; exact nf_hr1_b13)
      replace hszP := Nat.le_trans hszP c43.size
      replace hl1 := hl1.tr c43 (by intro k hx hD; simp only [List.mem_cons, List.mem_nil_iff, or_false] at hx; have hD2 : k < wP.heap.size := hD; omega)
      replace hma := hma.tr c43 (by intro hx; simp only [List.mem_cons, List.mem_nil_iff, or_false] at hx; omega)
      replace hk3_37 := hk3_37.tr c43 (by intro k hx hD; simp only [List.mem_cons, List.mem_nil_iff, or_false] at hx; have hD2 : k < wP.heap.size := hD; omega)
      refine en <| sr rfl <| fa T.fld38_0 rfl <| lS T.one9 rfl (hb44.cell rfl) <| Wp rfl <| st_call (ags := [_]) rfl rfl T.ent12 rfl (RAssigns_spec _ _) ?_
      rintro _ w45 ⟨rfl, c46⟩
      replace HC := HC.then c46
      replace ht := ht.tr0 c46
      replace hv := hv.tr0 c46
      replace hr1 := hr1.tr0 c46
      replace hszP := Nat.le_trans hszP c46.size
      replace hl1 := hl1.tr0 c46
      replace hma := hma.tr0 c46
      replace hk3_37 := hk3_37.tr0 c46
      replace hb44 := hb44.tr0 c46
      refine en <| x_cond rfl (fun h3 => ?_) (fun h3 => ?_)
      ·try simp only [nm, ne_eq] at h3
       refine x_region rfl <| mv (v := .map _) rfl <| fa T.fld38_2 rfl <| lS T.one9 rfl (hb44.cell rfl) <| Wp rfl <| st_mapPutV (asgG ((t.row 0).take (i + 1))) T.map35 rfl rfl rfl hma (asgG_yes hxi h3) ?_
       intro w47 c48 hm49
       clear hma
       replace HC := HC.then1 c48 ge_bA
       replace ht := ht.tr c48 (by intro hx; have := ht.lt; have := ht1; simp only [List.mem_cons, List.mem_nil_iff, or_false] at hx; omega)
       replace hv := hv.trF flat_flat c48 (by intro k hx; simp only [List.mem_singleton] at hx; subst hx; exact nf_hv_bA)
       replace hr1 := hr1.trF flat_flat c48 (by intro k hx; simp only [List.mem_singleton] at hx; subst hx; exact nf_hr1_bA)
       replace hszP := Nat.le_trans hszP c48.size
       replace hl1 := hl1.tr c48 (by intro k hx hD; simp only [List.mem_cons, List.mem_nil_iff, or_false] at hx; have hD2 : k < wP.heap.size := hD; omega)
       replace hk3_37 := hk3_37.tr c48 (by intro k hx hD; simp only [List.mem_cons, List.mem_nil_iff, or_false] at hx; have hD2 : k < wP.heap.size := hD; omega)
       replace hb44 := hb44.tr1 c48 (by omega)
       refine wops_nil <| block_n <| then_n <| x_region rfl <| Wp rfl <| st_addn rfl rfl (by constructor <;> omega) <| mI rfl <| en <| ⟨i + 1, ?_, ?_, rfl, ⟨rfl, trivial⟩, ?_⟩
       ·refine ⟨?_, HC, ht, hv, hr1, hszP, hl1, hm49⟩
        exact (by omega)
       ·show (t.row 0).length - (i + 1) < (t.row 0).length - i; omega
       repeat (first | exact agree_upds agree_over rfl | refine agree_upd ?_ rfl | refine agree_upds ?_ rfl | refine agree_over_sub ?_ rfl)
      ·try simp only [nm, ne_eq] at h3
       rw [← asgG_no hxi h3] at hma
       refine x_skip <| block_n <| then_n <| x_region rfl <| Wp rfl <| st_addn rfl rfl (by constructor <;> omega) <| mI rfl <| en <| ⟨i + 1, ?_, ?_, rfl, ⟨rfl, trivial⟩, ?_⟩
       ·refine ⟨?_, HC, ht, hv, hr1, hszP, hl1, hma⟩
        exact (by omega)
       ·show (t.row 0).length - (i + 1) < (t.row 0).length - i; omega
       repeat (first | exact agree_upds agree_over rfl | refine agree_upd ?_ rfl | refine agree_upds ?_ rfl | refine agree_over_sub ?_ rfl)
     ·try simp only [nm, ne_eq] at h2
      have hil : i = (t.row 0).length := by omega
      rw [hil, List.take_length] at hma
      clear hil
      refine x_exit <| then_x <| then_x <| block_x <| then_n <| sr rfl <| Wp rfl <| st_makeMap ?_
      intro bW w50 e51 c52 hm53
      have ge_bW : w.heap.size ≤ bW := by rw [e51]; exact HC.size
      have nf_hv_bW : vs = [] ∨ bW ∉ ob (Av) := hv.fresh (by rw [e51]; exact Nat.le_refl _)
      have nf_hr1_bW : r.2.1 = [] ∨ bW ∉ ob (A1) := hr1.fresh (by rw [e51]; exact Nat.le_refl _)
      have gp_bW : wP.heap.size ≤ bW := by rw [e51]; exact hszP
      have nmp_bA_bW : bA ≠ bW := hma.fresh (by rw [e51]; exact Nat.le_refl _)
      replace HC := HC.then c52
      replace ht := ht.tr0 c52
      replace hv := hv.tr0 c52
      replace hr1 := hr1.tr0 c52
      replace hszP := Nat.le_trans hszP c52.size
      replace hl1 := hl1.tr0 c52
      replace hma := hma.tr0 c52
      clear e51
      refine Wp rfl <| st_makeMap ?_
      intro bI w54 e55 c56 hm57
      have ge_bI : w.heap.size ≤ bI := by rw [e55]; exact HC.size
      have nf_hv_bI : vs = [] ∨ bI ∉ ob (Av) := hv.fresh (by rw [e55]; exact Nat.le_refl _)
      have nf_hr1_bI : r.2.1 = [] ∨ bI ∉ ob (A1) := hr1.fresh (by rw [e55]; exact Nat.le_refl _)
      have gp_bI : wP.heap.size ≤ bI := by rw [e55]; exact hszP
      have nmp_bA_bI : bA ≠ bI := hma.fresh (by rw [e55]; exact Nat.le_refl _)
      have nmp_bW_bI : bW ≠ bI := hm53.fresh (by rw [e55]; exact Nat.le_refl _)
      replace HC := HC.then c56
      replace ht := ht.tr0 c56
      replace hv := hv.tr0 c56
      replace hr1 := hr1.tr0 c56
      replace hszP := Nat.le_trans hszP c56.size
      replace hl1 := hl1.tr0 c56
      replace hma := hma.tr0 c56
      replace hm53 := hm53.tr0 c56
      clear e55
      refine av (v := .map _) rfl <| av (v := .map _) rfl <| en <| x_seq <| x_seq ?_
      have hmw : MpAt w54 bW (varG (vs.take 0)) := MpAt.of hm53 (fun n => by simp [asgG, asgB, varG, lastV])
      have hmi : MpAt w54 bI (varG (r.2.1.take 0)) := MpAt.of hm57 (fun n => by simp [asgG, asgB, varG, lastV])
      refine x_region rfl <| mL rfl <| Wp rfl <| st_len (ct := #[22]) (by rw [show ((#[22] : Array TypeId)[0]?).bind Tryz.prog.underlying = some (.slice 42) from T.u22]; rfl) rfl <| mI rfl <| en <| x_block <| x_loop (ι := Nat) [17, 74, 75, 76, 77, 78, 79, 80, 81, 82, 83] (fun i => [(74, .int .i64 (i : Int))]) (fun i W => (i ≤ vs.length) ∧ (Chg [] w W) ∧ (Tab W) ∧ (Sl prE W (fun k => k < w.heap.size) Av vs) ∧ (Sl prE W (fun _ => True) A1 r.2.1) ∧ (wP.heap.size ≤ W.heap.size) ∧ (Sl ndE W (fun k => k < wP.heap.size) Al (t.row 0)) ∧ (MpAt W bA (asgG (t.row 0))) ∧ (MpAt W bW (varG (vs.take i))) ∧ (MpAt W bI (varG (r.2.1.take 0)))) (fun i => vs.length - i) 0 ?_ ?_ ?_
      · exact ⟨rfl, trivial⟩
      ·refine ⟨?_, HC, ht, hv, hr1, hszP, hl1, hma, hmw, hmi⟩
       exact Nat.zero_le _
      intro i G59 w58 ⟨hi, HC, ht, hv, hr1, hszP, hl1, hma, hmw, hmi⟩
      change wp _ _ _ _ _ (upds (over _ _ G59) [(74, .int .i64 (i : Int))]) _ _
      refine sr rfl <| Wp rfl <| st_lss rfl rfl <| en <| x_seq <| x_cond rfl (fun h4 => ?_) (fun h4 => ?_)
      ·try simp only [nm, ne_eq] at h4
       obtain ⟨x, hxi⟩ : ∃ x, vs[i]? = some x := ⟨_, List.getElem?_eq_getElem (by omega)⟩
       refine x_skip <| then_n <| x_seq <| x_block <| sr rfl ?_
       obtain ⟨lb64, _, vs63, hA60, hR62, hC61⟩ := hv.at (i := i) (x := x) (hxi)
       obtain rfl : vs63 = [S x.1, S x.2] := hR62
       refine Wp rfl <| st_indexAddr T.u22 T.size42 (congrArg (fun z => Value.slice z _ _) hA60) rfl (by omega) (by omega) <| Wp rfl <| st_loadA (vs := [_, _]) T.agg42 rfl hC61 rfl <| Wp rfl <| st_alloc T.zero42 ?_
       intro b17 w65 e66 c67 hb68
       have ge_b17 : w.heap.size ≤ b17 := by rw [e66]; exact HC.size
       have nf_hv_b17 : vs = [] ∨ b17 ∉ ob (Av) := hv.fresh (by rw [e66]; exact Nat.le_refl _)
       have nf_hr1_b17 : r.2.1 = [] ∨ b17 ∉ ob (A1) := hr1.fresh (by rw [e66]; exact Nat.le_refl _)
       have gp_b17 : wP.heap.size ≤ b17 := by rw [e66]; exact hszP
       have nmp_bA_b17 : bA ≠ b17 := hma.fresh (by rw [e66]; exact Nat.le_refl _)
       have nmp_bW_b17 : bW ≠ b17 := hmw.fresh (by rw [e66]; exact Nat.le_refl _)
       have nmp_bI_b17 : bI ≠ b17 := hmi.fresh (by rw [e66]; exact Nat.le_refl _)
       replace HC := HC.then c67
       replace ht := ht.tr0 c67
       replace hv := hv.tr0 c67
       replace hr1 := hr1.tr0 c67
       replace hszP := Nat.le_trans hszP c67.size
       replace hl1 := hl1.tr0 c67
       replace hma := hma.tr0 c67
       replace hmw := hmw.tr0 c67
       replace hmi := hmi.tr0 c67
       clear e66
       refine Wp rfl <| st_store (v := .agg ⟨[S _, S _]⟩) T.size42 rfl rfl rfl hb68 rfl (Nat.le_of_ble_eq_true rfl) (by simp [Value.oneCell', S]) rfl ?_
       intro w69 c70 hb71; simp only [setVs, setV] at hb71
       clear hb68
       replace HC := HC.then1 c70 ge_b17
       replace ht := ht.tr c70 (by intro hx; have := ht.lt; have := ht1; simp only [List.mem_cons, List.mem_nil_iff, or_false] at hx; omega)
       replace hv := hv.trF flat_flat c70 (by intro k hx; simp only [List.mem_singleton] at hx; subst hx; exact nf_hv_b17)
       replace hr1 := hr1.trF flat_flat c70 (by intro k hx; simp only [List.mem_singleton] at hx; subst hx; exact nf_hr1_b17)
       replace hszP := Nat.le_trans hszP c70.size
       replace hl1 := hl1.tr c70 (by intro k hx hD; simp only [List.mem_cons, List.mem_nil_iff, or_false] at hx; have hD2 : k < wP.heap.size := hD; omega)
       replace hma := hma.tr c70 (by intro hx; simp only [List.mem_cons, List.mem_nil_iff, or_false] at hx; omega)
       replace hmw := hmw.tr c70 (by intro hx; simp only [List.mem_cons, List.mem_nil_iff, or_false] at hx; omega)
       replace hmi := hmi.tr c70 (by intro hx; simp only [List.mem_cons, List.mem_nil_iff, or_false] at hx; omega)
       refine en <| x_region rfl <| mv (v := .map _) rfl <| fa T.fld42_0 rfl <| lS T.one9 rfl (hb71.cell rfl) <| fa T.fld42_1 rfl <| lS T.one9 rfl (hb71.cell rfl) <| Wp rfl <| st_mapPutV (varG (vs.take (i + 1))) T.map40 rfl rfl rfl hmw (varG_put hxi) ?_
       intro w72 c73 hm74
       clear hmw
       replace HC := HC.then1 c73 ge_bW
       replace ht := ht.tr c73 (by intro hx; have := ht.lt; have := ht1; simp only [List.mem_cons, List.mem_nil_iff, or_false] at hx; omega)
       replace hv := hv.trF flat_flat c73 (by intro k hx; simp only [List.mem_singleton] at hx; subst hx; exact nf_hv_bW)
       replace hr1 := hr1.trF flat_flat c73 (by intro k hx; simp only [List.mem_singleton] at hx; subst hx; exact nf_hr1_bW)
       replace hszP := Nat.le_trans hszP c73.size
       replace hl1 := hl1.tr c73 (by intro k hx hD; simp only [List.mem_cons, List.mem_nil_iff, or_false] at hx; have hD2 : k < wP.heap.size := hD; omega)
       replace hma := hma.tr c73 (by intro hx; simp only [List.mem_cons, List.mem_nil_iff, or_false] at hx; omega)
       replace hmi := hmi.tr c73 (by intro hx; simp only [List.mem_cons, List.mem_nil_iff, or_false] at hx; omega)
       replace hb71 := hb71.tr1 c73 (by omega)
       refine wops_nil <| block_n <| then_n <| x_region rfl <| Wp rfl <| st_addn rfl rfl (by constructor <;> omega) <| mI rfl <| en <| ⟨i + 1, ?_, ?_, rfl, ⟨rfl, trivial⟩, ?_⟩
       ·refine ⟨?_, HC, ht, hv, hr1, hszP, hl1, hma, hm74, hmi⟩
        exact (by omega)
       ·show vs.length - (i + 1) < vs.length - i; omega
       repeat (first | exact agree_upds agree_over rfl | refine agree_upd ?_ rfl | refine agree_upds ?_ rfl | refine agree_over_sub ?_ rfl)
      ·try simp only [nm, ne_eq] at h4
       have hil : i = vs.length := by omega
       rw [hil, List.take_length] at hmw
       clear hil
       refine x_exit <| then_x <| then_x <| block_x <| then_n <| x_seq <| sr rfl <| mL rfl <| Wp rfl <| st_len (ct := #[22]) (by rw [show ((#[22] : Array TypeId)[0]?).bind Tryz.prog.underlying = some (.slice 42) from T.u22]; rfl) rfl <| mI rfl <| en <| x_block <| x_loop (ι := Nat) [4, 18, 19, 20, 21, 86, 87, 88, 89, 90, 91, 92, 93, 94, 95, 96, 97, 98, 99, 100, 101, 102, 103, 104, 105, 106, 107, 108, 109, 110, 111, 112, 113, 114, 115, 116, 117, 118, 119, 120, 121, 122, 123, 124, 125, 126, 127, 128, 129, 130, 131, 132, 133] (fun i => [(86, .int .i64 (i : Int))]) (fun i W => (i ≤ r.2.1.length) ∧ (Chg [] w W) ∧ (Tab W) ∧ (Sl prE W (fun k => k < w.heap.size) Av vs) ∧ (Sl prE W (fun _ => True) A1 r.2.1) ∧ (wP.heap.size ≤ W.heap.size) ∧ (Sl ndE W (fun k => k < wP.heap.size) Al (t.row 0)) ∧ (MpAt W bA (asgG (t.row 0))) ∧ (MpAt W bW (varG vs)) ∧ (MpAt W bI (varG (r.2.1.take i)))) (fun i => r.2.1.length - i) 0 ?_ ?_ ?_
       · exact ⟨rfl, trivial⟩
       ·refine ⟨?_, HC, ht, hv, hr1, hszP, hl1, hma, hmw, hmi⟩
        exact Nat.zero_le _
       intro i G76 w75 ⟨hi, HC, ht, hv, hr1, hszP, hl1, hma, hmw, hmi⟩
       change wp _ _ _ _ _ (upds (over _ _ G76) [(86, .int .i64 (i : Int))]) _ _
       refine sr rfl <| Wp rfl <| st_lss rfl rfl <| en <| x_seq <| x_cond rfl (fun h5 => ?_) (fun h5 => ?_)
       ·try simp only [nm, ne_eq] at h5
        obtain ⟨x, hxi⟩ : ∃ x, r.2.1[i]? = some x := ⟨_, List.getElem?_eq_getElem (by omega)⟩
        refine x_skip <| then_n <| x_seq <| x_block <| sr rfl <| mI rfl ?_
        obtain ⟨lb81, _, vs80, hA77, hR79, hC78⟩ := hr1.at (i := i) (x := x) (hxi)
        obtain rfl : vs80 = [S x.1, S x.2] := hR79
        refine Wp rfl <| st_indexAddr T.u22 T.size42 (congrArg (fun z => Value.slice z _ _) hA77) rfl (by omega) (by omega) <| Wp rfl <| st_loadA (vs := [_, _]) T.agg42 rfl hC78 rfl <| Wp rfl <| st_alloc T.zero42 ?_
        intro b19 w82 e83 c84 hb85
        have ge_b19 : w.heap.size ≤ b19 := by rw [e83]; exact HC.size
        have nf_hv_b19 : vs = [] ∨ b19 ∉ ob (Av) := hv.fresh (by rw [e83]; exact Nat.le_refl _)
        have nf_hr1_b19 : r.2.1 = [] ∨ b19 ∉ ob (A1) := hr1.fresh (by rw [e83]; exact Nat.le_refl _)
        have gp_b19 : wP.heap.size ≤ b19 := by rw [e83]; exact hszP
        have nmp_bA_b19 : bA ≠ b19 := hma.fresh (by rw [e83]; exact Nat.le_refl _)
        have nmp_bW_b19 : bW ≠ b19 := hmw.fresh (by rw [e83]; exact Nat.le_refl _)
        have nmp_bI_b19 : bI ≠ b19 := hmi.fresh (by rw [e83]; exact Nat.le_refl _)
        replace HC := HC.then c84
        replace ht := ht.tr0 c84
        replace hv := hv.tr0 c84
        replace hr1 := hr1.tr0 c84
        replace hszP := Nat.le_trans hszP c84.size
        replace hl1 := hl1.tr0 c84
        replace hma := hma.tr0 c84
        replace hmw := hmw.tr0 c84
        replace hmi := hmi.tr0 c84
        clear e83
        refine aI rfl <| Wp rfl <| st_store (v := .agg ⟨[S _, S _]⟩) T.size42 rfl rfl rfl hb85 rfl (Nat.le_of_ble_eq_true rfl) (by simp [Value.oneCell', S]) rfl ?_
        intro w86 c87 hb88; simp only [setVs, setV] at hb88
        clear hb85
        replace HC := HC.then1 c87 ge_b19
        replace ht := ht.tr c87 (by intro hx; have := ht.lt; have := ht1; simp only [List.mem_cons, List.mem_nil_iff, or_false] at hx; omega)
        replace hv := hv.trF flat_flat c87 (by intro k hx; simp only [List.mem_singleton] at hx; subst hx; exact nf_hv_b19)
        replace hr1 := hr1.trF flat_flat c87 (by intro k hx; simp only [List.mem_singleton] at hx; subst hx; exact nf_hr1_b19)
        replace hszP := Nat.le_trans hszP c87.size
        replace hl1 := hl1.tr c87 (by intro k hx hD; simp only [List.mem_cons, List.mem_nil_iff, or_false] at hx; have hD2 : k < wP.heap.size := hD; omega)
        replace hma := hma.tr c87 (by intro hx; simp only [List.mem_cons, List.mem_nil_iff, or_false] at hx; omega)
        replace hmw := hmw.tr c87 (by intro hx; simp only [List.mem_cons, List.mem_nil_iff, or_false] at hx; omega)
        replace hmi := hmi.tr c87 (by intro hx; simp only [List.mem_cons, List.mem_nil_iff, or_false] at hx; omega)
        refine en <| sr rfl <| mv (v := .map _) rfl <| fa T.fld42_0 rfl <| lS T.one9 rfl (hb88.cell rfl) <| fa T.fld42_1 rfl <| lS T.one9 rfl (hb88.cell rfl) <| Wp rfl <| st_mapPutV (varG (r.2.1.take (i + 1))) T.map40 rfl rfl rfl hmi (varG_put hxi) ?_
        intro w89 c90 hm91
        clear hmi
        replace HC := HC.then1 c90 ge_bI
        replace ht := ht.tr c90 (by intro hx; have := ht.lt; have := ht1; simp only [List.mem_cons, List.mem_nil_iff, or_false] at hx; omega)
        replace hv := hv.trF flat_flat c90 (by intro k hx; simp only [List.mem_singleton] at hx; subst hx; exact nf_hv_bI)
        replace hr1 := hr1.trF flat_flat c90 (by intro k hx; simp only [List.mem_singleton] at hx; subst hx; exact nf_hr1_bI)
        replace hszP := Nat.le_trans hszP c90.size
        replace hl1 := hl1.tr c90 (by intro k hx hD; simp only [List.mem_cons, List.mem_nil_iff, or_false] at hx; have hD2 : k < wP.heap.size := hD; omega)
        replace hma := hma.tr c90 (by intro hx; simp only [List.mem_cons, List.mem_nil_iff, or_false] at hx; omega)
        replace hmw := hmw.tr c90 (by intro hx; simp only [List.mem_cons, List.mem_nil_iff, or_false] at hx; omega)
        replace hb88 := hb88.tr1 c90 (by omega)
        refine en <| x_seq ?_
        rcases Bool.eq_false_or_eq_true (asgB (t.row 0) x.1) with hB | hB
        ·refine x_region rfl <| mv (v := .map _) rfl <| fa T.fld42_0 rfl <| lS T.one9 rfl (hb88.cell rfl) <| Wp rfl <| st_lookOkV (v := S ((lastV vs x.1).getD [])) (q := (lastV vs x.1).isSome) T.map40 T.zvm40 rfl rfl hmw (by exact varG_get _ _) (by exact varG_some _ _) <| mv (v := .tuple ⟨[_, _]⟩) rfl <| Wp rfl <| st_extract (vs := [_, _]) (v := S _) rfl rfl <| Wp rfl <| st_extract (vs := [_, _]) (v := .bool _) rfl rfl <| aS rfl <| aB rfl <| en <| x_seq ?_
         rcases Nat.eq_zero_or_pos i with hz | hz
         ·have hmaO := hma
          have hltO := hma.lt
          refine x_draw [(0, 0), (1, 0), (2, 0), (3, 0), (4, 0), (5, 0), (6, 0), (7, 0), (8, 0), (9, 0), (10, 0), (11, 0), (12, 0), (13, 0), (14, 0), (15, 0), (16, 0), (17, 0), (18, 0), (19, 0), (20, 0), (21, 0), (22, 0), (23, 0), (24, 0), (25, 0), (26, 0), (27, 0), (28, 0), (29, 0)] T.mixed rfl rfl rfl (fun W => W.heap[b19]? = w89.heap[b19]? ∧ W.heap[bA]? = w89.heap[bA]? ∧ True) ⟨rfl, rfl, trivial⟩ ?_
          have o94 := hb88
          have c93 := Chg.drew w89
          generalize World.drew w89 = w92 at c93 ⊢
          replace HC := HC.then c93
          replace ht := ht.tr0 c93
          replace hv := hv.tr0 c93
          replace hr1 := hr1.tr0 c93
          replace hszP := Nat.le_trans hszP c93.size
          replace hl1 := hl1.tr0 c93
          replace hma := hma.tr0 c93
          replace hmw := hmw.tr0 c93
          replace hb88 := hb88.tr0 c93
          replace hm91 := hm91.tr0 c93
          refine sq_q rfl (fun W hT => r_move (v := .map _) rfl) <| sq_q rfl (fun W hT => r_fieldAddr T.fld42_0 rfl) <| sq_q rfl (fun W hT => r_load1 (v := S _) T.one9 rfl (Blk.cell (show Blk W b19 _ _ from hT.1.trans o94) rfl)) <| sq_q rfl (fun W hT => r_lookV (v := .bool true) T.map35 T.zvm35 rfl rfl (MpAt.same hmaO hT.2.1) (by rw [asgG_get, hB])) <| sq_q rfl (fun W hT => r_not rfl) <| sq_q rfl (fun W hT => r_move (v := .bool _) rfl) <| sq_no rfl rfl <| sq_no rfl rfl <| sq_no rfl rfl <| sq_no rfl rfl <| sq_no rfl rfl <| sq_no rfl rfl <| sq_no rfl rfl <| sq_no rfl rfl <| sq_q rfl (fun W hT => r_pick (b := false) (v := .bool _) rfl rfl) <| sq_q rfl (fun W hT => r_move (v := .bool _) rfl) <| sq_q rfl (fun W hT => r_move (v := .int _ _) rfl) <| sq_q rfl (fun W hT => r_gtr rfl rfl) <| sq_q rfl (fun W hT => r_move (v := .bool _) rfl) <| sq_split (d := 121) rfl (fun g95 => ?_) (fun g95 => ?_)
          ·try simp only [nm, ne_eq] at g95
           exfalso; omega
          ·try simp only [nm, ne_eq] at g95
           refine sq_no rfl rfl <| sq_no rfl rfl <| sq_no rfl rfl <| sq_no rfl rfl <| sq_no rfl rfl <| sq_no rfl rfl <| sq_no rfl rfl <| sq_no rfl rfl <| sq_no rfl rfl <| sq_q rfl (fun W hT => r_pick (b := false) (v := .bool _) rfl rfl) <| sq_q rfl (fun W hT => r_pick (b := false) (v := .bool _) rfl rfl) ?_
           clear o94
           refine sq_nil <| then_n <| x_cond (t := false) rfl (fun h6 => ?_) (fun h6 => ?_)
           · exact absurd h6 (by decide)
           refine x_skip <| block_n <| then_n <| x_region rfl <| Wp rfl <| st_addn rfl rfl (by constructor <;> omega) <| mI rfl <| en <| ⟨i + 1, ?_, ?_, rfl, ⟨rfl, trivial⟩, ?_⟩
           ·refine ⟨?_, HC, ht, hv, hr1, hszP, hl1, hma, hmw, hm91⟩
            exact (by omega)
           ·show r.2.1.length - (i + 1) < r.2.1.length - i; omega
           repeat (first | exact agree_upds agree_over rfl | refine agree_upd ?_ rfl | refine agree_upds ?_ rfl | refine agree_over_sub ?_ rfl)
         ·have hmaO := hma
          have hltO := hma.lt
          obtain ⟨yp, hyp⟩ : ∃ y, r.2.1[i - 1]? = some y := ⟨_, List.getElem?_eq_getElem (by omega)⟩
          have hls := rise_lt hro (i := i - 1) (j := i) (by omega) hyp hxi
          obtain ⟨lb100, _, vs99, hA96, hR98, hC97⟩ := hr1.at (i := (i - 1)) (x := yp) (hyp)
          obtain rfl : vs99 = [S yp.1, S yp.2] := hR98
          refine x_draw [(0, 0), (1, 0), (2, 0), (3, 0), (4, 0), (5, 0), (6, 0), (7, 0), (8, 0), (9, 0), (10, 0), (11, 0), (12, 0), (13, 0), (14, 0), (15, 0), (16, 0), (17, 0), (18, 0), (19, 0), (20, 0), (21, 0), (22, 0), (23, 0), (24, 0), (25, 0), (26, 0), (27, 0), (28, 0), (29, 0)] T.mixed rfl rfl rfl (fun W => W.heap[b19]? = w89.heap[b19]? ∧ W.heap[bA]? = w89.heap[bA]? ∧ W.heap[lb100]? = w89.heap[lb100]? ∧ True) ⟨rfl, rfl, rfl, trivial⟩ ?_
          have o103 := hb88
          have c102 := Chg.drew w89
          generalize World.drew w89 = w101 at c102 ⊢
          have ht_lb100 : lb100 < w101.heap.size ∧ w101.heap[lb100]? = w89.heap[lb100]? := ⟨Nat.lt_of_lt_of_le hC97.lt c102.size, c102.block lb100 hC97.lt (by simp)⟩
          replace HC := HC.then c102
          replace ht := ht.tr0 c102
          replace hv := hv.tr0 c102
          replace hr1 := hr1.tr0 c102
          replace hszP := Nat.le_trans hszP c102.size
          replace hl1 := hl1.tr0 c102
          replace hma := hma.tr0 c102
          replace hmw := hmw.tr0 c102
          replace hb88 := hb88.tr0 c102
          replace hm91 := hm91.tr0 c102
          refine sq_q rfl (fun W hT => r_move (v := .map _) rfl) <| sq_q rfl (fun W hT => r_fieldAddr T.fld42_0 rfl) <| sq_q rfl (fun W hT => r_load1 (v := S _) T.one9 rfl (Blk.cell (show Blk W b19 _ _ from hT.1.trans o103) rfl)) <| sq_q rfl (fun W hT => r_lookV (v := .bool true) T.map35 T.zvm35 rfl rfl (MpAt.same hmaO hT.2.1) (by rw [asgG_get, hB])) <| sq_q rfl (fun W hT => r_not rfl) <| sq_q rfl (fun W hT => r_move (v := .bool _) rfl) <| sq_no rfl rfl <| sq_no rfl rfl <| sq_no rfl rfl <| sq_no rfl rfl <| sq_no rfl rfl <| sq_no rfl rfl <| sq_no rfl rfl <| sq_no rfl rfl <| sq_q rfl (fun W hT => r_pick (b := false) (v := .bool _) rfl rfl) <| sq_q rfl (fun W hT => r_move (v := .bool _) rfl) <| sq_q rfl (fun W hT => r_move (v := .int _ _) rfl) <| sq_q rfl (fun W hT => r_gtr rfl rfl) <| sq_q rfl (fun W hT => r_move (v := .bool _) rfl) <| sq_split (d := 121) rfl (fun g104 => ?_) (fun g104 => ?_)
          ·try simp only [nm, ne_eq] at g104
           refine sq_q rfl (fun W hT => r_move (v := .slice _ _ _) rfl) <| sq_q rfl (fun W hT => r_move (v := .int _ _) rfl) <| sq_q rfl (fun W hT => r_subk rfl rfl (by exact (show IntKind.i64.wrap _ = ((i - 1 : Nat) : Int) by rw [wrap64_id (by omega) (by omega)]; omega))) <| sq_q rfl (fun W hT => r_indexAddr T.u22 T.size42 (congrArg (fun z => Value.slice z _ _) hA96) rfl (by omega) (by omega)) <| sq_q rfl (fun W hT => r_fieldAddr T.fld42_0 rfl) <| sq_q rfl (fun W hT => r_load1 (v := S _) T.one9 rfl (Cells.at (j := 0) (Cells.tr hC97 hT.2.2.1) rfl)) <| sq_q rfl (fun W hT => r_fieldAddr T.fld42_0 rfl) <| sq_q rfl (fun W hT => r_load1 (v := S _) T.one9 rfl (Blk.cell (show Blk W b19 _ _ from hT.1.trans o103) rfl)) <| sq_q rfl (fun W hT => r_sgeq rfl rfl) <| sq_q rfl (fun W hT => r_pick (b := true) (v := .bool _) rfl rfl) <| sq_q rfl (fun W hT => r_pick (b := false) (v := .bool _) rfl rfl) ?_
           clear o103
           refine sq_nil <| then_n <| x_cond rfl (fun h6 => ?_) (fun h6 => ?_)
           ·try simp only [nm, ne_eq] at h6
            first | (exfalso; rw [hls] at h6; simp at h6; done) | exact absurd hls (by rw [h6]; simp)
           ·try simp only [nm, ne_eq] at h6
            refine x_skip <| block_n <| then_n <| x_region rfl <| Wp rfl <| st_addn rfl rfl (by constructor <;> omega) <| mI rfl <| en <| ⟨i + 1, ?_, ?_, rfl, ⟨rfl, trivial⟩, ?_⟩
            ·refine ⟨?_, HC, ht, hv, hr1, hszP, hl1, hma, hmw, hm91⟩
             exact (by omega)
            ·show r.2.1.length - (i + 1) < r.2.1.length - i; omega
            repeat (first | exact agree_upds agree_over rfl | refine agree_upd ?_ rfl | refine agree_upds ?_ rfl | refine agree_over_sub ?_ rfl)
          ·try simp only [nm, ne_eq] at g104
           exfalso; omega
        ·have hfn : lastV vs x.1 = some x.2 := by rw [lastV_find hgr, ← hkp.1 x.1 hB]; exact findV_mem hro (List.mem_of_getElem? hxi)
         refine x_region rfl <| mv (v := .map _) rfl <| fa T.fld42_0 rfl <| lS T.one9 rfl (hb88.cell rfl) <| Wp rfl <| st_lookOkV (v := S x.2) (q := true) T.map40 T.zvm40 rfl rfl hmw (by rw [varG_get, hfn]; rfl) (by rw [varG_some, hfn]; rfl) <| mv (v := .tuple ⟨[_, _]⟩) rfl <| Wp rfl <| st_extract (vs := [_, _]) (v := S x.2) rfl rfl <| Wp rfl <| st_extract (vs := [_, _]) (v := .bool true) rfl rfl <| aS rfl <| aB rfl <| en <| x_seq ?_
         rcases Nat.eq_zero_or_pos i with hz | hz
         ·have hmaO := hma
          have hltO := hma.lt
          refine x_draw [(0, 0), (1, 0), (2, 0), (3, 0), (4, 0), (5, 0), (6, 0), (7, 0), (8, 0), (9, 0), (10, 0), (11, 0), (12, 0), (13, 0), (14, 0), (15, 0), (16, 0), (17, 0), (18, 0), (19, 0), (20, 0), (21, 0), (22, 0), (23, 0), (24, 0), (25, 0), (26, 0), (27, 0), (28, 0), (29, 0)] T.mixed rfl rfl rfl (fun W => W.heap[b19]? = w89.heap[b19]? ∧ W.heap[bA]? = w89.heap[bA]? ∧ True) ⟨rfl, rfl, trivial⟩ ?_
          have o107 := hb88
          have c106 := Chg.drew w89
          generalize World.drew w89 = w105 at c106 ⊢
          replace HC := HC.then c106
          replace ht := ht.tr0 c106
          replace hv := hv.tr0 c106
          replace hr1 := hr1.tr0 c106
          replace hszP := Nat.le_trans hszP c106.size
          replace hl1 := hl1.tr0 c106
          replace hma := hma.tr0 c106
          replace hmw := hmw.tr0 c106
          replace hb88 := hb88.tr0 c106
          replace hm91 := hm91.tr0 c106
          refine sq_q rfl (fun W hT => r_move (v := .map _) rfl) <| sq_q rfl (fun W hT => r_fieldAddr T.fld42_0 rfl) <| sq_q rfl (fun W hT => r_load1 (v := S _) T.one9 rfl (Blk.cell (show Blk W b19 _ _ from hT.1.trans o107) rfl)) <| sq_q rfl (fun W hT => r_lookV (v := .bool false) T.map35 T.zvm35 rfl rfl (MpAt.same hmaO hT.2.1) (by rw [asgG_get, hB])) <| sq_q rfl (fun W hT => r_not rfl) <| sq_q rfl (fun W hT => r_move (v := .bool _) rfl) <| sq_q rfl (fun W hT => r_move (v := .bool _) rfl) <| sq_q rfl (fun W hT => r_not rfl) <| sq_q rfl (fun W hT => r_move (v := .bool _) rfl) <| sq_q rfl (fun W hT => r_move (v := S _) rfl) <| sq_q rfl (fun W hT => r_fieldAddr T.fld42_1 rfl) <| sq_q rfl (fun W hT => r_load1 (v := S _) T.one9 rfl (Blk.cell (show Blk W b19 _ _ from hT.1.trans o107) rfl)) <| sq_q rfl (fun W hT => r_sneq rfl rfl) <| sq_q rfl (fun W hT => r_pick (b := false) (v := .bool _) rfl rfl) <| sq_q rfl (fun W hT => r_pick (b := true) (v := .bool _) rfl rfl) <| sq_q rfl (fun W hT => r_move (v := .bool _) rfl) <| sq_split (d := 118) rfl (fun g108 => ?_) (fun g108 => ?_)
          ·try simp only [nm, ne_eq] at g108
           first | exact absurd rfl g108 | exact absurd trivial g108 | (simp at g108; done)
          ·try simp only [nm, ne_eq] at g108
           refine sq_q rfl (fun W hT => r_move (v := .int _ _) rfl) <| sq_q rfl (fun W hT => r_gtr rfl rfl) <| sq_q rfl (fun W hT => r_move (v := .bool _) rfl) <| sq_split (d := 121) rfl (fun g109 => ?_) (fun g109 => ?_)
           ·try simp only [nm, ne_eq] at g109
            exfalso; omega
           ·try simp only [nm, ne_eq] at g109
            refine sq_no rfl rfl <| sq_no rfl rfl <| sq_no rfl rfl <| sq_no rfl rfl <| sq_no rfl rfl <| sq_no rfl rfl <| sq_no rfl rfl <| sq_no rfl rfl <| sq_no rfl rfl <| sq_q rfl (fun W hT => r_pick (b := false) (v := .bool _) rfl rfl) <| sq_q rfl (fun W hT => r_pick (b := false) (v := .bool _) rfl rfl) ?_
            clear o107
            refine sq_nil <| then_n <| x_cond (t := false) rfl (fun h6 => ?_) (fun h6 => ?_)
            · exact absurd h6 (by decide)
            refine x_skip <| block_n <| then_n <| x_region rfl <| Wp rfl <| st_addn rfl rfl (by constructor <;> omega) <| mI rfl <| en <| ⟨i + 1, ?_, ?_, rfl, ⟨rfl, trivial⟩, ?_⟩
            ·refine ⟨?_, HC, ht, hv, hr1, hszP, hl1, hma, hmw, hm91⟩
             exact (by omega)
            ·show r.2.1.length - (i + 1) < r.2.1.length - i; omega
            repeat (first | exact agree_upds agree_over rfl | refine agree_upd ?_ rfl | refine agree_upds ?_ rfl | refine agree_over_sub ?_ rfl)
         ·have hmaO := hma
          have hltO := hma.lt
          obtain ⟨yp, hyp⟩ : ∃ y, r.2.1[i - 1]? = some y := ⟨_, List.getElem?_eq_getElem (by omega)⟩
          have hls := rise_lt hro (i := i - 1) (j := i) (by omega) hyp hxi
          obtain ⟨lb114, _, vs113, hA110, hR112, hC111⟩ := hr1.at (i := (i - 1)) (x := yp) (hyp)
          obtain rfl : vs113 = [S yp.1, S yp.2] := hR112
          refine x_draw [(0, 0), (1, 0), (2, 0), (3, 0), (4, 0), (5, 0), (6, 0), (7, 0), (8, 0), (9, 0), (10, 0), (11, 0), (12, 0), (13, 0), (14, 0), (15, 0), (16, 0), (17, 0), (18, 0), (19, 0), (20, 0), (21, 0), (22, 0), (23, 0), (24, 0), (25, 0), (26, 0), (27, 0), (28, 0), (29, 0)] T.mixed rfl rfl rfl (fun W => W.heap[b19]? = w89.heap[b19]? ∧ W.heap[bA]? = w89.heap[bA]? ∧ W.heap[lb114]? = w89.heap[lb114]? ∧ True) ⟨rfl, rfl, rfl, trivial⟩ ?_
          have o117 := hb88
          have c116 := Chg.drew w89
          generalize World.drew w89 = w115 at c116 ⊢
          have ht_lb114 : lb114 < w115.heap.size ∧ w115.heap[lb114]? = w89.heap[lb114]? := ⟨Nat.lt_of_lt_of_le hC111.lt c116.size, c116.block lb114 hC111.lt (by simp)⟩
          replace HC := HC.then c116
          replace ht := ht.tr0 c116
          replace hv := hv.tr0 c116
          replace hr1 := hr1.tr0 c116
          replace hszP := Nat.le_trans hszP c116.size
          replace hl1 := hl1.tr0 c116
          replace hma := hma.tr0 c116
          replace hmw := hmw.tr0 c116
          replace hb88 := hb88.tr0 c116
          replace hm91 := hm91.tr0 c116
          refine sq_q rfl (fun W hT => r_move (v := .map _) rfl) <| sq_q rfl (fun W hT => r_fieldAddr T.fld42_0 rfl) <| sq_q rfl (fun W hT => r_load1 (v := S _) T.one9 rfl (Blk.cell (show Blk W b19 _ _ from hT.1.trans o117) rfl)) <| sq_q rfl (fun W hT => r_lookV (v := .bool false) T.map35 T.zvm35 rfl rfl (MpAt.same hmaO hT.2.1) (by rw [asgG_get, hB])) <| sq_q rfl (fun W hT => r_not rfl) <| sq_q rfl (fun W hT => r_move (v := .bool _) rfl) <| sq_q rfl (fun W hT => r_move (v := .bool _) rfl) <| sq_q rfl (fun W hT => r_not rfl) <| sq_q rfl (fun W hT => r_move (v := .bool _) rfl) <| sq_q rfl (fun W hT => r_move (v := S _) rfl) <| sq_q rfl (fun W hT => r_fieldAddr T.fld42_1 rfl) <| sq_q rfl (fun W hT => r_load1 (v := S _) T.one9 rfl (Blk.cell (show Blk W b19 _ _ from hT.1.trans o117) rfl)) <| sq_q rfl (fun W hT => r_sneq rfl rfl) <| sq_q rfl (fun W hT => r_pick (b := false) (v := .bool _) rfl rfl) <| sq_q rfl (fun W hT => r_pick (b := true) (v := .bool _) rfl rfl) <| sq_q rfl (fun W hT => r_move (v := .bool _) rfl) <| sq_split (d := 118) rfl (fun g118 => ?_) (fun g118 => ?_)
          ·try simp only [nm, ne_eq] at g118
           first | exact absurd rfl g118 | exact absurd trivial g118 | (simp at g118; done)
          ·try simp only [nm, ne_eq] at g118
           refine sq_q rfl (fun W hT => r_move (v := .int _ _) rfl) <| sq_q rfl (fun W hT => r_gtr rfl rfl) <| sq_q rfl (fun W hT => r_move (v := .bool _) rfl) <| sq_split (d := 121) rfl (fun g119 => ?_) (fun g119 => ?_)
           ·try simp only [nm, ne_eq] at g119
            refine sq_q rfl (fun W hT => r_move (v := .slice _ _ _) rfl) <| sq_q rfl (fun W hT => r_move (v := .int _ _) rfl) <| sq_q rfl (fun W hT => r_subk rfl rfl (by exact (show IntKind.i64.wrap _ = ((i - 1 : Nat) : Int) by rw [wrap64_id (by omega) (by omega)]; omega))) <| sq_q rfl (fun W hT => r_indexAddr T.u22 T.size42 (congrArg (fun z => Value.slice z _ _) hA110) rfl (by omega) (by omega)) <| sq_q rfl (fun W hT => r_fieldAddr T.fld42_0 rfl) <| sq_q rfl (fun W hT => r_load1 (v := S _) T.one9 rfl (Cells.at (j := 0) (Cells.tr hC111 hT.2.2.1) rfl)) <| sq_q rfl (fun W hT => r_fieldAddr T.fld42_0 rfl) <| sq_q rfl (fun W hT => r_load1 (v := S _) T.one9 rfl (Blk.cell (show Blk W b19 _ _ from hT.1.trans o117) rfl)) <| sq_q rfl (fun W hT => r_sgeq rfl rfl) <| sq_q rfl (fun W hT => r_pick (b := true) (v := .bool _) rfl rfl) <| sq_q rfl (fun W hT => r_pick (b := false) (v := .bool _) rfl rfl) ?_
            clear o117
            refine sq_nil <| then_n <| x_cond rfl (fun h6 => ?_) (fun h6 => ?_)
            ·try simp only [nm, ne_eq] at h6
             first | (exfalso; rw [hls] at h6; simp at h6; done) | exact absurd hls (by rw [h6]; simp)
            ·try simp only [nm, ne_eq] at h6
             refine x_skip <| block_n <| then_n <| x_region rfl <| Wp rfl <| st_addn rfl rfl (by constructor <;> omega) <| mI rfl <| en <| ⟨i + 1, ?_, ?_, rfl, ⟨rfl, trivial⟩, ?_⟩
             ·refine ⟨?_, HC, ht, hv, hr1, hszP, hl1, hma, hmw, hm91⟩
              exact (by omega)
             ·show r.2.1.length - (i + 1) < r.2.1.length - i; omega
             repeat (first | exact agree_upds agree_over rfl | refine agree_upd ?_ rfl | refine agree_upds ?_ rfl | refine agree_over_sub ?_ rfl)
           ·try simp only [nm, ne_eq] at g119
            exfalso; omega
       ·try simp only [nm, ne_eq] at h5
        have hil : i = r.2.1.length := by omega
        rw [hil, List.take_length] at hmi
        clear hil
        refine x_exit <| then_x <| then_x <| block_x <| then_n <| x_seq <| sr rfl <| mL rfl <| Wp rfl <| st_len (ct := #[22]) (by rw [show ((#[22] : Array TypeId)[0]?).bind Tryz.prog.underlying = some (.slice 42) from T.u22]; rfl) rfl <| mI rfl <| en <| x_block <| x_loop (ι := Nat) [4, 23, 24, 25, 136, 137, 138, 139, 140, 141, 142, 143, 144, 145, 146, 147, 148, 149, 150, 151, 152, 153, 154, 155, 156, 157, 158, 159, 160, 161, 162] (fun i => [(136, .int .i64 (i : Int))]) (fun i W => (i ≤ vs.length) ∧ (Chg [] w W) ∧ (Tab W) ∧ (Sl prE W (fun k => k < w.heap.size) Av vs) ∧ (Sl prE W (fun _ => True) A1 r.2.1) ∧ (wP.heap.size ≤ W.heap.size) ∧ (Sl ndE W (fun k => k < wP.heap.size) Al (t.row 0)) ∧ (MpAt W bA (asgG (t.row 0))) ∧ (MpAt W bW (varG vs)) ∧ (MpAt W bI (varG r.2.1))) (fun i => vs.length - i) 0 ?_ ?_ ?_
        · exact ⟨rfl, trivial⟩
        ·refine ⟨?_, HC, ht, hv, hr1, hszP, hl1, hma, hmw, hmi⟩
         exact Nat.zero_le _
        intro i G121 w120 ⟨hi, HC, ht, hv, hr1, hszP, hl1, hma, hmw, hmi⟩
        change wp _ _ _ _ _ (upds (over _ _ G121) [(136, .int .i64 (i : Int))]) _ _
        refine sr rfl <| Wp rfl <| st_lss rfl rfl <| en <| x_seq <| x_cond rfl (fun h7 => ?_) (fun h7 => ?_)
        ·try simp only [nm, ne_eq] at h7
         obtain ⟨x, hxi⟩ : ∃ x, vs[i]? = some x := ⟨_, List.getElem?_eq_getElem (by omega)⟩
         refine x_skip <| then_n <| x_seq <| x_block <| sr rfl ?_
         obtain ⟨lb126, _, vs125, hA122, hR124, hC123⟩ := hv.at (i := i) (x := x) (hxi)
         obtain rfl : vs125 = [S x.1, S x.2] := hR124
         refine Wp rfl <| st_indexAddr T.u22 T.size42 (congrArg (fun z => Value.slice z _ _) hA122) rfl (by omega) (by omega) <| Wp rfl <| st_loadA (vs := [_, _]) T.agg42 rfl hC123 rfl <| Wp rfl <| st_alloc T.zero42 ?_
         intro b23 w127 e128 c129 hb130
         have ge_b23 : w.heap.size ≤ b23 := by rw [e128]; exact HC.size
         have nf_hv_b23 : vs = [] ∨ b23 ∉ ob (Av) := hv.fresh (by rw [e128]; exact Nat.le_refl _)
         have nf_hr1_b23 : r.2.1 = [] ∨ b23 ∉ ob (A1) := hr1.fresh (by rw [e128]; exact Nat.le_refl _)
         have gp_b23 : wP.heap.size ≤ b23 := by rw [e128]; exact hszP
         have nmp_bA_b23 : bA ≠ b23 := hma.fresh (by rw [e128]; exact Nat.le_refl _)
         have nmp_bW_b23 : bW ≠ b23 := hmw.fresh (by rw [e128]; exact Nat.le_refl _)
         have nmp_bI_b23 : bI ≠ b23 := hmi.fresh (by rw [e128]; exact Nat.le_refl _)
         replace HC := HC.then c129
         replace ht := ht.tr0 c129
         replace hv := hv.tr0 c129
         replace hr1 := hr1.tr0 c129
         replace hszP := Nat.le_trans hszP c129.size
         replace hl1 := hl1.tr0 c129
         replace hma := hma.tr0 c129
         replace hmw := hmw.tr0 c129
         replace hmi := hmi.tr0 c129
         clear e128
         refine Wp rfl <| st_store (v := .agg ⟨[S _, S _]⟩) T.size42 rfl rfl rfl hb130 rfl (Nat.le_of_ble_eq_true rfl) (by simp [Value.oneCell', S]) rfl ?_
         intro w131 c132 hb133; simp only [setVs, setV] at hb133
         clear hb130
         replace HC := HC.then1 c132 ge_b23
         replace ht := ht.tr c132 (by intro hx; have := ht.lt; have := ht1; simp only [List.mem_cons, List.mem_nil_iff, or_false] at hx; omega)
         replace hv := hv.trF flat_flat c132 (by intro k hx; simp only [List.mem_singleton] at hx; subst hx; exact nf_hv_b23)
         replace hr1 := hr1.trF flat_flat c132 (by intro k hx; simp only [List.mem_singleton] at hx; subst hx; exact nf_hr1_b23)
         replace hszP := Nat.le_trans hszP c132.size
         replace hl1 := hl1.tr c132 (by intro k hx hD; simp only [List.mem_cons, List.mem_nil_iff, or_false] at hx; have hD2 : k < wP.heap.size := hD; omega)
         replace hma := hma.tr c132 (by intro hx; simp only [List.mem_cons, List.mem_nil_iff, or_false] at hx; omega)
         replace hmw := hmw.tr c132 (by intro hx; simp only [List.mem_cons, List.mem_nil_iff, or_false] at hx; omega)
         replace hmi := hmi.tr c132 (by intro hx; simp only [List.mem_cons, List.mem_nil_iff, or_false] at hx; omega)
         refine en <| x_seq ?_
         rcases Bool.eq_false_or_eq_true (asgB (t.row 0) x.1) with hB | hB
         ·have hfv := findV_mem hgr (List.mem_of_getElem? hxi)
          have hso : (lastV r.2.1 x.1).isSome = true := by rw [lastV_find hro]; exact hkp.2 x.1 (by rw [hfv]; rfl)
          refine x_region rfl <| mv (v := .map _) rfl <| fa T.fld42_0 rfl <| lS T.one9 rfl (hb133.cell rfl) <| Wp rfl <| st_lookOkV (v := S ((lastV r.2.1 x.1).getD [])) (q := true) T.map40 T.zvm40 rfl rfl hmi (by exact varG_get _ _) (by rw [varG_some]; exact hso) <| mv (v := .tuple ⟨[_, _]⟩) rfl <| Wp rfl <| st_extract (vs := [_, _]) (v := S _) rfl rfl <| Wp rfl <| st_extract (vs := [_, _]) (v := .bool true) rfl rfl <| aS rfl <| aB rfl <| en <| sr rfl <| mB rfl <| Wp rfl <| st_not rfl <| mB rfl <| w_yes 2 149 false <| st_move (v := .map _) rfl <| w_yes 2 149 false <| st_fieldAddr T.fld42_0 rfl <| w_yes 2 149 false <| st_load1 (v := S _) T.one9 rfl (hb133.cell rfl) <| w_yes 2 149 false <| st_lookV (v := .bool true) T.map35 T.zvm35 rfl rfl hma (by rw [asgG_get, hB]) <| w_yes 2 149 false <| st_not rfl <| w_yes 2 149 false <| st_move (v := .bool _) rfl ?_
          iterate 4 refine w_no 8 155 true ?_
          refine w_yes 2 149 false <| st_pick (b := false) (v := .bool _) rfl rfl <| pF rfl rfl <| en <| x_cond (t := false) rfl (fun h8 => ?_) (fun h8 => ?_)
          · exact absurd h8 (by decide)
          refine x_skip <| block_n <| then_n <| x_region rfl <| Wp rfl <| st_addn rfl rfl (by constructor <;> omega) <| mI rfl <| en <| ⟨i + 1, ?_, ?_, rfl, ⟨rfl, trivial⟩, ?_⟩
          ·refine ⟨?_, HC, ht, hv, hr1, hszP, hl1, hma, hmw, hmi⟩
           exact (by omega)
          ·show vs.length - (i + 1) < vs.length - i; omega
          repeat (first | exact agree_upds agree_over rfl | refine agree_upd ?_ rfl | refine agree_upds ?_ rfl | refine agree_over_sub ?_ rfl)
         ·have hfv := findV_mem hgr (List.mem_of_getElem? hxi)
          have hso : (lastV r.2.1 x.1).isSome = true := by rw [lastV_find hro]; exact hkp.2 x.1 (by rw [hfv]; rfl)
          have hfn : lastV r.2.1 x.1 = some x.2 := by rw [lastV_find hro, hkp.1 x.1 hB]; exact hfv
          refine x_region rfl <| mv (v := .map _) rfl <| fa T.fld42_0 rfl <| lS T.one9 rfl (hb133.cell rfl) <| Wp rfl <| st_lookOkV (v := S x.2) (q := true) T.map40 T.zvm40 rfl rfl hmi (by rw [varG_get, hfn]; rfl) (by rw [varG_some]; exact hso) <| mv (v := .tuple ⟨[_, _]⟩) rfl <| Wp rfl <| st_extract (vs := [_, _]) (v := S x.2) rfl rfl <| Wp rfl <| st_extract (vs := [_, _]) (v := .bool true) rfl rfl <| aS rfl <| aB rfl <| en <| sr rfl <| mB rfl <| Wp rfl <| st_not rfl <| mB rfl <| w_yes 2 149 false <| st_move (v := .map _) rfl <| w_yes 2 149 false <| st_fieldAddr T.fld42_0 rfl <| w_yes 2 149 false <| st_load1 (v := S _) T.one9 rfl (hb133.cell rfl) <| w_yes 2 149 false <| st_lookV (v := .bool false) T.map35 T.zvm35 rfl rfl hma (by rw [asgG_get, hB]) <| w_yes 2 149 false <| st_not rfl <| w_yes 2 149 false <| st_move (v := .bool _) rfl ?_
          refine w_yes 8 155 true <| st_move (v := S _) rfl <| w_yes 8 155 true <| st_fieldAddr T.fld42_1 rfl <| w_yes 8 155 true <| st_load1 (v := S _) T.one9 rfl (hb133.cell rfl) <| w_yes 8 155 true <| st_sneq rfl rfl <| w_yes 2 149 false <| st_pick (b := true) (v := .bool _) rfl rfl <| pF rfl rfl <| en <| x_cond rfl (fun h8 => ?_) (fun h8 => ?_)
          ·try simp only [nm, ne_eq] at h8
           first | exact absurd rfl h8 | exact absurd trivial h8 | (simp at h8; done)
          ·try simp only [nm, ne_eq] at h8
           refine x_skip <| block_n <| then_n <| x_region rfl <| Wp rfl <| st_addn rfl rfl (by constructor <;> omega) <| mI rfl <| en <| ⟨i + 1, ?_, ?_, rfl, ⟨rfl, trivial⟩, ?_⟩
           ·refine ⟨?_, HC, ht, hv, hr1, hszP, hl1, hma, hmw, hmi⟩
            exact (by omega)
           ·show vs.length - (i + 1) < vs.length - i; omega
           repeat (first | exact agree_upds agree_over rfl | refine agree_upd ?_ rfl | refine agree_upds ?_ rfl | refine agree_over_sub ?_ rfl)
        ·try simp only [nm, ne_eq] at h7
         refine x_exit <| then_x <| then_x <| block_x <| then_n <| sr rfl <| Wp rfl <| st_call (ags := []) rfl rfl T.ent7 rfl (awake14_spec _ ht) ?_
         rintro _ w134 ⟨rfl, c135⟩
         replace HC := HC.then c135
         replace ht := ht.tr0 c135
         replace hv := hv.tr0 c135
         replace hr1 := hr1.tr0 c135
         replace hszP := Nat.le_trans hszP c135.size
         replace hl1 := hl1.tr0 c135
         replace hma := hma.tr0 c135
         replace hmw := hmw.tr0 c135
         replace hmi := hmi.tr0 c135
         refine aB rfl <| en <| x_ret <| ret_tmp (v := .bool _) rfl rfl ?_
         exact ⟨rfl, HC⟩

end Go.Proofs.YtmbbhgglllfelaaGreatDoor.K
