import Derived.Test.YtmbbhgglllfelaaGreatDoorHb
import Derived.Test.YtmbbhgglllfelaaGreatDoorGe
set_option linter.unusedVariables false
set_option linter.unusedSimpArgs false
set_option autoImplicit false
set_option maxRecDepth 20000
namespace Go.Proofs.YtmbbhgglllfelaaGreatDoor.K
open Go Go.Proofs Go.RowKit
open Tr
set_option maxHeartbeats 800000 in
theorem reval_step (n : Nat) (ih : ∀ (t : Tr) (p : Nat) (vs : List Vr) (r : Rs) (l : List Nd) (Al Av : Option Addr) (capl cv : Nat) (D D2 : Nat → Prop) (w : World), t.sz ≤ n → t.ok → SubAt l t p → Sl ndE w D Al l → p + t.sz ≤ l.length → l.length ≤ 1000000 → Sl prE w D2 Av vs → VK vs → vs.length + t.sz ≤ 100000000 → runV t vs = some r → CallR Tryz.prog 16 #[.slice Al l.length capl, .int .i64 (t.root p), .slice Av vs.length cv] w fun v w' => (∃ A cap, v = .tuple ⟨[.int .i64 r.1, .slice A r.2.1.length cap, .int .i64 r.2.2]⟩ ∧ Sl prE w' (fun _ => True) A r.2.1) ∧ Chg [] w w') (t : Tr) (p : Nat) (vs : List Vr) (r : Rs) (l : List Nd) (Al Av : Option Addr) (capl cv : Nat) (D D2 : Nat → Prop) (w : World) (hn : t.sz ≤ n + 1) (hok : t.ok) (hsub : SubAt l t p) (hl : Sl ndE w D Al l) (hpl : p + t.sz ≤ l.length) (hll : l.length ≤ 1000000) (hv : Sl prE w D2 Av vs) (hvk : VK vs) (hvl : vs.length + t.sz ≤ 100000000) (hr : runV t vs = some r) : CallR Tryz.prog 16 #[.slice Al l.length capl, .int .i64 (t.root p), .slice Av vs.length cv] w fun v w' => (∃ A cap, v = .tuple ⟨[.int .i64 r.1, .slice A r.2.1.length cap, .int .i64 r.2.2]⟩ ∧ Sl prE w' (fun _ => True) A r.2.1) ∧ Chg [] w w' := by
 replace hl := hl.mono (D' := fun k => k < w.heap.size) (fun k hk _ => hk)
 replace hv := hv.mono (D' := fun k => k < w.heap.size) (fun k hk _ => hk)
 have hnode := sub_node hsub
 have hkids := sub_kid hsub hok
 have hop3 := node_op t p hok
 have hsp := t.sz_pos
 have hrin := runV_some t vs hok hvk
 rw [runV_node t p] at hr
 unfold evalN at hr
 refine callR_of_wp (args := [_, _, _]) Tryz.func16 rfl (Nat.le_of_ble_eq_true rfl) ?_
 have HC : Chg [] w w := .refl _
 refine sr rfl <| aI rfl <| aL rfl <| aI rfl <| en <| sr rfl <| mL rfl <| mI rfl ?_
 obtain ⟨lb5, _, vs4, hA1, hR3, hC2⟩ := hl.at (i := (p + t.sz - 1)) (x := (t.node p)) (hnode)
 obtain ⟨K6, cK6, rfl, hk1_6, hk2_6, hk3_6⟩ := hR3
 refine Wp rfl <| st_indexAddr T.u32 T.size38 (congrArg (fun z => Value.slice z _ _) hA1) rfl (by unfold Tr.root; omega) (by unfold Tr.root; omega) <| Wp rfl <| st_loadA (vs := [_, _, _, _]) T.agg38 rfl hC2 rfl <| Wp rfl <| st_alloc T.zero38 ?_
 intro b9 w7 e8 c9 hb10
 have ge_b9 : w.heap.size ≤ b9 := by rw [e8]; exact HC.size
 have nf_hv_b9 : vs = [] ∨ b9 ∉ ob (Av) := hv.fresh (by rw [e8]; exact Nat.le_refl _)
 replace HC := HC.then c9
 replace hl := hl.tr0 c9
 replace hv := hv.tr0 c9
 replace hk3_6 := hk3_6.tr0 c9
 clear e8
 refine Wp rfl <| st_store (v := .agg ⟨[S _, .int _ _, S _, .slice _ _ _]⟩) T.size38 rfl rfl rfl hb10 rfl (Nat.le_of_ble_eq_true rfl) (by simp [Value.oneCell', S]) rfl ?_
 intro w11 c12 hb13; simp only [setVs, setV] at hb13
 clear hb10
 replace HC := HC.then1 c12 ge_b9
 replace hl := hl.tr c12 (by intro k hx hD; simp only [List.mem_cons, List.mem_nil_iff, or_false] at hx; have hD2 : k < w.heap.size := hD; omega)
 replace hv := hv.trF flat_flat c12 (by intro k hx; simp only [List.mem_singleton] at hx; subst hx; exact nf_hv_b9)
 replace hk3_6 := hk3_6.tr c12 (by intro k hx hD; simp only [List.mem_cons, List.mem_nil_iff, or_false] at hx; have hD2 : k < w.heap.size := hD; omega)
 refine en <| x_seq <| sr rfl <| fa T.fld38_0 rfl <| lS T.one9 rfl (hb13.cell rfl) <| Wp rfl <| st_seql rfl rfl <| en <| x_cond rfl (fun h0 => ?_) (fun h0 => ?_)
 ·try simp only [nm, ne_eq] at h0
  rw [if_pos h0] at hr
  obtain rfl := Option.some.inj hr
  refine sr rfl <| fa T.fld38_1 rfl <| lI T.one2 rfl (hb13.cell rfl) <| mL rfl <| aI rfl <| aL rfl <| aI rfl <| en <| x_ret <| then_r <| ret_tmp3 (v := .int _ _) (v2 := .slice _ _ _) (v3 := .int _ _) rfl rfl rfl rfl ?_
  try obtain rfl := Option.some.inj hr
  exact ⟨⟨_, _, rfl, hv.mono (fun _ _ _ => trivial)⟩, HC⟩
 ·try simp only [nm, ne_eq] at h0
  rw [if_neg h0] at hr
  refine x_skip <| then_n <| x_seq <| sr rfl <| fa T.fld38_0 rfl <| lS T.one9 rfl (hb13.cell rfl) <| Wp rfl <| st_seql rfl rfl <| en <| x_cond rfl (fun h1 => ?_) (fun h1 => ?_)
  ·try simp only [nm, ne_eq] at h1
   rw [if_pos h1] at hr
   obtain rfl := Option.some.inj hr
   refine sr rfl <| mL rfl <| fa T.fld38_2 rfl <| lS T.one9 rfl (hb13.cell rfl) <| Wp rfl <| st_call (ags := [_, _]) rfl rfl T.ent31 rfl (RGet_spec (t.node p).name hv (by omega)) ?_
   rintro _ w14 ⟨rfl, c15⟩
   replace HC := HC.then c15
   replace hl := hl.tr0 c15
   replace hv := hv.tr0 c15
   replace hk3_6 := hk3_6.tr0 c15
   replace hb13 := hb13.tr0 c15
   refine Wp rfl <| st_call (ags := [_]) rfl rfl T.ent30 rfl (RValue_spec _ _ (getR_len hvk.2)) ?_
   rintro vg w16 ⟨hvg, c17⟩
   rw [← getV_R hvk.1] at hvg
   subst hvg
   replace HC := HC.then c17
   replace hl := hl.tr0 c17
   replace hv := hv.tr0 c17
   replace hk3_6 := hk3_6.tr0 c17
   replace hb13 := hb13.tr0 c17
   refine mv (v := .tuple ⟨[_, _]⟩) rfl <| Wp rfl <| st_extract (vs := [_, _]) (v := .int _ _) rfl rfl <| Wp rfl <| st_extract (vs := [_, _]) (v := .int _ _) rfl rfl <| aI rfl <| aI rfl <| en <| sr rfl <| mI rfl <| mL rfl <| mI rfl <| aI rfl <| aL rfl <| aI rfl <| en <| x_ret <| then_r <| ret_tmp3 (v := .int _ _) (v2 := .slice _ _ _) (v3 := .int _ _) rfl rfl rfl rfl ?_
   try obtain rfl := Option.some.inj hr
   exact ⟨⟨_, _, rfl, hv.mono (fun _ _ _ => trivial)⟩, HC⟩
  ·try simp only [nm, ne_eq] at h1
   rw [if_neg h1] at hr
   refine x_skip <| then_n <| x_seq ?_
   obtain ⟨r0, hk0, hr⟩ := obind hr
   obtain ⟨c0, hc0, hv0⟩ := kid_of hk0
   obtain ⟨hs10, hs20, hs30, hs40, _⟩ := hkids c0 (List.mem_of_getElem? hc0)
   have hkk0 : (t.node p).kids[0]? = some (c0.1.root c0.2) := by rw [node_kids, List.getElem?_map, hc0]; rfl
   have hkl0 := (List.getElem?_eq_some_iff.1 hkk0).1
   refine x_region rfl <| mL rfl <| fa T.fld38_3 rfl <| lL T.one36 rfl (hb13.cell rfl) ?_
   obtain ⟨lb22, _, vs21, hA18, hR20, hC19⟩ := hk3_6.at (i := 0) (x := (c0.1.root c0.2)) (hkk0)
   obtain rfl : vs21 = [.int .i64 (c0.1.root c0.2)] := hR20
   refine Wp rfl <| st_indexAddr T.u36 T.size3 (congrArg (fun z => Value.slice z _ _) hA18) rfl (by omega) (by omega) <| lI T.one3 rfl (hC19.at (j := 0) rfl) <| mL rfl <| Wp rfl <| st_call (ags := [_, _, _]) rfl rfl T.ent16 rfl (ih c0.1 c0.2 _ r0 l _ _ _ _ _ _ _ (by omega) hs40 hs10 hl (by omega) hll hv hvk (by omega) hv0) ?_
   rintro _ w23 ⟨⟨A0, cap0, rfl, hv0x⟩, c24⟩
   replace HC := HC.then c24
   replace hl := hl.tr0 c24
   replace hv := hv.tr0 c24
   replace hk3_6 := hk3_6.tr0 c24
   replace hb13 := hb13.tr0 c24
   obtain ⟨hvk0, hln0⟩ := runV_vk c0.1 _ _ hv0 hvk
   refine mv (v := .tuple ⟨[_, _, _]⟩) rfl <| Wp rfl <| st_extract (vs := [_, _, _]) (v := .int _ _) rfl rfl <| Wp rfl <| st_extract (vs := [_, _, _]) (v := .slice _ _ _) rfl rfl <| Wp rfl <| st_extract (vs := [_, _, _]) (v := .int _ _) rfl rfl <| aI rfl <| aL rfl <| aI rfl <| en <| x_seq <| x_seq ?_
   have hin0 : inR r0.1 := by obtain ⟨r9, h9, h8, _⟩ := runV_some c0.1 _ hs40 hvk; rw [hv0] at h9; cases h9; exact h8
   refine x_region rfl <| mI rfl <| Wp rfl <| st_neq rfl rfl <| en <| x_cond rfl (fun h2 => ?_) (fun h2 => ?_)
   ·try simp only [nm, ne_eq] at h2
    rw [if_pos h2] at hr
    obtain rfl := Option.some.inj hr
    refine sr rfl <| mL rfl <| mI rfl <| aI rfl <| aL rfl <| aI rfl <| en <| x_ret <| then_r <| ret_tmp3 (v := .int _ _) (v2 := .slice _ _ _) (v3 := .int _ _) rfl rfl rfl rfl ?_
    try obtain rfl := Option.some.inj hr
    exact ⟨⟨A0, cap0, rfl, hv0x.mono (fun _ _ _ => trivial)⟩, HC⟩
   ·try simp only [nm, ne_eq] at h2
    have h20 : r0.2.2 = 0 := by omega
    rw [if_neg (fun h => h h20)] at hr
    refine x_skip <| then_n <| x_seq <| x_block <| sr rfl <| fa T.fld38_0 rfl <| lS T.one9 rfl (hb13.cell rfl) <| Wp rfl <| st_call (ags := [_]) rfl rfl T.ent12 rfl (RAssigns_spec _ _) ?_
    rintro _ w25 ⟨rfl, c26⟩
    replace HC := HC.then c26
    replace hl := hl.tr0 c26
    replace hv := hv.tr0 c26
    replace hk3_6 := hk3_6.tr0 c26
    replace hb13 := hb13.tr0 c26
    replace hv0x := hv0x.tr0 c26
    refine aB rfl <| en <| x_cond rfl (fun h3 => ?_) (fun h3 => ?_)
    ·try simp only [nm, ne_eq] at h3
     rw [if_pos ((node_asg hok (by assumption)).1 h3)] at hr
     refine sr rfl <| Wp rfl <| st_loadA (vs := [_, _, _, _]) T.agg38 rfl (hb13.cells (n := 4) (vs := [_, _, _, _]) rfl) rfl <| mI rfl <| mL rfl <| Wp rfl <| st_call (ags := [_, _, _]) rfl rfl T.ent32 rfl (RAssign_spec (x := t.node p) (D := fun k => k < w.heap.size) hv0x ⟨_, _, rfl, hk1_6, hk2_6, hk3_6⟩ hvk0 (by omega) h3 hr) ?_
     rintro _ w27 ⟨⟨Aa, capa, rfl, hva⟩, c28⟩
     replace HC := HC.then c28
     replace hl := hl.tr0 c28
     replace hv := hv.tr0 c28
     replace hk3_6 := hk3_6.tr0 c28
     replace hb13 := hb13.tr0 c28
     replace hv0x := hv0x.tr0 c28
     refine Wp rfl <| st_extract (vs := [_, _, _]) (v := .int _ _) rfl rfl <| Wp rfl <| st_extract (vs := [_, _, _]) (v := .slice _ _ _) rfl rfl <| Wp rfl <| st_extract (vs := [_, _, _]) (v := .int _ _) rfl rfl <| aI rfl <| aL rfl <| aI rfl <| en <| x_ret <| block_r <| then_r <| ret_tmp3 (v := .int _ _) (v2 := .slice _ _ _) (v3 := .int _ _) rfl rfl rfl rfl ?_
     try obtain rfl := Option.some.inj hr
     exact ⟨⟨Aa, capa, rfl, hva.mono (fun _ _ _ => trivial)⟩, HC⟩
    ·try simp only [nm, ne_eq] at h3
     have hnm : (t.node p).name = [] := Classical.byContradiction (fun hn => h3 ((node_asg hok (by assumption)).2 hn))
     rw [if_neg (fun h => h hnm)] at hr
     refine sr rfl <| fa T.fld38_3 rfl <| lL T.one36 rfl (hb13.cell rfl) <| Wp rfl <| st_len (ct := #[36]) (by rw [show ((#[36] : Array TypeId)[0]?).bind Tryz.prog.underlying = some (.slice 3) from T.u36]; rfl) rfl <| Wp rfl <| st_eql rfl rfl <| aB rfl <| en <| x_cond rfl (fun h4 => ?_) (fun h4 => ?_)
     ·try simp only [nm, ne_eq] at h4
      have hun := node_un hok (by assumption) hnm (by omega)
      refine x_seq <| sr rfl <| fa T.fld38_0 rfl <| lS T.one9 rfl (hb13.cell rfl) <| en <| x_block <| sr rfl <| Wp rfl <| st_seql rfl rfl <| aB rfl <| en <| x_cond rfl (fun h5 => ?_) (fun h5 => ?_)
      ·try simp only [nm, ne_eq] at h5
       rw [if_neg (by rw [h5]; decide), if_pos h5] at hr
       refine sr rfl <| mI rfl <| Wp rfl <| st_neg rfl <| mL rfl <| aI rfl <| aL rfl <| aI rfl <| en <| x_ret <| block_r <| then_r <| block_r <| then_r <| ret_tmp3 (v := .int _ _) (v2 := .slice _ _ _) (v3 := .int _ _) rfl rfl rfl rfl ?_
       try obtain rfl := Option.some.inj hr
       exact ⟨⟨A0, cap0, rfl, hv0x.mono (fun _ _ _ => trivial)⟩, HC⟩
      ·try simp only [nm, ne_eq] at h5
       refine sr rfl <| Wp rfl <| st_seql rfl rfl <| aB rfl <| en <| x_cond rfl (fun h6 => ?_) (fun h6 => ?_)
       ·try simp only [nm, ne_eq] at h6
        rw [if_neg (by rw [h6]; decide), if_neg h5, if_pos h6] at hr
        refine sr rfl <| mI rfl <| Wp rfl <| st_eql rfl rfl <| Wp rfl <| st_call (ags := [_]) rfl rfl T.ent33 rfl (rtruth_spec _ _) ?_
        rintro _ w29 ⟨rfl, c30⟩
        replace HC := HC.then c30
        replace hl := hl.tr0 c30
        replace hv := hv.tr0 c30
        replace hk3_6 := hk3_6.tr0 c30
        replace hb13 := hb13.tr0 c30
        replace hv0x := hv0x.tr0 c30
        refine mL rfl <| aI rfl <| aL rfl <| aI rfl <| en <| x_ret <| block_r <| then_r <| block_r <| then_r <| ret_tmp3 (v := .int _ _) (v2 := .slice _ _ _) (v3 := .int _ _) rfl rfl rfl rfl ?_
        try obtain rfl := Option.some.inj hr
        exact ⟨⟨A0, cap0, rfl, hv0x.mono (fun _ _ _ => trivial)⟩, HC⟩
       ·try simp only [nm, ne_eq] at h6
        refine sr rfl <| Wp rfl <| st_seql rfl rfl <| aB rfl <| en <| x_cond rfl (fun h7 => ?_) (fun h7 => ?_)
        ·try simp only [nm, ne_eq] at h7
         rw [if_neg (by rw [h7]; decide), if_neg h5, if_neg h6, if_pos h7, ← not64 hin0.1 hin0.2] at hr
         refine sr rfl <| mI rfl <| Wp rfl <| st_neg rfl <| Wp rfl <| st_sub rfl rfl <| mL rfl <| aI rfl <| aL rfl <| aI rfl <| en <| x_ret <| block_r <| then_r <| block_r <| then_r <| ret_tmp3 (v := .int _ _) (v2 := .slice _ _ _) (v3 := .int _ _) rfl rfl rfl rfl ?_
         try obtain rfl := Option.some.inj hr
         exact ⟨⟨A0, cap0, rfl, hv0x.mono (fun _ _ _ => trivial)⟩, HC⟩
        ·try simp only [nm, ne_eq] at h7
         rw [if_pos (hun.resolve_right (fun h => h.elim h5 (fun h => h.elim h6 h7)))] at hr
         refine x_skip <| block_n <| then_n <| sr rfl <| mI rfl <| mL rfl <| aI rfl <| aL rfl <| aI rfl <| en <| x_ret <| block_r <| then_r <| ret_tmp3 (v := .int _ _) (v2 := .slice _ _ _) (v3 := .int _ _) rfl rfl rfl rfl ?_
         try obtain rfl := Option.some.inj hr
         exact ⟨⟨A0, cap0, rfl, hv0x.mono (fun _ _ _ => trivial)⟩, HC⟩
     ·try simp only [nm, ne_eq] at h4
      obtain ⟨nu1, nu2, nu3, nu4⟩ := node_nun (p := p) hok (by omega)
      rw [if_neg nu1, if_neg nu2, if_neg nu3, if_neg nu4] at hr
      refine sr rfl <| fa T.fld38_0 rfl <| lS T.one9 rfl (hb13.cell rfl) <| Wp rfl <| st_seql rfl rfl <| aB rfl <| en <| x_cond rfl (fun h8 => ?_) (fun h8 => ?_)
      ·try simp only [nm, ne_eq] at h8
       rw [if_pos h8] at hr
       refine x_seq <| sr rfl <| mI rfl <| Wp rfl <| st_neq rfl rfl <| en <| x_cond rfl (fun h9 => ?_) (fun h9 => ?_)
       ·try simp only [nm, ne_eq] at h9
        rw [if_pos h9] at hr
        obtain ⟨c2, hc2, hv2⟩ := kid_of hr
        have hss2 := kid_two hc0 hc2 (by decide)
        obtain ⟨hs12, hs22, hs32, hs42, _⟩ := hkids c2 (List.mem_of_getElem? hc2)
        have hkk2 : (t.node p).kids[1]? = some (c2.1.root c2.2) := by rw [node_kids, List.getElem?_map, hc2]; rfl
        have hkl2 := (List.getElem?_eq_some_iff.1 hkk2).1
        refine sr rfl <| mL rfl <| fa T.fld38_3 rfl <| lL T.one36 rfl (hb13.cell rfl) ?_
        obtain ⟨lb35, _, vs34, hA31, hR33, hC32⟩ := hk3_6.at (i := 1) (x := (c2.1.root c2.2)) (hkk2)
        obtain rfl : vs34 = [.int .i64 (c2.1.root c2.2)] := hR33
        refine Wp rfl <| st_indexAddr T.u36 T.size3 (congrArg (fun z => Value.slice z _ _) hA31) rfl (by omega) (by omega) <| lI T.one3 rfl (hC32.at (j := 0) rfl) <| mL rfl <| Wp rfl <| st_call (ags := [_, _, _]) rfl rfl T.ent16 rfl (ih c2.1 c2.2 _ r l _ _ _ _ _ _ _ (by omega) hs42 hs12 hl (by omega) hll hv0x hvk0 (by omega) hv2) ?_
        rintro _ w36 ⟨⟨A2, cap2, rfl, hv2x⟩, c37⟩
        replace HC := HC.then c37
        replace hl := hl.tr0 c37
        replace hv := hv.tr0 c37
        replace hk3_6 := hk3_6.tr0 c37
        replace hb13 := hb13.tr0 c37
        replace hv0x := hv0x.tr0 c37
        refine Wp rfl <| st_extract (vs := [_, _, _]) (v := .int _ _) rfl rfl <| Wp rfl <| st_extract (vs := [_, _, _]) (v := .slice _ _ _) rfl rfl <| Wp rfl <| st_extract (vs := [_, _, _]) (v := .int _ _) rfl rfl <| aI rfl <| aL rfl <| aI rfl <| en <| x_ret <| then_r <| block_r <| then_r <| ret_tmp3 (v := .int _ _) (v2 := .slice _ _ _) (v3 := .int _ _) rfl rfl rfl rfl ?_
        try obtain rfl := Option.some.inj hr
        exact ⟨⟨A2, cap2, rfl, hv2x.mono (fun _ _ _ => trivial)⟩, HC⟩
       ·try simp only [nm, ne_eq] at h9
        rw [if_neg (fun h => h h9)] at hr
        obtain ⟨c3, hc3, hv3⟩ := kid_of hr
        have hss3 := kid_two hc0 hc3 (by decide)
        obtain ⟨hs13, hs23, hs33, hs43, _⟩ := hkids c3 (List.mem_of_getElem? hc3)
        have hkk3 : (t.node p).kids[2]? = some (c3.1.root c3.2) := by rw [node_kids, List.getElem?_map, hc3]; rfl
        have hkl3 := (List.getElem?_eq_some_iff.1 hkk3).1
        refine x_skip <| then_n <| sr rfl <| mL rfl <| fa T.fld38_3 rfl <| lL T.one36 rfl (hb13.cell rfl) ?_
        obtain ⟨lb42, _, vs41, hA38, hR40, hC39⟩ := hk3_6.at (i := 2) (x := (c3.1.root c3.2)) (hkk3)
        obtain rfl : vs41 = [.int .i64 (c3.1.root c3.2)] := hR40
        refine Wp rfl <| st_indexAddr T.u36 T.size3 (congrArg (fun z => Value.slice z _ _) hA38) rfl (by omega) (by omega) <| lI T.one3 rfl (hC39.at (j := 0) rfl) <| mL rfl <| Wp rfl <| st_call (ags := [_, _, _]) rfl rfl T.ent16 rfl (ih c3.1 c3.2 _ r l _ _ _ _ _ _ _ (by omega) hs43 hs13 hl (by omega) hll hv0x hvk0 (by omega) hv3) ?_
        rintro _ w43 ⟨⟨A3, cap3, rfl, hv3x⟩, c44⟩
        replace HC := HC.then c44
        replace hl := hl.tr0 c44
        replace hv := hv.tr0 c44
        replace hk3_6 := hk3_6.tr0 c44
        replace hb13 := hb13.tr0 c44
        replace hv0x := hv0x.tr0 c44
        refine Wp rfl <| st_extract (vs := [_, _, _]) (v := .int _ _) rfl rfl <| Wp rfl <| st_extract (vs := [_, _, _]) (v := .slice _ _ _) rfl rfl <| Wp rfl <| st_extract (vs := [_, _, _]) (v := .int _ _) rfl rfl <| aI rfl <| aL rfl <| aI rfl <| en <| x_ret <| block_r <| then_r <| ret_tmp3 (v := .int _ _) (v2 := .slice _ _ _) (v3 := .int _ _) rfl rfl rfl rfl ?_
        try obtain rfl := Option.some.inj hr
        exact ⟨⟨A3, cap3, rfl, hv3x.mono (fun _ _ _ => trivial)⟩, HC⟩
      ·try simp only [nm, ne_eq] at h8
       rw [if_neg h8] at hr
       refine sr rfl <| fa T.fld38_0 rfl <| lS T.one9 rfl (hb13.cell rfl) <| Wp rfl <| st_seql rfl rfl <| mB rfl <| w_split (d := 122) rfl (fun g45 => ?_) (fun g45 => ?_)
       ·try simp only [nm, ne_eq] at g45
        rw [if_pos (by assumption)] at hr
        refine w_yes 3 122 true <| st_move (v := .int _ _) rfl <| w_yes 3 122 true <| st_eql rfl rfl <| pT rfl rfl <| aB rfl <| en <| x_cond rfl (fun h10 => ?_) (fun h10 => ?_)
        ·try simp only [nm, ne_eq] at h10
         rw [if_neg (fun h => h h10)] at hr
         refine sr rfl <| mL rfl <| aI rfl <| aL rfl <| aI rfl <| en <| x_ret <| block_r <| then_r <| ret_tmp3 (v := .int _ _) (v2 := .slice _ _ _) (v3 := .int _ _) rfl rfl rfl rfl ?_
         try obtain rfl := Option.some.inj hr
         exact ⟨⟨A0, cap0, rfl, hv0x.mono (fun _ _ _ => trivial)⟩, HC⟩
        ·try simp only [nm, ne_eq] at h10
         rw [if_pos h10] at hr
         refine sr rfl <| fa T.fld38_0 rfl <| lS T.one9 rfl (hb13.cell rfl) <| Wp rfl <| st_seql rfl rfl <| mB rfl <| w_split (d := 131) rfl (fun g46 => ?_) (fun g46 => ?_)
         ·try simp only [nm, ne_eq] at g46
          exact absurd (Eq.trans (Eq.symm (by assumption : (t.node p).op = [38, 38])) g46) (by decide)
         ·try simp only [nm, ne_eq] at g46
          refine w_no 3 131 true <| w_no 3 131 true <| pF rfl rfl <| aB rfl <| en <| x_cond (t := false) rfl (fun h11 => ?_) (fun h11 => ?_)
          · exact absurd h11 (by decide)
          refine x_skip <| block_n <| then_n <| x_seq ?_
          obtain ⟨r1, hk1, hr⟩ := obind hr
          obtain ⟨c1, hc1, hv1⟩ := kid_of hk1
          have hss1 := kid_two hc0 hc1 (by decide)
          obtain ⟨hs11, hs21, hs31, hs41, _⟩ := hkids c1 (List.mem_of_getElem? hc1)
          have hkk1 : (t.node p).kids[1]? = some (c1.1.root c1.2) := by rw [node_kids, List.getElem?_map, hc1]; rfl
          have hkl1 := (List.getElem?_eq_some_iff.1 hkk1).1
          refine x_region rfl <| mL rfl <| fa T.fld38_3 rfl <| lL T.one36 rfl (hb13.cell rfl) ?_
          obtain ⟨lb51, _, vs50, hA47, hR49, hC48⟩ := hk3_6.at (i := 1) (x := (c1.1.root c1.2)) (hkk1)
          obtain rfl : vs50 = [.int .i64 (c1.1.root c1.2)] := hR49
          refine Wp rfl <| st_indexAddr T.u36 T.size3 (congrArg (fun z => Value.slice z _ _) hA47) rfl (by omega) (by omega) <| lI T.one3 rfl (hC48.at (j := 0) rfl) <| mL rfl <| Wp rfl <| st_call (ags := [_, _, _]) rfl rfl T.ent16 rfl (ih c1.1 c1.2 _ r1 l _ _ _ _ _ _ _ (by omega) hs41 hs11 hl (by omega) hll hv0x hvk0 (by omega) hv1) ?_
          rintro _ w52 ⟨⟨A1, cap1, rfl, hv1x⟩, c53⟩
          replace HC := HC.then c53
          replace hl := hl.tr0 c53
          replace hv := hv.tr0 c53
          replace hk3_6 := hk3_6.tr0 c53
          replace hb13 := hb13.tr0 c53
          replace hv0x := hv0x.tr0 c53
          obtain ⟨hvk1, hln1⟩ := runV_vk c1.1 _ _ hv1 hvk0
          refine mv (v := .tuple ⟨[_, _, _]⟩) rfl <| Wp rfl <| st_extract (vs := [_, _, _]) (v := .int _ _) rfl rfl <| Wp rfl <| st_extract (vs := [_, _, _]) (v := .slice _ _ _) rfl rfl <| Wp rfl <| st_extract (vs := [_, _, _]) (v := .int _ _) rfl rfl <| aI rfl <| aL rfl <| aI rfl <| en <| x_seq <| sr rfl <| mI rfl <| Wp rfl <| st_neq rfl rfl <| en <| x_cond rfl (fun h12 => ?_) (fun h12 => ?_)
          ·try simp only [nm, ne_eq] at h12
           obtain rfl := Option.some.inj hr
           have hz : r1.1 = 0 := by obtain ⟨r9, h9, _, h8, _⟩ := runV_some c1.1 _ hs41 hvk0; rw [hv1] at h9; cases h9; exact h8 h12
           rw [hz]
           refine sr rfl <| mL rfl <| mI rfl <| aI rfl <| aL rfl <| aI rfl <| en <| x_ret <| then_r <| ret_tmp3 (v := .int _ _) (v2 := .slice _ _ _) (v3 := .int _ _) rfl rfl rfl rfl ?_
           try obtain rfl := Option.some.inj hr
           exact ⟨⟨A1, cap1, rfl, hv1x.mono (fun _ _ _ => trivial)⟩, HC⟩
          ·try simp only [nm, ne_eq] at h12
           have h120 : r1.2.2 = 0 := by omega
           obtain rfl := Option.some.inj hr
           rw [h120]
           refine x_skip <| then_n <| x_seq <| sr rfl <| fa T.fld38_0 rfl <| lS T.one9 rfl (hb13.cell rfl) <| Wp rfl <| st_seql rfl rfl <| mB rfl <| w_split (d := 154) rfl (fun g54 => ?_) (fun g54 => ?_)
           ·try simp only [nm, ne_eq] at g54
            iterate 3 refine w_no 3 154 false ?_
            refine pT rfl rfl <| en <| x_cond (t := true) rfl (fun h13 => ?_) (fun h13 => ?_)
            rotate_left
            · exact absurd h13 (by decide)
            refine sr rfl <| mI rfl <| Wp rfl <| st_neq rfl rfl <| Wp rfl <| st_call (ags := [_]) rfl rfl T.ent33 rfl (rtruth_spec _ _) ?_
            rintro _ w55 ⟨rfl, c56⟩
            replace HC := HC.then c56
            replace hl := hl.tr0 c56
            replace hv := hv.tr0 c56
            replace hk3_6 := hk3_6.tr0 c56
            replace hb13 := hb13.tr0 c56
            replace hv0x := hv0x.tr0 c56
            replace hv1x := hv1x.tr0 c56
            refine mL rfl <| aI rfl <| aL rfl <| aI rfl <| en <| x_ret <| then_r <| ret_tmp3 (v := .int _ _) (v2 := .slice _ _ _) (v3 := .int _ _) rfl rfl rfl rfl ?_
            try obtain rfl := Option.some.inj hr
            exact ⟨⟨A1, cap1, rfl, hv1x.mono (fun _ _ _ => trivial)⟩, HC⟩
           ·try simp only [nm, ne_eq] at g54
            exact absurd (by assumption) g54
       ·try simp only [nm, ne_eq] at g45
        rw [if_neg (by assumption)] at hr
        refine w_no 3 122 true <| w_no 3 122 true <| pF rfl rfl <| aB rfl <| en <| x_cond (t := false) rfl (fun h10 => ?_) (fun h10 => ?_)
        · exact absurd h10 (by decide)
        refine sr rfl <| fa T.fld38_0 rfl <| lS T.one9 rfl (hb13.cell rfl) <| Wp rfl <| st_seql rfl rfl <| mB rfl <| w_split (d := 131) rfl (fun g57 => ?_) (fun g57 => ?_)
        ·try simp only [nm, ne_eq] at g57
         rw [if_pos (by assumption)] at hr
         refine w_yes 3 131 true <| st_move (v := .int _ _) rfl <| w_yes 3 131 true <| st_neq rfl rfl <| pT rfl rfl <| aB rfl <| en <| x_cond rfl (fun h11 => ?_) (fun h11 => ?_)
         ·try simp only [nm, ne_eq] at h11
          rw [if_pos h11] at hr
          refine sr rfl <| mL rfl <| aI rfl <| aL rfl <| aI rfl <| en <| x_ret <| block_r <| then_r <| ret_tmp3 (v := .int _ _) (v2 := .slice _ _ _) (v3 := .int _ _) rfl rfl rfl rfl ?_
          try obtain rfl := Option.some.inj hr
          exact ⟨⟨A0, cap0, rfl, hv0x.mono (fun _ _ _ => trivial)⟩, HC⟩
         ·try simp only [nm, ne_eq] at h11
          rw [if_neg (by first | exact h11 | exact fun h => h h11)] at hr
          refine x_skip <| block_n <| then_n <| x_seq ?_
          obtain ⟨r1, hk1, hr⟩ := obind hr
          obtain ⟨c1, hc1, hv1⟩ := kid_of hk1
          have hss1 := kid_two hc0 hc1 (by decide)
          obtain ⟨hs11, hs21, hs31, hs41, _⟩ := hkids c1 (List.mem_of_getElem? hc1)
          have hkk1 : (t.node p).kids[1]? = some (c1.1.root c1.2) := by rw [node_kids, List.getElem?_map, hc1]; rfl
          have hkl1 := (List.getElem?_eq_some_iff.1 hkk1).1
          refine x_region rfl <| mL rfl <| fa T.fld38_3 rfl <| lL T.one36 rfl (hb13.cell rfl) ?_
          obtain ⟨lb62, _, vs61, hA58, hR60, hC59⟩ := hk3_6.at (i := 1) (x := (c1.1.root c1.2)) (hkk1)
          obtain rfl : vs61 = [.int .i64 (c1.1.root c1.2)] := hR60
          refine Wp rfl <| st_indexAddr T.u36 T.size3 (congrArg (fun z => Value.slice z _ _) hA58) rfl (by omega) (by omega) <| lI T.one3 rfl (hC59.at (j := 0) rfl) <| mL rfl <| Wp rfl <| st_call (ags := [_, _, _]) rfl rfl T.ent16 rfl (ih c1.1 c1.2 _ r1 l _ _ _ _ _ _ _ (by omega) hs41 hs11 hl (by omega) hll hv0x hvk0 (by omega) hv1) ?_
          rintro _ w63 ⟨⟨A1, cap1, rfl, hv1x⟩, c64⟩
          replace HC := HC.then c64
          replace hl := hl.tr0 c64
          replace hv := hv.tr0 c64
          replace hk3_6 := hk3_6.tr0 c64
          replace hb13 := hb13.tr0 c64
          replace hv0x := hv0x.tr0 c64
          obtain ⟨hvk1, hln1⟩ := runV_vk c1.1 _ _ hv1 hvk0
          refine mv (v := .tuple ⟨[_, _, _]⟩) rfl <| Wp rfl <| st_extract (vs := [_, _, _]) (v := .int _ _) rfl rfl <| Wp rfl <| st_extract (vs := [_, _, _]) (v := .slice _ _ _) rfl rfl <| Wp rfl <| st_extract (vs := [_, _, _]) (v := .int _ _) rfl rfl <| aI rfl <| aL rfl <| aI rfl <| en <| x_seq <| sr rfl <| mI rfl <| Wp rfl <| st_neq rfl rfl <| en <| x_cond rfl (fun h12 => ?_) (fun h12 => ?_)
          ·try simp only [nm, ne_eq] at h12
           obtain rfl := Option.some.inj hr
           have hz : r1.1 = 0 := by obtain ⟨r9, h9, _, h8, _⟩ := runV_some c1.1 _ hs41 hvk0; rw [hv1] at h9; cases h9; exact h8 h12
           rw [hz]
           refine sr rfl <| mL rfl <| mI rfl <| aI rfl <| aL rfl <| aI rfl <| en <| x_ret <| then_r <| ret_tmp3 (v := .int _ _) (v2 := .slice _ _ _) (v3 := .int _ _) rfl rfl rfl rfl ?_
           try obtain rfl := Option.some.inj hr
           exact ⟨⟨A1, cap1, rfl, hv1x.mono (fun _ _ _ => trivial)⟩, HC⟩
          ·try simp only [nm, ne_eq] at h12
           have h120 : r1.2.2 = 0 := by omega
           obtain rfl := Option.some.inj hr
           rw [h120]
           refine x_skip <| then_n <| x_seq <| sr rfl <| fa T.fld38_0 rfl <| lS T.one9 rfl (hb13.cell rfl) <| Wp rfl <| st_seql rfl rfl <| mB rfl <| w_split (d := 154) rfl (fun g65 => ?_) (fun g65 => ?_)
           ·try simp only [nm, ne_eq] at g65
            exact absurd (Eq.trans (Eq.symm g65) (by assumption : (t.node p).op = [124, 124])) (by decide)
           ·try simp only [nm, ne_eq] at g65
            refine w_yes 3 154 false <| st_fieldAddr T.fld38_0 rfl <| w_yes 3 154 false <| st_load1 (v := S _) T.one9 rfl (hb13.cell rfl) <| w_yes 3 154 false <| st_seql rfl rfl <| pF rfl rfl <| en <| x_cond rfl (fun h13 => ?_) (fun h13 => ?_)
            ·try simp only [nm, ne_eq] at h13
             refine sr rfl <| mI rfl <| Wp rfl <| st_neq rfl rfl <| Wp rfl <| st_call (ags := [_]) rfl rfl T.ent33 rfl (rtruth_spec _ _) ?_
             rintro _ w66 ⟨rfl, c67⟩
             replace HC := HC.then c67
             replace hl := hl.tr0 c67
             replace hv := hv.tr0 c67
             replace hk3_6 := hk3_6.tr0 c67
             replace hb13 := hb13.tr0 c67
             replace hv0x := hv0x.tr0 c67
             replace hv1x := hv1x.tr0 c67
             refine mL rfl <| aI rfl <| aL rfl <| aI rfl <| en <| x_ret <| then_r <| ret_tmp3 (v := .int _ _) (v2 := .slice _ _ _) (v3 := .int _ _) rfl rfl rfl rfl ?_
             try obtain rfl := Option.some.inj hr
             exact ⟨⟨A1, cap1, rfl, hv1x.mono (fun _ _ _ => trivial)⟩, HC⟩
            ·try simp only [nm, ne_eq] at h13
             exact absurd (by assumption) h13
        ·try simp only [nm, ne_eq] at g57
         rw [if_neg (by assumption)] at hr
         refine w_no 3 131 true <| w_no 3 131 true <| pF rfl rfl <| aB rfl <| en <| x_cond (t := false) rfl (fun h11 => ?_) (fun h11 => ?_)
         · exact absurd h11 (by decide)
         refine x_skip <| block_n <| then_n <| x_seq ?_
         obtain ⟨r1, hk1, hr⟩ := obind hr
         obtain ⟨c1, hc1, hv1⟩ := kid_of hk1
         have hss1 := kid_two hc0 hc1 (by decide)
         obtain ⟨hs11, hs21, hs31, hs41, _⟩ := hkids c1 (List.mem_of_getElem? hc1)
         have hkk1 : (t.node p).kids[1]? = some (c1.1.root c1.2) := by rw [node_kids, List.getElem?_map, hc1]; rfl
         have hkl1 := (List.getElem?_eq_some_iff.1 hkk1).1
         refine x_region rfl <| mL rfl <| fa T.fld38_3 rfl <| lL T.one36 rfl (hb13.cell rfl) ?_
         obtain ⟨lb72, _, vs71, hA68, hR70, hC69⟩ := hk3_6.at (i := 1) (x := (c1.1.root c1.2)) (hkk1)
         obtain rfl : vs71 = [.int .i64 (c1.1.root c1.2)] := hR70
         refine Wp rfl <| st_indexAddr T.u36 T.size3 (congrArg (fun z => Value.slice z _ _) hA68) rfl (by omega) (by omega) <| lI T.one3 rfl (hC69.at (j := 0) rfl) <| mL rfl <| Wp rfl <| st_call (ags := [_, _, _]) rfl rfl T.ent16 rfl (ih c1.1 c1.2 _ r1 l _ _ _ _ _ _ _ (by omega) hs41 hs11 hl (by omega) hll hv0x hvk0 (by omega) hv1) ?_
         rintro _ w73 ⟨⟨A1, cap1, rfl, hv1x⟩, c74⟩
         replace HC := HC.then c74
         replace hl := hl.tr0 c74
         replace hv := hv.tr0 c74
         replace hk3_6 := hk3_6.tr0 c74
         replace hb13 := hb13.tr0 c74
         replace hv0x := hv0x.tr0 c74
         obtain ⟨hvk1, hln1⟩ := runV_vk c1.1 _ _ hv1 hvk0
         refine mv (v := .tuple ⟨[_, _, _]⟩) rfl <| Wp rfl <| st_extract (vs := [_, _, _]) (v := .int _ _) rfl rfl <| Wp rfl <| st_extract (vs := [_, _, _]) (v := .slice _ _ _) rfl rfl <| Wp rfl <| st_extract (vs := [_, _, _]) (v := .int _ _) rfl rfl <| aI rfl <| aL rfl <| aI rfl <| en <| x_seq <| sr rfl <| mI rfl <| Wp rfl <| st_neq rfl rfl <| en <| x_cond rfl (fun h12 => ?_) (fun h12 => ?_)
         ·try simp only [nm, ne_eq] at h12
          obtain rfl := Option.some.inj hr
          have hz : r1.1 = 0 := by obtain ⟨r9, h9, _, h8, _⟩ := runV_some c1.1 _ hs41 hvk0; rw [hv1] at h9; cases h9; exact h8 h12
          rw [if_neg h12, if_neg h12]
          refine sr rfl <| mL rfl <| mI rfl <| aI rfl <| aL rfl <| aI rfl <| en <| x_ret <| then_r <| ret_tmp3 (v := .int _ _) (v2 := .slice _ _ _) (v3 := .int _ _) rfl rfl rfl rfl ?_
          try obtain rfl := Option.some.inj hr
          exact ⟨⟨A1, cap1, rfl, hv1x.mono (fun _ _ _ => trivial)⟩, HC⟩
         ·try simp only [nm, ne_eq] at h12
          have h120 : r1.2.2 = 0 := by omega
          obtain rfl := Option.some.inj hr
          rw [if_pos h120, if_pos h120]
          refine x_skip <| then_n <| x_seq <| sr rfl <| fa T.fld38_0 rfl <| lS T.one9 rfl (hb13.cell rfl) <| Wp rfl <| st_seql rfl rfl <| mB rfl <| w_split (d := 154) rfl (fun g75 => ?_) (fun g75 => ?_)
          ·try simp only [nm, ne_eq] at g75
           exact absurd g75 (by assumption)
          ·try simp only [nm, ne_eq] at g75
           refine w_yes 3 154 false <| st_fieldAddr T.fld38_0 rfl <| w_yes 3 154 false <| st_load1 (v := S _) T.one9 rfl (hb13.cell rfl) <| w_yes 3 154 false <| st_seql rfl rfl <| pF rfl rfl <| en <| x_cond rfl (fun h13 => ?_) (fun h13 => ?_)
           ·try simp only [nm, ne_eq] at h13
            exact absurd h13 (by assumption)
           ·try simp only [nm, ne_eq] at h13
            refine x_skip <| then_n <| sr rfl <| fa T.fld38_0 rfl <| lS T.one9 rfl (hb13.cell rfl) <| mI rfl <| mI rfl <| Wp rfl <| st_call (ags := [_, _, _]) rfl rfl T.ent34 rfl (RApply_spec _ _ _ _) ?_
            rintro _ w76 ⟨rfl, c77⟩
            replace HC := HC.then c77
            replace hl := hl.tr0 c77
            replace hv := hv.tr0 c77
            replace hk3_6 := hk3_6.tr0 c77
            replace hb13 := hb13.tr0 c77
            replace hv0x := hv0x.tr0 c77
            replace hv1x := hv1x.tr0 c77
            refine mv (v := .tuple ⟨[_, _]⟩) rfl <| Wp rfl <| st_extract (vs := [_, _]) (v := .int _ _) rfl rfl <| Wp rfl <| st_extract (vs := [_, _]) (v := .int _ _) rfl rfl <| aI rfl <| aI rfl <| en <| sr rfl <| mI rfl <| mL rfl <| mI rfl <| aI rfl <| aL rfl <| aI rfl <| en <| x_ret <| ret_tmp3 (v := .int _ _) (v2 := .slice _ _ _) (v3 := .int _ _) rfl rfl rfl rfl ?_
            try obtain rfl := Option.some.inj hr
            exact ⟨⟨A1, cap1, rfl, hv1x.mono (fun _ _ _ => trivial)⟩, HC⟩

end Go.Proofs.YtmbbhgglllfelaaGreatDoor.K
set_option linter.unusedVariables false
set_option linter.unusedSimpArgs false
set_option autoImplicit false
set_option maxRecDepth 20000
namespace Go.Proofs.YtmbbhgglllfelaaGreatDoor.K
open Go Go.Proofs Go.RowKit
open Tr
theorem mrun_spec (b : Nat) (Al : Option Addr) (capl : Nat) (l : List Nd) (hll : l.length ≤ 1000000) : ∀ (n : Nat) (t : Tr) (p : Nat) (vs : List Vr) (r : Rs) (w : World), t.sz ≤ n → t.ok → SubAt l t p → p + t.sz ≤ l.length → MaAt w b Al capl l vs 0 → VK vs → vs.length + t.sz ≤ 100000000 → runV t vs = some r → CallR Tryz.prog 15 #[.pointer (some ⟨b, 0, none⟩), .int .i64 (t.root p)] w (PostM b Al capl l r w)
  | 0, t, _, _, _, _, h, _, _, _, _, _, _, _ => by have := t.sz_pos; omega
  | n + 1, t, p, vs, r, w, h1, h2, h3, h4, h5, h6, h7, h8 => run_step n b Al capl l hll (mrun_spec b Al capl l hll n) t p vs r w h1 h2 h3 h4 h5 h6 h7 h8
/-- What an expression comes to, with variables. -/
def evalR (r : Rs) (vs : List Vr) : Rs := if r.2.2 = 0 then r else (0, vs, r.2.2)

theorem Eval_bad {vs : List Vr} {Av : Option Addr} {cv : Nat} {w : World} {L : List Yd} (s : Bytes) (hL : toksF (s.length + 1) s 0 = L) (hs : s.length ≤ 100000) (hbad : (parseV s L).2.2 ≠ 0) (ht : Tab w) : CallR Tryz.prog 8 #[S s, .slice Av vs.length cv] w fun v w' => v = .tuple ⟨[.int .i64 0, .slice Av vs.length cv, .int .i64 (parseV s L).2.2]⟩ ∧ Chg [] w w' := by
 refine callR_of_wp (args := [_, _]) Tryz.func8 rfl (Nat.le_of_ble_eq_true rfl) ?_
 have HC : Chg [] w w := .refl _
 have ht1 := ht.lt
 refine sr rfl <| aI rfl <| aL rfl <| aI rfl <| en <| sr rfl <| mS rfl <| Wp rfl <| st_call (ags := [_]) rfl rfl T.ent14 rfl (Parse_spec (L := L) s _ hL hs ht) ?_
 rintro _ w1 ⟨Al, capl, rfl, hlo, c2⟩
 replace HC := HC.then c2
 replace ht := ht.tr0 c2
 refine mv (v := .tuple ⟨[_, _, _]⟩) rfl <| Wp rfl <| st_extract (vs := [_, _, _]) (v := .slice _ _ _) rfl rfl <| Wp rfl <| st_extract (vs := [_, _, _]) (v := .int _ _) rfl rfl <| Wp rfl <| st_extract (vs := [_, _, _]) (v := .int _ _) rfl rfl <| aL rfl <| aI rfl <| aI rfl <| en <| x_seq <| sr rfl <| mI rfl <| Wp rfl <| st_neq rfl rfl <| en <| x_cond rfl (fun h0 => ?_) (fun h0 => ?_)
 ·try simp only [nm, ne_eq] at h0
  refine sr rfl <| mL rfl <| mI rfl <| aI rfl <| aL rfl <| aI rfl <| en <| x_ret <| then_r <| ret_tmp3 (v := .int _ _) (v2 := .slice _ _ _) (v3 := .int _ _) rfl rfl rfl rfl ?_
  exact ⟨rfl, HC⟩
 ·try simp only [nm, ne_eq] at h0
  exact absurd (by first | exact h0 | simpa using h0) hbad

theorem Eval_run {vs : List Vr} {Av : Option Addr} {cv : Nat} {w : World} {L : List Yd} {Dv : Nat → Prop} (s : Bytes) (t : Tr) (r : Rs) (hL : toksF (s.length + 1) s 0 = L) (hs : s.length ≤ 100000) (hok : t.ok) (hsz : t.sz ≤ 1000) (hp : parseV s L = (t.row 0, 0, 0)) (hv0 : Sl prE w Dv Av vs) (hA : vs = [] → True) (hvk : VK vs) (hvl : vs.length ≤ 1000000) (hr : runV t vs = some r) (ht : Tab w) : CallR Tryz.prog 8 #[S s, .slice Av vs.length cv] w fun v w' => (∃ A cap, v = .tuple ⟨[.int .i64 (evalR r vs).1, .slice A (evalR r vs).2.1.length cap, .int .i64 (evalR r vs).2.2]⟩ ∧ Sl prE w' (fun _ => True) A (evalR r vs).2.1) ∧ Chg [] w w' := by
 refine callR_of_wp (args := [_, _]) Tryz.func8 rfl (Nat.le_of_ble_eq_true rfl) ?_
 have HC : Chg [] w w := .refl _
 have ht1 := ht.lt
 have hrl := Tr.row_len t 0
 have hsp := t.sz_pos
 refine sr rfl <| aI rfl <| aL rfl <| aI rfl <| en <| sr rfl <| mS rfl <| Wp rfl <| st_call (ags := [_]) rfl rfl T.ent14 rfl (Parse_spec (L := L) s _ hL hs ht) ?_
 rintro _ w1 ⟨Al, capl, rfl, hlo, c2⟩
 rw [hp] at hlo ⊢
 dsimp only at hlo
 replace HC := HC.then c2
 replace ht := ht.tr0 c2
 replace hv0 := hv0.tr0 c2
 refine mv (v := .tuple ⟨[_, _, _]⟩) rfl <| Wp rfl <| st_extract (vs := [_, _, _]) (v := .slice _ _ _) rfl rfl <| Wp rfl <| st_extract (vs := [_, _, _]) (v := .int _ _) rfl rfl <| Wp rfl <| st_extract (vs := [_, _, _]) (v := .int _ _) rfl rfl <| aL rfl <| aI rfl <| aI rfl <| en <| x_seq <| sr rfl <| mI rfl <| Wp rfl <| st_neq rfl rfl <| en <| x_cond rfl (fun h0 => ?_) (fun h0 => ?_)
 ·try simp only [nm, ne_eq] at h0
  first | exact absurd rfl h0 | exact absurd trivial h0
 ·try simp only [nm, ne_eq] at h0
  refine x_skip <| then_n <| x_seq ?_
  have hlN := hlo.sl.mono (D' := fun k => k < w1.heap.size) (fun k hk _ => hk)
  have hvN := hv0.mono (D' := fun k => k < w1.heap.size) (fun k hk _ => hk)
  refine x_region rfl <| mL rfl <| mL rfl <| Wp rfl <| st_bld (ps := [(0, .tmp 22), (1, .tmp 23)]) (vs := [.slice _ _ _, .slice _ _ _, .int _ _]) T.bld49 rfl <| Wp rfl <| st_box (v := .agg ⟨[.slice _ _ _, .slice _ _ _, .int _ _]⟩) (vs := [_, _, _]) rfl rfl ?_
  intro b10 w3 e4 c5 hb6
  have ge_b10 : w.heap.size ≤ b10 := by rw [e4]; exact HC.size
  have nf_hv0_b10 : vs = [] ∨ b10 ∉ ob (Av) := hv0.fresh (by rw [e4]; exact Nat.le_refl _)
  have hkl_b10 : ∀ k, k < w1.heap.size → k ≠ b10 := fun k hk => by rw [e4]; omega
  replace HC := HC.then c5
  replace ht := ht.tr0 c5
  replace hv0 := hv0.tr0 c5
  replace hlN := hlN.tr0 c5
  replace hvN := hvN.tr0 c5
  clear e4
  refine aP rfl <| en <| x_seq ?_
  have hlB := hlN.mono (D' := fun k => k ≠ b10) (fun k _ hD => hkl_b10 k hD)
  have hvB := hvN.mono (D' := fun k => k ≠ b10) (fun k _ hD => hkl_b10 k hD)
  refine x_region rfl <| mP rfl <| mL rfl <| Wp rfl <| st_len (ct := #[32]) (by rw [show ((#[32] : Array TypeId)[0]?).bind Tryz.prog.underlying = some (.slice 38) from T.u32]; rfl) rfl <| Wp rfl <| st_subk rfl rfl (by exact (show _ = t.root 0 by rw [hrl, wrap64_id (by omega) (by omega)]; unfold Tr.root; omega)) ?_
  have hmA : MaAt w3 b10 Al capl (t.row 0) vs 0 := ⟨Av, cv, hb6, hlB, hvB, hA⟩
  refine Wp rfl <| st_call (ags := [_, _]) rfl rfl T.ent15 rfl (mrun_spec b10 Al capl (t.row 0) (by omega) t.sz t 0 vs r _ (Nat.le_refl _) hok (fun j x hj => by rw [Nat.zero_add]; exact hj) (by omega) hmA hvk (by omega) hr) ?_
  rintro _ w7 ⟨rfl, ⟨Av2, cv2, hb2, hl2, hv2, _⟩, c8⟩
  replace HC := HC.then1 c8 ge_b10
  replace ht := ht.tr c8 (by intro hx; have := ht.lt; have := ht1; simp only [List.mem_cons, List.mem_nil_iff, or_false] at hx; omega)
  replace hv0 := hv0.trF flat_flat c8 (by intro k hx; simp only [List.mem_singleton] at hx; subst hx; exact nf_hv0_b10)
  refine aI rfl <| en <| x_seq <| sr rfl <| mP rfl <| nc rfl <| fa T.fld49_2 rfl <| lI T.one25 rfl (hb2.cell rfl) <| Wp rfl <| st_neq rfl rfl <| en <| x_cond rfl (fun h1 => ?_) (fun h1 => ?_)
  ·try simp only [nm, ne_eq] at h1
   refine x_seq <| x_draw [(0, 0), (1, 0), (2, 0), (3, 0), (4, 0), (5, 0), (6, 0), (7, 0)] T.mixed rfl rfl rfl (fun W => W.heap[b10]? = w7.heap[b10]? ∧ True) ⟨rfl, trivial⟩ ?_
   have o11 := hb2
   have c10 := Chg.drew w7
   generalize World.drew w7 = w9 at c10 ⊢
   replace HC := HC.then c10
   replace ht := ht.tr0 c10
   replace hv0 := hv0.tr0 c10
   replace hb2 := hb2.tr0 c10
   replace hv2 := hv2.tr0 c10
   refine sq_q rfl (fun W hT => r_move (v := .slice _ _ _) rfl) <| sq_q rfl (fun W hT => r_move (v := .pointer _) rfl) <| sq_q rfl (fun W hT => r_nilCheck rfl) <| sq_q rfl (fun W hT => r_fieldAddr T.fld49_2 rfl) <| sq_q rfl (fun W hT => r_load1 (v := .int _ _) T.one25 rfl (Blk.cell (show Blk W b10 _ _ from hT.1.trans o11) rfl)) <| sq_q rfl (fun W hT => r_assign (v := .int _ _) rfl) <| sq_q rfl (fun W hT => r_assign (v := .slice _ _ _) rfl) <| sq_q rfl (fun W hT => r_assign (v := .int _ _) rfl) ?_
   clear o11
   refine sq_nil <| then_n <| x_ret <| then_r <| ret_tmp3 (v := .int _ _) (v2 := .slice _ _ _) (v3 := .int _ _) rfl rfl rfl rfl ?_
   rw [show evalR r vs = (0, vs, r.2.2) by unfold evalR; rw [if_neg h1]]
   exact ⟨⟨_, _, rfl, hv0.mono (fun _ _ _ => trivial)⟩, HC⟩
  ·try simp only [nm, ne_eq] at h1
   refine x_skip <| then_n <| x_seq <| x_draw [(0, 0), (1, 0), (2, 0), (3, 0), (4, 0), (5, 0), (6, 0), (7, 0)] T.mixed rfl rfl rfl (fun W => W.heap[b10]? = w7.heap[b10]? ∧ True) ⟨rfl, trivial⟩ ?_
   have o14 := hb2
   have c13 := Chg.drew w7
   generalize World.drew w7 = w12 at c13 ⊢
   replace HC := HC.then c13
   replace ht := ht.tr0 c13
   replace hv0 := hv0.tr0 c13
   replace hb2 := hb2.tr0 c13
   replace hv2 := hv2.tr0 c13
   refine sq_q rfl (fun W hT => r_move (v := .int _ _) rfl) <| sq_q rfl (fun W hT => r_move (v := .pointer _) rfl) <| sq_q rfl (fun W hT => r_nilCheck rfl) <| sq_q rfl (fun W hT => r_fieldAddr T.fld49_1 rfl) <| sq_q rfl (fun W hT => r_load1 (v := .slice _ _ _) T.one22 rfl (Blk.cell (show Blk W b10 _ _ from hT.1.trans o14) rfl)) <| sq_q rfl (fun W hT => r_assign (v := .int _ _) rfl) <| sq_q rfl (fun W hT => r_assign (v := .slice _ _ _) rfl) <| sq_q rfl (fun W hT => r_assign (v := .int _ _) rfl) ?_
   clear o14
   refine sq_nil <| then_n <| x_ret <| ret_tmp3 (v := .int _ _) (v2 := .slice _ _ _) (v3 := .int _ _) rfl rfl rfl rfl ?_
   rw [show evalR r vs = r by unfold evalR; rw [if_pos (by omega)]]
   exact ⟨⟨Av2, cv2, by rw [show r.2.2 = 0 by omega], hv2.mono (fun _ _ _ => trivial)⟩, HC⟩

theorem pr_same {x y : Vr} : (decide (x.1 = y.1) && decide (x.2 = y.2)) = decide (x = y) := by
  rw [Bool.eq_iff_iff]; simp [Prod.ext_iff]

theorem RSameP_spec {a b : List Vr} {Aa Ab : Option Addr} {capa capb : Nat} {D D2 : Nat → Prop} {w : World} (ha : Sl prE w D Aa a) (hb : Sl prE w D2 Ab b) (hla : a.length ≤ 9223372036854775807) :
    CallR Tryz.prog 10 #[.slice Aa a.length capa, .slice Ab b.length capb] w fun v w' => v = .bool (decide (a = b)) ∧ Chg [] w w' := by
 refine callR_of_wp (args := [_, _]) Tryz.func10 rfl (Nat.le_of_ble_eq_true rfl) ?_
 have HC : Chg [] w w := .refl _
 refine sr rfl <| aB rfl <| en <| x_seq <| sr rfl <| mL rfl <| Wp rfl <| st_len (ct := #[22]) (by rw [show ((#[22] : Array TypeId)[0]?).bind Tryz.prog.underlying = some (.slice 42) from T.u22]; rfl) rfl <| mL rfl <| Wp rfl <| st_len (ct := #[22]) (by rw [show ((#[22] : Array TypeId)[0]?).bind Tryz.prog.underlying = some (.slice 42) from T.u22]; rfl) rfl <| Wp rfl <| st_neq rfl rfl <| en <| x_cond rfl (fun h0 => ?_) (fun h0 => ?_)
 ·try simp only [nm, ne_eq] at h0
  refine sr rfl <| aB rfl <| en <| x_ret <| then_r <| ret_tmp (v := .bool _) rfl rfl <| ⟨?_, HC⟩
  rw [decide_eq_false (fun e => h0 (by rw [e]))]
 ·try simp only [nm, ne_eq] at h0
  have hll : a.length = b.length := by omega
  refine x_skip <| then_n <| x_seq <| sr rfl <| aI rfl <| en <| x_block <| x_loop (ι := Nat) [4, 5, 11, 12, 13, 14, 15, 16, 17, 18, 19, 20, 21, 22, 23, 24, 25] (fun i => [(5, .int .i64 (i : Int))]) (fun i W => (i ≤ a.length ∧ a.take i = b.take i) ∧ (Chg [] w W) ∧ (Sl prE W D Aa a) ∧ (Sl prE W D2 Ab b)) (fun i => a.length - i) 0 ?_ ?_ ?_
  · exact ⟨rfl, trivial⟩
  ·refine ⟨?_, HC, ha, hb⟩
   exact ⟨Nat.zero_le _, rfl⟩
  intro i G2 w1 ⟨⟨hi, ht⟩, HC, ha, hb⟩
  change wp _ _ _ _ _ (upds (over _ _ G2) [(5, .int .i64 (i : Int))]) _ _
  refine x_seq <| sr rfl <| mI rfl <| mL rfl <| Wp rfl <| st_len (ct := #[22]) (by rw [show ((#[22] : Array TypeId)[0]?).bind Tryz.prog.underlying = some (.slice 42) from T.u22]; rfl) rfl <| Wp rfl <| st_lss rfl rfl <| en <| x_cond rfl (fun h1 => ?_) (fun h1 => ?_)
  ·try simp only [nm, ne_eq] at h1
   refine x_skip <| then_n <| x_seq <| x_block <| x_seq ?_
   obtain ⟨x3, hx4⟩ : ∃ zz, a[i]? = some zz := ⟨_, List.getElem?_eq_getElem (by omega)⟩
   obtain ⟨lb9, _, vs8, hA5, hR7, hC6⟩ := ha.at hx4
   obtain rfl : vs8 = [S x3.1, S x3.2] := hR7
   obtain ⟨x10, hx11⟩ : ∃ zz, b[i]? = some zz := ⟨_, List.getElem?_eq_getElem (by omega)⟩
   obtain ⟨lb16, _, vs15, hA12, hR14, hC13⟩ := hb.at hx11
   obtain rfl : vs15 = [S x10.1, S x10.2] := hR14
   refine x_draw [(0, 0), (1, 0), (2, 0), (3, 0), (4, 0), (5, 0), (6, 0), (7, 0), (8, 0)] T.mixed rfl rfl rfl (fun W => W.heap[lb9]? = w1.heap[lb9]? ∧ W.heap[lb16]? = w1.heap[lb16]? ∧ True) ⟨rfl, rfl, trivial⟩ ?_
   have c18 := Chg.drew w1
   generalize World.drew w1 = w17 at c18 ⊢
   have ht_lb9 : lb9 < w17.heap.size ∧ w17.heap[lb9]? = w1.heap[lb9]? := ⟨Nat.lt_of_lt_of_le hC6.lt c18.size, c18.block lb9 hC6.lt (by simp)⟩
   have ht_lb16 : lb16 < w17.heap.size ∧ w17.heap[lb16]? = w1.heap[lb16]? := ⟨Nat.lt_of_lt_of_le hC13.lt c18.size, c18.block lb16 hC13.lt (by simp)⟩
   replace HC := HC.then c18
   replace ha := ha.tr0 c18
   replace hb := hb.tr0 c18
   refine sq_q rfl (fun W hT => r_move (v := .slice _ _ _) rfl) <| sq_q rfl (fun W hT => r_move (v := .int _ _) rfl) <| sq_q rfl (fun W hT => r_indexAddr T.u22 T.size42 (congrArg (fun z => Value.slice z _ _) hA5) rfl (by omega) (by omega)) <| sq_q rfl (fun W hT => r_loadA (vs := [_, _]) T.agg42 rfl (Cells.tr hC6 hT.1) rfl) <| sq_q rfl (fun W hT => r_move (v := .slice _ _ _) rfl) <| sq_q rfl (fun W hT => r_move (v := .int _ _) rfl) <| sq_q rfl (fun W hT => r_indexAddr T.u22 T.size42 (congrArg (fun z => Value.slice z _ _) hA12) rfl (by omega) (by omega)) <| sq_q rfl (fun W hT => r_loadA (vs := [_, _]) T.agg42 rfl (Cells.tr hC13 hT.2.1) rfl) <| sq_q rfl (fun W hT => r_aneq (va := [_, _]) (vb := [_, _]) T.eq42 rfl rfl rfl) <| sq_nil <| then_n <| x_cond rfl (fun h2 => ?_) (fun h2 => ?_)
   ·try simp only [nm, ne_eq] at h2
    rw [pr_same] at h2
    refine sr rfl <| aB rfl <| en <| x_ret <| block_r <| then_r <| then_r <| block_r <| then_r <| ret_tmp (v := .bool _) rfl rfl <| ⟨?_, HC⟩
    rw [decide_eq_false (fun e => by subst e; have := hx4.symm.trans hx11; exact absurd (Option.some.inj this) (of_decide_eq_false h2))]
   ·try simp only [nm, ne_eq] at h2
    rw [pr_same] at h2
    refine x_skip <| block_n <| then_n <| x_region rfl <| mI rfl <| Wp rfl <| st_addn rfl rfl (by constructor <;> omega) <| aI rfl <| en <| ⟨i + 1, ?_, ?_, rfl, ⟨rfl, trivial⟩, ?_⟩
    ·refine ⟨?_, HC, ha, hb⟩
     exact ⟨by omega, take_same ht hx4 hx11 (of_decide_eq_true h2)⟩
    ·show a.length - (i + 1) < a.length - i; omega
    repeat (first | exact agree_upds agree_over rfl | refine agree_upd ?_ rfl | refine agree_upds ?_ rfl | refine agree_over_sub ?_ rfl)
  ·try simp only [nm, ne_eq] at h1
   refine x_exit <| then_x <| then_x <| block_x <| then_n <| sr rfl <| aB rfl <| en <| x_ret <| ret_tmp (v := .bool _) rfl rfl <| ⟨?_, HC⟩
   rw [decide_eq_true (by rw [List.take_of_length_le (by omega), List.take_of_length_le (by omega)] at ht; exact ht)]

def ax1 : Bytes := [120, 61, 51, 44]
def ax2 : Bytes := [40, 120, 61, 51, 41, 42, 120]
def ax3 : Bytes := [49, 124, 124, 40, 121, 61, 49, 41]
def ax4 : Bytes := [55, 47, 48]
def at2 : Tr := .bin [42] (.asg [61] [120] (.num 3)) (.var [120])
def at3 : Tr := .bin [124, 124] (.num 1) (.asg [61] [121] (.num 1))
def at4 : Tr := .bin [47] (.num 7) (.num 0)
theorem ax1_p : (parseV ax1 (toksF (ax1.length + 1) ax1 0)).2.2 = 101 := by kernel_rfl
theorem ax2_p : parseV ax2 (toksF (ax2.length + 1) ax2 0) = (at2.row 0, 0, 0) := by kernel_rfl
theorem ax3_p : parseV ax3 (toksF (ax3.length + 1) ax3 0) = (at3.row 0, 0, 0) := by kernel_rfl
theorem ax4_p : parseV ax4 (toksF (ax4.length + 1) ax4 0) = (at4.row 0, 0, 0) := by kernel_rfl
theorem at2_v : runV at2 [] = some (9, [([120], [51])], 0) := by kernel_rfl
theorem at3_v : runV at3 [] = some (1, [], 0) := by kernel_rfl
theorem at4_v : runV at4 [] = some (0, [], 103) := by kernel_rfl
theorem nm_ok {c : UInt8} (h : nameV [c] = true) : Tr.Nm [c] := ⟨h, by simp⟩
theorem at2_ok : at2.ok := ⟨by decide, ⟨by decide, nm_ok (by kernel_rfl), by decide, by decide⟩, nm_ok (by kernel_rfl)⟩
theorem at3_ok : at3.ok := ⟨by decide, ⟨by decide, by decide⟩, by decide, nm_ok (by kernel_rfl), by decide, by decide⟩
theorem at4_ok : at4.ok := ⟨by decide, ⟨by decide, by decide⟩, by decide, by decide⟩
theorem vk_nil : VK [] := ⟨List.Pairwise.nil, fun _ h => by cases h⟩

set_option maxHeartbeats 800000 in
theorem awake14_spec (w : World) (ht : Tab w) : CallR Tryz.prog 7 #[] w fun v w' => v = .bool true ∧ Chg [] w w' := by
 refine callR_of_wp (args := []) Tryz.func7 rfl (Nat.le_of_ble_eq_true rfl) ?_
 have HC : Chg [] w w := .refl _
 have ht1 := ht.lt
 refine sr rfl <| aB rfl <| en <| sr rfl <| Wp rfl <| st_call (ags := [_, _]) rfl rfl T.ent8 rfl (Eval_bad (vs := []) (Av := none) (cv := 0) (L := toksF (ax1.length + 1) ax1 0) ax1 rfl (by decide) (by rw [ax1_p]; decide) ht) ?_
 rintro vE1 w1 ⟨hE1, c2⟩
 rw [ax1_p] at hE1
 subst hE1
 replace HC := HC.then c2
 replace ht := ht.tr0 c2
 refine mv (v := .tuple ⟨[_, _, _]⟩) rfl <| Wp rfl <| st_extract (vs := [_, _, _]) (v := .int _ _) rfl rfl <| Wp rfl <| st_extract (vs := [_, _, _]) (v := .slice _ _ _) rfl rfl <| Wp rfl <| st_extract (vs := [_, _, _]) (v := .int _ _) rfl rfl <| aI rfl <| aL rfl <| aI rfl <| en <| sr rfl <| Wp rfl <| st_call (ags := [_, _]) rfl rfl T.ent8 rfl (Eval_run (vs := []) (Av := none) (cv := 0) (Dv := fun _ => True) (L := toksF (ax2.length + 1) ax2 0) ax2 at2 _ rfl (by decide) at2_ok (by decide) ax2_p Sl.nil (fun _ => by trivial) vk_nil (by decide) at2_v ht) ?_
 rintro vE2 w3 ⟨⟨A2, cap2, hE2, hr2⟩, c4⟩
 replace hE2 : vE2 = .tuple ⟨[.int .i64 9, .slice A2 1 cap2, .int .i64 0]⟩ := hE2
 subst hE2
 replace hr2 : Sl prE _ (fun _ => True) A2 ([([120], [51])] : List Vr) := hr2
 replace HC := HC.then c4
 replace ht := ht.tr0 c4
 refine mv (v := .tuple ⟨[_, _, _]⟩) rfl <| Wp rfl <| st_extract (vs := [_, _, _]) (v := .int _ _) rfl rfl <| Wp rfl <| st_extract (vs := [_, _, _]) (v := .slice _ _ _) rfl rfl <| Wp rfl <| st_extract (vs := [_, _, _]) (v := .int _ _) rfl rfl <| aI rfl <| aL rfl <| aI rfl <| en <| sr rfl <| Wp rfl <| st_call (ags := [_, _]) rfl rfl T.ent8 rfl (Eval_run (vs := []) (Av := none) (cv := 0) (Dv := fun _ => True) (L := toksF (ax3.length + 1) ax3 0) ax3 at3 _ rfl (by decide) at3_ok (by decide) ax3_p Sl.nil (fun _ => by trivial) vk_nil (by decide) at3_v ht) ?_
 rintro vE3 w5 ⟨⟨A3, cap3, hE3, hr3⟩, c6⟩
 replace hE3 : vE3 = .tuple ⟨[.int .i64 1, .slice A3 0 cap3, .int .i64 0]⟩ := hE3
 subst hE3
 clear hr3
 replace HC := HC.then c6
 replace ht := ht.tr0 c6
 replace hr2 := hr2.tr0 c6
 refine mv (v := .tuple ⟨[_, _, _]⟩) rfl <| Wp rfl <| st_extract (vs := [_, _, _]) (v := .int _ _) rfl rfl <| Wp rfl <| st_extract (vs := [_, _, _]) (v := .slice _ _ _) rfl rfl <| Wp rfl <| st_extract (vs := [_, _, _]) (v := .int _ _) rfl rfl <| aI rfl <| aL rfl <| aI rfl <| en <| sr rfl <| Wp rfl <| st_call (ags := [_, _]) rfl rfl T.ent8 rfl (Eval_run (vs := []) (Av := none) (cv := 0) (Dv := fun _ => True) (L := toksF (ax4.length + 1) ax4 0) ax4 at4 _ rfl (by decide) at4_ok (by decide) ax4_p Sl.nil (fun _ => by trivial) vk_nil (by decide) at4_v ht) ?_
 rintro vE4 w7 ⟨⟨A4, cap4, hE4, hr4⟩, c8⟩
 replace hE4 : vE4 = .tuple ⟨[.int .i64 0, .slice A4 0 cap4, .int .i64 103]⟩ := hE4
 subst hE4
 clear hr4
 replace HC := HC.then c8
 replace ht := ht.tr0 c8
 replace hr2 := hr2.tr0 c8
 refine mv (v := .tuple ⟨[_, _, _]⟩) rfl <| Wp rfl <| st_extract (vs := [_, _, _]) (v := .int _ _) rfl rfl <| Wp rfl <| st_extract (vs := [_, _, _]) (v := .slice _ _ _) rfl rfl <| Wp rfl <| st_extract (vs := [_, _, _]) (v := .int _ _) rfl rfl <| aI rfl <| aL rfl <| aI rfl <| en <| sr rfl <| mI rfl <| Wp rfl <| st_eql rfl rfl <| mB rfl <| w_split (d := 35) rfl (fun g9 => ?_) (fun g9 => ?_)
 ·try simp only [nm, ne_eq] at g9
  refine w_yes 2 35 true <| st_move (v := .int _ _) rfl <| w_yes 2 35 true <| st_eql rfl rfl <| pT rfl rfl <| mB rfl <| w_split (d := 39) rfl (fun g10 => ?_) (fun g10 => ?_)
  ·try simp only [nm, ne_eq] at g10
   refine w_yes 6 39 true <| st_move (v := .int _ _) rfl <| w_yes 6 39 true <| st_eql rfl rfl <| pT rfl rfl <| mB rfl <| w_split (d := 43) rfl (fun g11 => ?_) (fun g11 => ?_)
   ·try simp only [nm, ne_eq] at g11
    refine w_yes 10 43 true <| st_move (v := .slice _ _ _) rfl <| w_yes 10 43 true <| st_bld (ps := [(0, .const (S [120])), (1, .const (S [51]))]) (vs := [S _, S _]) T.bld42 rfl <| w_yes 10 43 true <| st_lit (ps := [(0, .tmp 45)]) (vs := [S _, S _]) T.lit22 (by decide) rfl (by simp only [List.forall_mem_cons, List.not_mem_nil, false_imp_iff, implies_true, and_true]; exact rfl) rfl ?_
    intro b12 w13 e14 c15 hb16
    have ge_b12 : w.heap.size ≤ b12 := by rw [e14]; exact HC.size
    have nf_hr2_b12 : ([([120], [51])] : List Vr) = [] ∨ b12 ∉ ob (A2) := hr2.fresh (by rw [e14]; exact Nat.le_refl _)
    replace HC := HC.then c15
    replace ht := ht.tr0 c15
    replace hr2 := hr2.tr0 c15
    clear e14
    refine w_yes 10 43 true <| st_call (ags := [_, _]) rfl rfl T.ent10 rfl (RSameP_spec (a := [(([120], [51]) : Vr)]) (b := [(([120], [51]) : Vr)]) (Aa := A2) (capa := cap2) (Ab := some ⟨b12, 0, none⟩) (capb := 1) hr2 (Sl.of_one (c := prE) (x := (([120], [51]) : Vr)) (D := fun _ => True) hb16 rfl trivial) (by decide)) ?_
    rintro vS w17 ⟨hS, c18⟩
    rw [decide_eq_true rfl] at hS
    subst hS
    replace HC := HC.then c18
    replace ht := ht.tr0 c18
    replace hr2 := hr2.tr0 c18
    replace hb16 := hb16.tr0 c18
    refine pT rfl rfl <| mB rfl <| w_split (d := 49) rfl (fun g19 => ?_) (fun g19 => ?_)
    ·try simp only [nm, ne_eq] at g19
     refine w_yes 16 49 true <| st_move (v := .int _ _) rfl <| w_yes 16 49 true <| st_eql rfl rfl <| pT rfl rfl <| mB rfl <| w_split (d := 53) rfl (fun g20 => ?_) (fun g20 => ?_)
     ·try simp only [nm, ne_eq] at g20
      refine w_yes 20 53 true <| st_move (v := .slice _ _ _) rfl <| w_yes 20 53 true <| st_len (ct := #[22]) (by rw [show ((#[22] : Array TypeId)[0]?).bind Tryz.prog.underlying = some (.slice 42) from T.u22]; rfl) rfl <| w_yes 20 53 true <| st_eql rfl rfl <| pT rfl rfl <| mB rfl <| w_split (d := 58) rfl (fun g21 => ?_) (fun g21 => ?_)
      ·try simp only [nm, ne_eq] at g21
       refine w_yes 25 58 true <| st_move (v := .int _ _) rfl <| w_yes 25 58 true <| st_eql rfl rfl <| pT rfl rfl <| mB rfl <| w_split (d := 62) rfl (fun g22 => ?_) (fun g22 => ?_)
       ·try simp only [nm, ne_eq] at g22
        refine w_yes 29 62 true <| st_move (v := .int _ _) rfl <| w_yes 29 62 true <| st_eql rfl rfl <| pT rfl rfl <| aB rfl <| en <| x_ret <| ret_tmp (v := .bool _) rfl rfl ?_
        exact ⟨rfl, HC⟩
       ·try simp only [nm, ne_eq] at g22
        first | exact absurd rfl g22 | exact absurd trivial g22 | (simp at g22; done)
      ·try simp only [nm, ne_eq] at g21
       first | exact absurd rfl g21 | exact absurd trivial g21 | (simp at g21; done)
     ·try simp only [nm, ne_eq] at g20
      first | exact absurd rfl g20 | exact absurd trivial g20 | (simp at g20; done)
    ·try simp only [nm, ne_eq] at g19
     first | exact absurd rfl g19 | exact absurd trivial g19 | (simp at g19; done)
   ·try simp only [nm, ne_eq] at g11
    first | exact absurd rfl g11 | exact absurd trivial g11 | (simp at g11; done)
  ·try simp only [nm, ne_eq] at g10
   first | exact absurd rfl g10 | exact absurd trivial g10 | (simp at g10; done)
 ·try simp only [nm, ne_eq] at g9
  first | exact absurd rfl g9 | exact absurd trivial g9 | (simp at g9; done)

end Go.Proofs.YtmbbhgglllfelaaGreatDoor.K
