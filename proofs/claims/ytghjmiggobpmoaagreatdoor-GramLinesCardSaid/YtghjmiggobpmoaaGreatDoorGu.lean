import Derived.Test.YtghjmiggobpmoaaGreatDoorTok
import Derived.Test.YtghjmiggobpmoaaGreatDoorGk
import Derived.Test.YtghjmiggobpmoaaGreatDoorGe
set_option linter.unusedVariables false
set_option linter.unusedSimpArgs false
set_option autoImplicit false
set_option maxRecDepth 20000
namespace Go.Proofs.YtghjmiggobpmoaaGreatDoor.K
open Go Go.Proofs Go.RowKit
section
variable {P : Program} {r : Option Nat} {n : Nat} {O : Array Oper} {Q : Post} {E : Env} {ds : List Deferred} {w : World} {l : List Oper}
variable {dst : Option Nat} {ty : TypeId} {pos : String} {af : Array Edge} {g : Option (Nat × Bool)}
theorem st_callBP {c : Call} {f : FuncId} {ags : List Value} {Φ Ψ : Value → World → Prop} {x : Operand} {rv : Array Value} (hcal : c.callee = .value x) (hf : ev E x = .func (.func f) rv #[]) (hent : ∀ args (w : World), (callFunc f args).run P w = .ok (.enter f args) w)
    (has : rv.toList ++ c.args.toList.map (ev E) = ags) (hc : CallP P f ⟨ags⟩ w Φ Ψ) (hp : ∀ v w', Ψ v w' → Q (.panic (pn v)) E ds w') (h : ∀ v w', Φ v w' → wops P r n O Q l (updo E dst v) ds w') : wop P r n O Q ⟨dst, .call c, ty, pos, af, g⟩ l E ds w :=
  wop_enterP (fun _ => by simp) (r_callB hcal hf hent has) hc hp h
end
theorem hd1_at {Z : List Tok} (h : GT Z) (h2 : GT Z.tail) : Z[1]? = some (hd Z.tail) := by
  match Z, h, h2 with
  | [t], _, h2 => exact h2.elim
  | t :: u :: r, _, _ => rfl
theorem gwithin_ok {Z : List Tok} {rb tb : Nat} {d : Int} {w : World} (hg : GT Z) (hR : RdAt w rb tb d Z) (hq : QOk rb tb) (hmx : MaxT w) (ht : Tab w) {fr : FuncId} {g : List Tok → Rs Cm} (hent : ∀ args (w : World), (callFunc fr args).run Tryz.prog w = .ok (.enter fr args) w) (hd64 : 0 ≤ d ∧ d < 64) (hfr : ∀ w1, RdAt w1 rb tb (d + 1) Z → MaxT w1 → Tab w1 → CallP Tryz.prog fr #[.pointer (some ⟨rb, 0, none⟩)] w1 (fun v w' => OkC (g Z) Z rb tb (d + 1) w1 w' v) (fun v w' => ErT (g Z) Z rb w1 w' v)) : CallP Tryz.prog 78 #[.pointer (some ⟨rb, 0, none⟩), .func (.func fr) #[.pointer (some ⟨rb, 0, none⟩)] #[]] w (fun v w' => OkC (g Z) Z rb tb d w w' v) (fun v w' => ErT (g Z) Z rb w w' v) := by
 refine callP_of_wp (args := [_, _]) Tryz.func78 rfl (Nat.le_of_ble_eq_true rfl) ?_;have HC : Chg [rb] w w := .refl _;have hrl := hR.lt hg;have hq9 := hq;obtain ⟨hq1, hq2, hq3⟩ := hq9;have ht1 := ht.lt;have hm1 := hmx.lt;obtain ⟨A, cap, hb, hcap, hS⟩ := hR;refine sr rfl <| Wp rfl <| st_alloc T.zero30 ?_;intro b4 w1 e2 c3 hb4;have ge_b4 := gB e2 HC.size;have ne_rb_b4 := nE e2 hb.ne_size;replace HC := HC.then c3;replace ht := ht.tr0 c3;replace hmx := hmx.tr0 c3;replace hb := hb.tr0 c3;replace hS := hS.tr0 c3;clear e2;refine en <| x_seq <| sr rfl <| mP rfl <| nc rfl <| fa T.fld49_1 rfl <| lI T.one3 rfl (hb.cell rfl) <| Wp rfl <| st_addn rfl rfl (by constructor <;> omega) <| nc rfl <| fa T.fld49_1 rfl <| Wp rfl <| st_st (v := .int _ _) T.size3 rfl rfl rfl hb ?_
 intro w5 c6 hb7; simp only [setVs, setV] at hb7;clear hb;replace HC := HC.trans c6 q4;replace ht := ht.tr c6 q1;replace hmx := hmx.tr c6 q1;replace hS := hS.tr c6 (by intro k hx hD; simp only [List.mem_singleton] at hx; subst hx; omega)
 replace hb4 := hb4.tr1 c6 (Ne.symm ne_rb_b4);refine en <| sr rfl <| mP rfl <| nc rfl <| fa T.fld49_1 rfl <| lI T.one3 rfl (hb7.cell rfl) <| Wp rfl <| st_gtr rfl rfl <| en <| x_cond rfl (fun h0 => ?_) (fun h0 => ?_)
 ·try simp only [nm, ne_eq] at h0
  exfalso; omega
 try simp only [nm, ne_eq] at h0
 refine x_skip <| then_n <| sr rfl <| mv (v := .func _ _ _) rfl ?_;have hR1 : RdAt w5 rb tb (d + 1) Z := ⟨A, cap, hb7, hcap, hS⟩;refine w_plain rfl (st_callBP (ags := [_]) rfl rfl hent rfl (hfr _ hR1 hmx ht) ?_ ?_)
 ·rintro _ w8 ⟨R9, e9, he9, hs9, rfl, c9⟩;replace HC := HC.trans c9 q4;refine then_p <| pp_panic ?_;exact ⟨R9, e9, he9, hs9, rfl, HC⟩
 have szlC := HC.size;have ltC_b4 := hb4.lt;rintro _ w10 ⟨cC, RC, vsC, heC, hsC, hlC, rfl, hvC, ⟨A', cap', hb', hcap', hS'⟩, c11⟩;obtain ⟨A1C, n1C, A2C, n2C, A3C, n3C, A4C, n4C, A5C, n5C, rfl, hAC, k1C, k2C, k3C, k4C, k5C⟩ := cm_open hvC;replace hvC := cmE.mono hvC (D' := fun k => w5.heap.size ≤ k ∧ k < w10.heap.size) (fun k hk h => ⟨h, hk⟩)
 have szC : w10.heap.size ≤ w10.heap.size := Nat.le_refl _;have szmC := c11.size;replace HC := HC.trans c11 q4;replace hb4 := hb4.tr1 c11 (Ne.symm ne_rb_b4);refine Wp rfl <| st_alloc T.zero30 ?_;intro b5 w12 e13 c14 hb15;have ge_b5 := gB e13 HC.size;have ne_b4_b5 := nE e13 hb4.ne_size;have ne_rb_b5 : Hid (rb ≠ b5) := by rw [e13]; exact hb'.ne_size
 have gq_szC_b5 : w10.heap.size ≤ b5 := by rw [e13]; exact szC
 replace HC := HC.then c14;replace hb4 := hb4.tr0 c14;replace hb' := hb'.tr0 c14;replace hS' := hS'.tr0 c14;replace hvC := Enc.chg hvC c14 q8;replace szC := Nat.le_trans szC c14.size;clear e13;refine Wp rfl <| st_st (v := .agg ⟨[_, _, _, _, _, _, _, _, _]⟩) T.size30 rfl rfl rfl hb15 ?_;intro w16 c17 hb18; simp only [setVs, setV] at hb18;clear hb15;replace HC := HC.then1 c17 ge_b5;replace hb4 := hb4.tr1 c17 ne_b4_b5;replace hb' := hb'.tr1 c17 ne_rb_b5;replace hS' := hS'.tr c17 (by intro k hx hD; simp only [List.mem_singleton] at hx; subst hx; omega)
 replace hvC := Enc.chg hvC c17 q3;replace szC := Nat.le_trans szC c17.size;refine en <| sr rfl <| mP rfl <| nc rfl <| fa T.fld49_1 rfl <| lI T.one3 rfl (hb'.cell rfl) <| Wp rfl <| st_subn rfl rfl (by constructor <;> omega) <| nc rfl <| fa T.fld49_1 rfl <| Wp rfl <| st_store (v := .int _ _) T.size3 rfl rfl rfl hb' rfl (Nat.le_of_ble_eq_true rfl) q5 rfl ?_
 intro w19 c20 hb21; simp only [setVs, setV] at hb21;clear hb';replace HC := HC.trans c20 q4;replace hb4 := hb4.tr1 c20 (Ne.symm ne_rb_b4);replace hS' := hS'.tr c20 (by intro k hx hD; simp only [List.mem_singleton] at hx; subst hx; omega)
 replace hvC := Enc.chg hvC c20 q3;replace szC := Nat.le_trans szC c20.size;replace hb18 := hb18.tr1 c20 (Ne.symm ne_rb_b5);refine en <| sr rfl <| Wp rfl <| st_loadA (vs := [_, _, _, _, _, _, _, _, _]) T.agg30 rfl (hb18.cells (n := 9) (vs := [_, _, _, _, _, _, _, _, _]) rfl) rfl <| Wp rfl <| st_st (v := .agg ⟨[_, _, _, _, _, _, _, _, _]⟩) T.size30 rfl rfl rfl hb4 ?_;intro w22 c23 hb24; simp only [setVs, setV] at hb24;clear hb4;replace HC := HC.then1 c23 ge_b4;replace hS' := hS'.tr c23 (by intro k hx hD; simp only [List.mem_singleton] at hx; subst hx; omega)
 replace hvC := Enc.chg hvC c23 q3;replace szC := Nat.le_trans szC c23.size;replace hb21 := hb21.tr1 c23 ne_rb_b4;refine en <| x_ret <| pp_ret <| ret_cellA (vs := [_, _, _, _, _, _, _, _, _]) rfl rfl T.agg30 (hb24.cells (n := 9) rfl) rfl ?_;exact ⟨cC, RC, _, heC, hsC, hlC, rfl, cmE.mono hvC (fun k _ h => by have := h.1; show _ ≤ k; omega), ⟨_, _, (by have h7 := hb21; rw [show d + 1 - 1 = d by omega] at h7; exact h7), hcap', hS'⟩, HC⟩
theorem gwithin_deep {Z : List Tok} {rb tb : Nat} {d : Int} {w : World} (hg : GT Z) (hR : RdAt w rb tb d Z) (hq : QOk rb tb) (hmx : MaxT w) (ht : Tab w) {fr : FuncId} (hd64 : d = 64) : CallP Tryz.prog 78 #[.pointer (some ⟨rb, 0, none⟩), .func (.func fr) #[.pointer (some ⟨rb, 0, none⟩)] #[]] w (fun _ _ => False) (fun v w' => ErT (Rs.er Z 104 : Rs Cm) Z rb w w' v) := by
 refine callP_of_wp (args := [_, _]) Tryz.func78 rfl (Nat.le_of_ble_eq_true rfl) ?_;have HC : Chg [rb] w w := .refl _;have hrl := hR.lt hg;have hq9 := hq;obtain ⟨hq1, hq2, hq3⟩ := hq9;have ht1 := ht.lt;have hm1 := hmx.lt;obtain ⟨A, cap, hb, hcap, hS⟩ := hR;refine sr rfl <| Wp rfl <| st_alloc T.zero30 ?_;intro b4 w1 e2 c3 hb4;have ge_b4 := gB e2 HC.size;replace HC := HC.then c3;replace hb := hb.tr0 c3;replace hS := hS.tr0 c3;clear e2;refine en <| x_seq <| sr rfl <| mP rfl <| nc rfl <| fa T.fld49_1 rfl <| lI T.one3 rfl (hb.cell rfl) <| Wp rfl <| st_addn rfl rfl (by constructor <;> omega) <| nc rfl <| fa T.fld49_1 rfl <| Wp rfl <| st_st (v := .int _ _) T.size3 rfl rfl rfl hb ?_
 intro w5 c6 hb7; simp only [setVs, setV] at hb7;clear hb;replace HC := HC.trans c6 q4;replace hS := hS.tr c6 (by intro k hx hD; simp only [List.mem_singleton] at hx; subst hx; omega)
 refine en <| sr rfl <| mP rfl <| nc rfl <| fa T.fld49_1 rfl <| lI T.one3 rfl (hb7.cell rfl) <| Wp rfl <| st_gtr rfl rfl <| en <| x_cond rfl (fun h0 => ?_) (fun h0 => ?_)
 ·try simp only [nm, ne_eq] at h0
  refine x_region rfl <| mP rfl <| w_plain rfl (st_callP (ags := [_, _]) rfl rfl T.ent17 rfl (gfail_spec 104 hg (show RdAt _ rb tb (d + 1) Z from ⟨A, cap, hb7, hcap, hS⟩)) ?_ ?_)
  ·rintro _ w8 ⟨rfl, c9⟩;replace HC := HC.then c9;refine then_p <| pp_panic ?_;exact ⟨Z, 104, rfl, .refl hg, rfl, HC⟩
  exact fun _ _ h9 => h9.elim
 try simp only [nm, ne_eq] at h0
 exfalso; omega
theorem gfunc_spec {Z : List Tok} {rb tb : Nat} {d : Int} {w : World} (hg : GT Z) (hz : GB Z) (hR : RdAt w rb tb d Z) (hq : QOk rb tb) (hmx : MaxT w) (ht : Tab w) {cw : List Tok → Rs Cm} (hcw : ∀ (Z : List Tok) (w : World), GT Z → GB Z → opensB Z = true → RdAt w rb tb d Z → MaxT w → Tab w → CallP Tryz.prog 78 #[.pointer (some ⟨rb, 0, none⟩), .func (.func 79) #[.pointer (some ⟨rb, 0, none⟩)] #[]] w (fun v w' => OkC (cw Z) Z rb tb d w w' v) (fun v w' => ErT (cw Z) Z rb w w' v)) (hk1 : (hd Z).kind = 1) (hk2 : (hd Z.tail).kind = 2) : CallP Tryz.prog 81 #[.pointer (some ⟨rb, 0, none⟩)] w (fun v w' => OkC (funcG cw Z) Z rb tb d w w' v) (fun v w' => ErT (funcG cw Z) Z rb w w' v) := by
 refine callP_of_wp (args := [_]) Tryz.func81 rfl (Nat.le_of_ble_eq_true rfl) ?_;have HC : Chg [rb] w w := .refl _;have hrl := hR.lt hg;have hq9 := hq;obtain ⟨hq1, hq2, hq3⟩ := hq9;have ht1 := ht.lt;have hm1 := hmx.lt;have hzl := hz.1;refine sr rfl <| Wp rfl <| st_alloc T.zero30 ?_;intro b2 w1 e2 c3 hb4;have ge_b2 := gB e2 HC.size;replace HC := HC.then c3;replace hR := hR.tr0 c3;replace ht := ht.tr0 c3;replace hmx := hmx.tr0 c3;clear e2;refine en <| sr rfl <| mP rfl <| Wp rfl <| st_call (ags := [_]) rfl rfl T.ent29 rfl (gnext_spec (Z := Z) hg hR hq) ?_;rintro _ w5 ⟨rfl, hR, c6⟩;replace HC := HC.trans c6 q4;replace ht := ht.tr c6 q1;replace hmx := hmx.tr c6 q1;replace hb4 := hb4.tr1 c6 q0;refine Wp rfl <| st_field (v := S _) T.fone51_1 rfl rfl <| Wp rfl <| st_bld (ps := [(0, .const (.int .i64 14)), (1, .tmp 6)]) (vs := [.int _ _, S _, .bool _, .bool _, .slice _ _ _, .slice _ _ _, .slice _ _ _, .slice _ _ _, .slice _ _ _]) T.bld30 rfl <| Wp rfl <| st_alloc T.zero30 ?_;intro b3 w7 e8 c9 hb10;have ge_b3 := gB e8 HC.size;have ne_b2_b3 := nE e8 hb4.ne_size;replace HC := HC.then c9;replace ht := ht.tr0 c9;replace hmx := hmx.tr0 c9;replace hb4 := hb4.tr0 c9;replace hR := hR.tr0 c9;clear e8;refine Wp rfl <| st_st (v := .agg ⟨[_, _, _, _, _, _, _, _, _]⟩) T.size30 rfl rfl rfl hb10 ?_;intro w11 c12 hb13; simp only [setVs, setV] at hb13;clear hb10;replace HC := HC.then1 c12 ge_b3;replace ht := ht.tr c12 q1;replace hmx := hmx.tr c12 q1;replace hb4 := hb4.tr1 c12 ne_b2_b3;replace hR := hR.tr c12 q2;refine en <| x_seq ?_;have hs1 := Suf.tail hg (by rw [hk1]; decide)
 have hg1 := hs1.good;have hs2 := (Suf.tail hg1 (by rw [hk2]; decide)).trans hs1
 have hg2 := hs2.good;refine x_region rfl <| mP rfl <| Wp rfl <| st_call (ags := [_]) rfl rfl T.ent29 rfl (gnext_spec (Z := Z.tail) hg1 hR hq) ?_;rintro _ w14 ⟨rfl, hR, c15⟩;replace HC := HC.trans c15 q4;replace ht := ht.tr c15 q1;replace hmx := hmx.tr c15 q1;replace hb4 := hb4.tr1 c15 q0;replace hb13 := hb13.tr1 c15 q0;refine en <| sr rfl <| mP rfl <| w_plain rfl (st_callP (ags := [_, _, _]) rfl rfl T.ent98 rfl (gwant_spec (Z := Z.tail.tail) 2 [41] hg2 hR hq) ?_ ?_)
 ·rintro _ w16 ⟨hwP, rfl, c17⟩;replace HC := HC.trans c17 q4;refine then_p <| pp_panic ?_;exact ⟨_, _, by simp only [funcG, want_er hwP, Rs.bind], hs2, rfl, HC⟩
 rintro _ w18 ⟨hwP, hR, c19⟩;replace HC := HC.trans c19 q4;replace ht := ht.tr c19 q1;replace hmx := hmx.tr c19 q1;replace hb4 := hb4.tr1 c19 q0;replace hb13 := hb13.tr1 c19 q0;refine en <| x_seq <| x_seq ?_;have hs3 := (suf_isT hg2 hwP (by decide)).trans hs2
 have hg3 := hs3.good;refine x_region rfl <| mP rfl <| Wp rfl <| st_call (ags := [_]) rfl rfl T.ent14 rfl (glines_spec (Z := Z.tail.tail.tail) hg3 hR hq) ?_;rintro _ w20 ⟨hR, c21⟩;replace HC := HC.trans c21 q4;replace ht := ht.tr c21 q1;replace hmx := hmx.tr c21 q1;replace hb4 := hb4.tr1 c21 q0;replace hb13 := hb13.tr1 c21 q0;refine en <| x_seq ?_;have hsL := lines_suf hg3;have hsL2 := hsL.trans hs3;have hgL := hsL.good;have hzL := hsL2.gb hz;refine x_region rfl <| mP rfl <| Wp rfl <| st_call (ags := [_]) rfl rfl T.ent77 rfl (gopens_spec (Z := linesG Z.tail.tail.tail) hgL hR ht) ?_;rintro _ w22 ⟨rfl, c23⟩;replace HC := HC.then c23;replace ht := ht.tr0 c23;replace hmx := hmx.tr0 c23;replace hb4 := hb4.tr0 c23;replace hb13 := hb13.tr0 c23;replace hR := hR.tr0 c23;refine Wp rfl <| st_not rfl <| en <| x_cond rfl (fun h0 => ?_) (fun h0 => ?_)
 ·try simp only [nm, ne_eq] at h0
  have hop : opensB (linesG Z.tail.tail.tail) = false := by first | assumption | simp_all
  refine x_region rfl <| mP rfl <| w_plain rfl (st_callP (ags := [_, _]) rfl rfl T.ent17 rfl (gfail_spec 101 hgL hR) ?_ ?_)
  ·rintro _ w24 ⟨rfl, c25⟩;replace HC := HC.then c25;refine then_p <| pp_panic ?_;exact ⟨_, _, by simp only [funcG, want_ok hwP, hop, if_true, Rs.bind], hsL2, rfl, HC⟩
  exact fun _ _ h9 => h9.elim
 try simp only [nm, ne_eq] at h0
 have hop : opensB (linesG Z.tail.tail.tail) = true := by first | assumption | simp_all
 refine x_skip <| then_n <| sr rfl <| mP rfl <| mP rfl <| Wp rfl <| st_makeFunc ?_;have ltW_b2 := hb4.lt;have ltW_b3 := hb13.lt;have szlW := HC.size;refine w_plain rfl (st_callP (ags := [_, _]) rfl rfl T.ent78 rfl (hcw _ _ hgL hzL hop hR hmx ht) ?_ ?_)
 ·rintro _ w26 ⟨R9, e9, he9, hs9, rfl, c27⟩;replace HC := HC.trans c27 q4;refine then_p <| pp_panic ?_;exact ⟨_, _, by simp only [funcG, want_ok hwP, hop, Bool.true_eq_false, if_false, he9, Rs.bind], hs9.trans hsL2, rfl, HC⟩
 rintro _ w28 ⟨cW, RW, vsW, heW, hsW, hlW, rfl, hvW, hR, c29⟩;obtain ⟨A1W, n1W, A2W, n2W, A3W, n3W, A4W, n4W, A5W, n5W, rfl, hAW, k1W, k2W, k3W, k4W, k5W⟩ := cm_open hvW;replace hvW := cmE.mono hvW (D' := (fun k => w22.heap.size ≤ k ∧ k < w28.heap.size)) (fun k hk h => ⟨h, hk⟩)
 have szW : w28.heap.size ≤ w28.heap.size := Nat.le_refl _;have szmW := c29.size;replace HC := HC.trans c29 q4;replace hb4 := hb4.tr1 c29 q0;replace hb13 := hb13.tr1 c29 q0;refine Wp rfl <| st_lit (ps := [(0, .tmp 22)]) (vs := [.int _ _, S _, .bool _, .bool _, .slice _ _ _, .slice _ _ _, .slice _ _ _, .slice _ _ _, .slice _ _ _]) T.lit27 (by decide) rfl q6 rfl ?_
 intro b30 w31 e32 c33 hb34;have ge_b30 := gB e32 HC.size;have ne_b2_b30 := nE e32 hb4.ne_size;have ne_b3_b30 := nE e32 hb13.ne_size;have gq_szW_b30 : w28.heap.size ≤ b30 := by rw [e32]; exact szW
 replace HC := HC.then c33;replace hb4 := hb4.tr0 c33;replace hb13 := hb13.tr0 c33;replace hR := hR.tr0 c33;replace hvW := Enc.chg hvW c33 q8;replace szW := Nat.le_trans szW c33.size;clear e32;refine fa T.fld30_7 rfl <| Wp rfl <| st_st (v := .slice _ _ _) T.size27 rfl rfl rfl hb13 ?_;intro w35 c36 hb37; simp only [setVs, setV] at hb37;clear hb13;replace HC := HC.then1 c36 ge_b3;replace hb4 := hb4.tr1 c36 ne_b2_b3;replace hR := hR.tr c36 q2;replace hvW := Enc.chg hvW c36 q3;replace szW := Nat.le_trans szW c36.size;replace hb34 := hb34.tr1 c36 (Ne.symm ne_b3_b30);refine en <| sr rfl <| Wp rfl <| st_loadA (vs := [_, _, _, _, _, _, _, _, _]) T.agg30 rfl (hb37.cells (n := 9) (vs := [_, _, _, _, _, _, _, _, _]) rfl) rfl <| Wp rfl <| st_st (v := .agg ⟨[_, _, _, _, _, _, _, _, _]⟩) T.size30 rfl rfl rfl hb4 ?_;intro w38 c39 hb40; simp only [setVs, setV] at hb40;clear hb4;replace HC := HC.then1 c39 ge_b2;replace hR := hR.tr c39 q2;replace hvW := Enc.chg hvW c39 q3;replace szW := Nat.le_trans szW c39.size;replace hb34 := hb34.tr1 c39 (Ne.symm ne_b2_b30);refine en <| x_ret <| pp_ret <| ret_cellA (vs := [_, _, _, _, _, _, _, _, _]) rfl rfl T.agg30 (hb40.cells (n := 9) rfl) rfl ?_;have oD : Own cmE 30 w38 (fun k => w.heap.size ≤ k ∧ k ≠ b2 ∧ k ≠ b3) (some ⟨b30, 0, none⟩) 1 [cW] := own_one hb34 ⟨by omega, (Ne.symm ne_b2_b30), (Ne.symm ne_b3_b30)⟩ hvW (fun k _ h => ⟨⟨by omega, by omega, by omega⟩, by omega⟩)
 exact ⟨.mk 14 (hd Z).text false false [] [] [] [cW] [], RW, _, by simp only [funcG, want_ok hwP, Rs.bind, hop, Bool.true_eq_false, if_false, heW], hsW.trans hsL2, by have := hsL2.len; omega, rfl, cm_shut (c := .mk 14 (hd Z).text false false [] [] [] [cW] []) ⟨.nil, .nil, .nil, oD.sl.mono (fun k _ h => h.1), .nil⟩ ⟨Nat.le_refl _, by decide⟩ ⟨Nat.le_refl _, by decide⟩ ⟨Nat.le_refl _, by decide⟩ oD.le ⟨Nat.le_refl _, by decide⟩, hR, HC⟩
theorem gcommand_spec {Z : List Tok} {rb tb : Nat} {d : Int} {w : World} (hg : GT Z) (hz : GB Z) (hR : RdAt w rb tb d Z) (hq : QOk rb tb) (hmx : MaxT w) (ht : Tab w) {cw : List Tok → Rs Cm} (hcw : ∀ (Z : List Tok) (w : World), GT Z → GB Z → opensB Z = true → RdAt w rb tb d Z → MaxT w → Tab w → CallP Tryz.prog 78 #[.pointer (some ⟨rb, 0, none⟩), .func (.func 79) #[.pointer (some ⟨rb, 0, none⟩)] #[]] w (fun v w' => OkC (cw Z) Z rb tb d w w' v) (fun v w' => ErT (cw Z) Z rb w w' v)) {fw : List Tok → Rs Cm} (hfw : ∀ (Z : List Tok) (w : World), GT Z → GB Z → (hd Z).kind = 1 → (hd Z.tail).kind = 2 → RdAt w rb tb d Z → MaxT w → Tab w → CallP Tryz.prog 78 #[.pointer (some ⟨rb, 0, none⟩), .func (.func 81) #[.pointer (some ⟨rb, 0, none⟩)] #[]] w (fun v w' => OkC (fw Z) Z rb tb d w w' v) (fun v w' => ErT (fw Z) Z rb w w' v)) : CallP Tryz.prog 64 #[.pointer (some ⟨rb, 0, none⟩)] w (fun v w' => OkC (commandG cw fw Z) Z rb tb d w w' v) (fun v w' => ErT (commandG cw fw Z) Z rb w w' v) := by
 refine callP_of_wp (args := [_]) Tryz.func64 rfl (Nat.le_of_ble_eq_true rfl) ?_;have HC : Chg [rb] w w := .refl _;have hrl := hR.lt hg;have hq9 := hq;obtain ⟨hq1, hq2, hq3⟩ := hq9;have ht1 := ht.lt;have hm1 := hmx.lt;have hzl := hz.1;refine sr rfl <| Wp rfl <| st_alloc T.zero30 ?_;intro b2 w1 e2 c3 hb4;have ge_b2 := gB e2 HC.size;replace HC := HC.then c3;replace hR := hR.tr0 c3;replace ht := ht.tr0 c3;replace hmx := hmx.tr0 c3;clear e2;refine en <| sr rfl <| mP rfl <| Wp rfl <| st_call (ags := [_]) rfl rfl T.ent15 rfl (gtok_spec (Z := Z) hg hR) ?_;rintro _ w5 ⟨rfl, c6⟩;replace HC := HC.then c6;replace hR := hR.tr0 c6;replace ht := ht.tr0 c6;replace hmx := hmx.tr0 c6;replace hb4 := hb4.tr0 c6;refine Wp rfl <| st_alloc T.zero51 ?_;intro b3 w7 e8 c9 hb10;have ge_b3 := gB e8 HC.size;have ne_b2_b3 := nE e8 hb4.ne_size;replace HC := HC.then c9;replace hR := hR.tr0 c9;replace ht := ht.tr0 c9;replace hmx := hmx.tr0 c9;replace hb4 := hb4.tr0 c9;clear e8;refine Wp rfl <| st_st (v := .agg ⟨[_, _, _, _, _]⟩) T.size51 rfl rfl rfl hb10 ?_;intro w11 c12 hb13; simp only [setVs, setV] at hb13;clear hb10;replace HC := HC.then1 c12 ge_b3;replace hR := hR.tr c12 q2;replace ht := ht.tr c12 q1;replace hmx := hmx.tr c12 q1;replace hb4 := hb4.tr1 c12 ne_b2_b3;refine en <| x_seq <| x_block <| sr rfl <| mP rfl <| Wp rfl <| st_call (ags := [_]) rfl rfl T.ent77 rfl (gopens_spec hg hR ht) ?_;rintro _ w14 ⟨rfl, c15⟩;replace HC := HC.then c15;replace hR := hR.tr0 c15;replace ht := ht.tr0 c15;replace hmx := hmx.tr0 c15;replace hb4 := hb4.tr0 c15;replace hb13 := hb13.tr0 c15;refine aB rfl <| en <| x_cond rfl (fun h0 => ?_) (fun h0 => ?_)
 ·try simp only [nm, ne_eq] at h0
  have hop : opensB Z = true := by first | assumption | simp_all
  refine sr rfl <| mP rfl <| mP rfl <| Wp rfl <| st_makeFunc ?_;have ltW_b2 := hb4.lt;have ltW_b3 := hb13.lt;have szlW := HC.size;refine w_plain rfl (st_callP (ags := [_, _]) rfl rfl T.ent78 rfl (hcw _ _ hg hz hop hR hmx ht) ?_ ?_)
  ·rintro _ w16 ⟨R9, e9, he9, hs9, rfl, c17⟩;replace HC := HC.trans c17 q4;refine then_p <| block_p <| then_p <| pp_panic ?_;exact ⟨_, _, by unfold commandG; rw [if_pos hop]; exact he9, hs9, rfl, HC⟩
  rintro _ w18 ⟨cW, RW, vsW, heW, hsW, hlW, rfl, hvW, hR, c19⟩;obtain ⟨A1W, n1W, A2W, n2W, A3W, n3W, A4W, n4W, A5W, n5W, rfl, hAW, k1W, k2W, k3W, k4W, k5W⟩ := cm_open hvW;replace hvW := cmE.mono hvW (D' := (fun k => w14.heap.size ≤ k ∧ k < w18.heap.size)) (fun k hk h => ⟨h, hk⟩)
  have szW : w18.heap.size ≤ w18.heap.size := Nat.le_refl _;have szmW := c19.size;replace HC := HC.trans c19 q4;replace hb4 := hb4.tr1 c19 q0;refine Wp rfl <| st_st (v := .agg ⟨[_, _, _, _, _, _, _, _, _]⟩) T.size30 rfl rfl rfl hb4 ?_;intro w20 c21 hb22; simp only [setVs, setV] at hb22;clear hb4;replace HC := HC.then1 c21 ge_b2;replace hR := hR.tr c21 q2;replace hvW := Enc.chg hvW c21 q3;replace szW := Nat.le_trans szW c21.size;refine en <| x_ret <| block_r <| then_r <| pp_ret <| ret_cellA (vs := [_, _, _, _, _, _, _, _, _]) rfl rfl T.agg30 (hb22.cells (n := 9) rfl) rfl ?_;exact ⟨cW, RW, _, by unfold commandG; rw [if_pos hop]; exact heW, hsW, hlW, rfl, cmE.mono hvW (fun k _ h => by have := h.1; show _ ≤ k; omega), hR, HC⟩
 try simp only [nm, ne_eq] at h0
 have hop : opensB Z = false := by first | assumption | simp_all
 refine sr rfl <| fa T.fld51_0 rfl <| lI T.one3 rfl (hb13.cell rfl) <| Wp rfl <| st_eql rfl rfl <| mB rfl <| w_split (d := 17) rfl (fun g23 => ?_) (fun g23 => ?_)
 ·try simp only [nm, ne_eq] at g23
  refine w_yes 3 17 true <| st_fieldAddr T.fld51_1 rfl <| w_yes 3 17 true <| st_load1 (v := S _) T.one9 rfl (hb13.cell rfl) <| w_yes 3 17 true <| st_call (ags := [_]) rfl rfl T.ent40 rfl (Reserved_spec (hd Z).text _ ht) ?_;rintro _ w24 ⟨rfl, c25⟩;replace HC := HC.then c25;replace hR := hR.tr0 c25;replace ht := ht.tr0 c25;replace hmx := hmx.tr0 c25;replace hb4 := hb4.tr0 c25;replace hb13 := hb13.tr0 c25;refine pT rfl rfl <| aB rfl <| en <| x_cond rfl (fun h1 => ?_) (fun h1 => ?_)
  ·try simp only [nm, ne_eq] at h1
   have hrs : (hd Z).kind = 1 ∧ resB (hd Z).text = true := by constructor <;> first | assumption | simp_all
   refine x_region rfl <| mP rfl <| w_plain rfl (st_callP (ags := [_, _]) rfl rfl T.ent17 rfl (gfail_spec 101 hg hR) ?_ ?_)
   ·rintro _ w26 ⟨rfl, c27⟩;replace HC := HC.then c27;refine block_p <| then_p <| pp_panic ?_;exact ⟨Z, 101, by unfold commandG; rw [if_neg (by rw [hop]; simp), if_pos hrs], .refl hg, rfl, HC⟩
   exact fun _ _ h9 => h9.elim
  try simp only [nm, ne_eq] at h1
  have hrs : ¬ ((hd Z).kind = 1 ∧ resB (hd Z).text = true) := by rintro ⟨q1, q2⟩; simp_all
  refine x_seq ?_;have hRq := hR;obtain ⟨Aq, capq, hbq, hcapq, hSq⟩ := hRq;refine x_region rfl <| fa T.fld51_0 rfl <| lI T.one3 rfl (hb13.cell rfl) <| Wp rfl <| st_eql rfl rfl <| mB rfl <| w_split (d := 28) rfl (fun g28 => ?_) (fun g28 => ?_)
  ·try simp only [nm, ne_eq] at g28
   have hkq : (hd Z).kind = 1 := by first | assumption | simp_all
   have hgT := hg.tail (by rw [hkq]; decide)
   have hlT := tail_len hg;have hpT := hgT.pos;refine w_yes 3 28 true <| st_fieldAddr T.fld51_1 rfl <| w_yes 3 28 true <| st_load1 (v := S _) T.one9 rfl (hb13.cell rfl) <| w_yes 3 28 true <| st_call (ags := [_]) rfl rfl T.ent80 rfl (CName_spec (hd Z).text _) ?_;rintro _ w29 ⟨rfl, c30⟩;replace HC := HC.then c30;replace hR := hR.tr0 c30;replace ht := ht.tr0 c30;replace hmx := hmx.tr0 c30;replace hb4 := hb4.tr0 c30;replace hb13 := hb13.tr0 c30;replace hbq := hbq.tr0 c30;replace hSq := hSq.tr0 c30;refine pT rfl rfl <| mB rfl <| w_split (d := 33) rfl (fun g31 => ?_) (fun g31 => ?_)
   ·try simp only [nm, ne_eq] at g31
    refine w_yes 8 33 true <| st_move (v := .pointer _) rfl <| w_yes 8 33 true <| st_nilCheck rfl <| w_yes 8 33 true <| st_fieldAddr T.fld49_0 rfl <| w_yes 8 33 true <| st_load1 (v := .slice _ _ _) T.one41 rfl (hbq.cell rfl) ?_;obtain ⟨lb36, _, vs35, hA32, hR34, hC33⟩ := hSq.at (i := 1) (x := (hd Z.tail)) (hd1_at hg hgT);obtain rfl : vs35 = [.int .i64 (hd Z.tail).kind, S (hd Z.tail).text, .int .i64 (hd Z.tail).at_, S (hd Z.tail).here, .bool (hd Z.tail).raw] := hR34;refine w_yes 8 33 true <| st_indexAddr T.u41 T.size51 (congrArg (fun z => Value.slice z _ _) hA32) rfl (by decide) q0 <| w_yes 8 33 true <| st_fieldAddr T.fld51_0 rfl <| w_yes 8 33 true <| st_load1 (v := .int _ _) T.one3 rfl (hC33.at (j := 0) rfl) <| w_yes 8 33 true <| st_eql rfl rfl <| pT rfl rfl <| mB rfl <| w_split (d := 43) rfl (fun g37 => ?_) (fun g37 => ?_)
    ·try simp only [nm, ne_eq] at g37
     refine w_yes 18 43 true <| st_move (v := .pointer _) rfl <| w_yes 18 43 true <| st_nilCheck rfl <| w_yes 18 43 true <| st_fieldAddr T.fld49_0 rfl <| w_yes 18 43 true <| st_load1 (v := .slice _ _ _) T.one41 rfl (hbq.cell rfl) ?_;obtain ⟨lb42, _, vs41, hA38, hR40, hC39⟩ := hSq.at (i := 1) (x := (hd Z.tail)) (hd1_at hg hgT);obtain rfl : vs41 = [.int .i64 (hd Z.tail).kind, S (hd Z.tail).text, .int .i64 (hd Z.tail).at_, S (hd Z.tail).here, .bool (hd Z.tail).raw] := hR40;refine w_yes 18 43 true <| st_indexAddr T.u41 T.size51 (congrArg (fun z => Value.slice z _ _) hA38) rfl (by decide) q0 <| w_yes 18 43 true <| st_fieldAddr T.fld51_1 rfl <| w_yes 18 43 true <| st_load1 (v := S _) T.one9 rfl (hC39.at (j := 1) rfl) <| w_yes 18 43 true <| st_seql rfl rfl <| pT rfl rfl <| aB rfl <| en <| x_cond rfl (fun h2 => ?_) (fun h2 => ?_)
     ·try simp only [nm, ne_eq] at h2
      have hfn : (hd Z).kind = 1 ∧ nameV (hd Z).text = true ∧ (hd Z.tail).kind = 2 ∧ (hd Z.tail).text = [40] := by refine ⟨?_, ?_, ?_, ?_⟩ <;> first | assumption | simp_all
      refine sr rfl <| mP rfl <| mP rfl <| Wp rfl <| st_makeFunc ?_;have ltW_b2 := hb4.lt;have ltW_b3 := hb13.lt;have szlW := HC.size;refine w_plain rfl (st_callP (ags := [_, _]) rfl rfl T.ent78 rfl (hfw _ _ hg hz hfn.1 hfn.2.2.1 hR hmx ht) ?_ ?_)
      ·rintro _ w43 ⟨R9, e9, he9, hs9, rfl, c44⟩;replace HC := HC.trans c44 q4;refine then_p <| block_p <| then_p <| pp_panic ?_;exact ⟨_, _, by unfold commandG; rw [if_neg (by rw [hop]; simp), if_neg hrs, if_pos hfn]; exact he9, hs9, rfl, HC⟩
      rintro _ w45 ⟨cW, RW, vsW, heW, hsW, hlW, rfl, hvW, hR, c46⟩;obtain ⟨A1W, n1W, A2W, n2W, A3W, n3W, A4W, n4W, A5W, n5W, rfl, hAW, k1W, k2W, k3W, k4W, k5W⟩ := cm_open hvW;replace hvW := cmE.mono hvW (D' := (fun k => w29.heap.size ≤ k ∧ k < w45.heap.size)) (fun k hk h => ⟨h, hk⟩)
      have szW : w45.heap.size ≤ w45.heap.size := Nat.le_refl _;have szmW := c46.size;replace HC := HC.trans c46 q4;replace hb4 := hb4.tr1 c46 q0;refine Wp rfl <| st_st (v := .agg ⟨[_, _, _, _, _, _, _, _, _]⟩) T.size30 rfl rfl rfl hb4 ?_;intro w47 c48 hb49; simp only [setVs, setV] at hb49;clear hb4;replace HC := HC.then1 c48 ge_b2;replace hR := hR.tr c48 q2;replace hvW := Enc.chg hvW c48 q3;replace szW := Nat.le_trans szW c48.size;refine en <| x_ret <| block_r <| then_r <| pp_ret <| ret_cellA (vs := [_, _, _, _, _, _, _, _, _]) rfl rfl T.agg30 (hb49.cells (n := 9) rfl) rfl ?_;exact ⟨cW, RW, _, by unfold commandG; rw [if_neg (by rw [hop]; simp), if_neg hrs, if_pos hfn]; exact heW, hsW, hlW, rfl, cmE.mono hvW (fun k _ h => by have := h.1; show _ ≤ k; omega), hR, HC⟩
     try simp only [nm, ne_eq] at h2
     have hnf : ¬ ((hd Z).kind = 1 ∧ nameV (hd Z).text = true ∧ (hd Z.tail).kind = 2 ∧ (hd Z.tail).text = [40]) := by rintro ⟨q1, q2, q3, q4⟩; simp_all
     refine x_skip <| block_n <| then_n <| sr rfl <| mP rfl ?_;have ltM_b2 := hb4.lt;have ltM_b3 := hb13.lt;have szlM := HC.size;refine w_plain rfl (st_callP (ags := [_]) rfl rfl T.ent82 rfl (gsimple_spec hg hz hR hq hmx ht) ?_ ?_)
     ·rintro _ w50 ⟨R9, e9, he9, hs9, rfl, c51⟩;replace HC := HC.trans c51 q4;refine then_p <| pp_panic ?_;exact ⟨_, _, by unfold commandG; rw [if_neg (by rw [hop]; simp), if_neg hrs, if_neg hnf]; exact he9, hs9, rfl, HC⟩
     rintro _ w52 ⟨cM, RM, vsM, heM, hsM, hlM, rfl, hvM, hR, c53⟩;obtain ⟨A1M, n1M, A2M, n2M, A3M, n3M, A4M, n4M, A5M, n5M, rfl, hAM, k1M, k2M, k3M, k4M, k5M⟩ := cm_open hvM;replace hvM := cmE.mono hvM (D' := (fun k => w29.heap.size ≤ k ∧ k < w52.heap.size)) (fun k hk h => ⟨h, hk⟩)
     have szM : w52.heap.size ≤ w52.heap.size := Nat.le_refl _;have szmM := c53.size;replace HC := HC.trans c53 q4;replace hb4 := hb4.tr1 c53 q0;refine Wp rfl <| st_st (v := .agg ⟨[_, _, _, _, _, _, _, _, _]⟩) T.size30 rfl rfl rfl hb4 ?_;intro w54 c55 hb56; simp only [setVs, setV] at hb56;clear hb4;replace HC := HC.then1 c55 ge_b2;replace hR := hR.tr c55 q2;replace hvM := Enc.chg hvM c55 q3;replace szM := Nat.le_trans szM c55.size;refine en <| x_ret <| pp_ret <| ret_cellA (vs := [_, _, _, _, _, _, _, _, _]) rfl rfl T.agg30 (hb56.cells (n := 9) rfl) rfl ?_;exact ⟨cM, RM, _, by unfold commandG; rw [if_neg (by rw [hop]; simp), if_neg hrs, if_neg hnf]; exact heM, hsM, hlM, rfl, cmE.mono hvM (fun k _ h => by have := h.1; show _ ≤ k; omega), hR, HC⟩
    try simp only [nm, ne_eq] at g37
    iterate 8 refine w_no 18 43 true ?_
    refine pF rfl rfl <| aB rfl <| en <| x_cond (t := false) rfl (fun h2 => ?_) (fun h2 => ?_)
    · exact absurd h2 (by decide)
    have hnf : ¬ ((hd Z).kind = 1 ∧ nameV (hd Z).text = true ∧ (hd Z.tail).kind = 2 ∧ (hd Z.tail).text = [40]) := by rintro ⟨q1, q2, q3, q4⟩; simp_all
    refine x_skip <| block_n <| then_n <| sr rfl <| mP rfl ?_;have ltM_b2 := hb4.lt;have ltM_b3 := hb13.lt;have szlM := HC.size;refine w_plain rfl (st_callP (ags := [_]) rfl rfl T.ent82 rfl (gsimple_spec hg hz hR hq hmx ht) ?_ ?_)
    ·rintro _ w57 ⟨R9, e9, he9, hs9, rfl, c58⟩;replace HC := HC.trans c58 q4;refine then_p <| pp_panic ?_;exact ⟨_, _, by unfold commandG; rw [if_neg (by rw [hop]; simp), if_neg hrs, if_neg hnf]; exact he9, hs9, rfl, HC⟩
    rintro _ w59 ⟨cM, RM, vsM, heM, hsM, hlM, rfl, hvM, hR, c60⟩;obtain ⟨A1M, n1M, A2M, n2M, A3M, n3M, A4M, n4M, A5M, n5M, rfl, hAM, k1M, k2M, k3M, k4M, k5M⟩ := cm_open hvM;replace hvM := cmE.mono hvM (D' := (fun k => w29.heap.size ≤ k ∧ k < w59.heap.size)) (fun k hk h => ⟨h, hk⟩)
    have szM : w59.heap.size ≤ w59.heap.size := Nat.le_refl _;have szmM := c60.size;replace HC := HC.trans c60 q4;replace hb4 := hb4.tr1 c60 q0;refine Wp rfl <| st_st (v := .agg ⟨[_, _, _, _, _, _, _, _, _]⟩) T.size30 rfl rfl rfl hb4 ?_;intro w61 c62 hb63; simp only [setVs, setV] at hb63;clear hb4;replace HC := HC.then1 c62 ge_b2;replace hR := hR.tr c62 q2;replace hvM := Enc.chg hvM c62 q3;replace szM := Nat.le_trans szM c62.size;refine en <| x_ret <| pp_ret <| ret_cellA (vs := [_, _, _, _, _, _, _, _, _]) rfl rfl T.agg30 (hb63.cells (n := 9) rfl) rfl ?_;exact ⟨cM, RM, _, by unfold commandG; rw [if_neg (by rw [hop]; simp), if_neg hrs, if_neg hnf]; exact heM, hsM, hlM, rfl, cmE.mono hvM (fun k _ h => by have := h.1; show _ ≤ k; omega), hR, HC⟩
   try simp only [nm, ne_eq] at g31
   iterate 8 refine w_no 8 33 true ?_
   refine pF rfl rfl <| mB rfl ?_;iterate 8 refine w_no 18 43 true ?_
   refine pF rfl rfl <| aB rfl <| en <| x_cond (t := false) rfl (fun h2 => ?_) (fun h2 => ?_)
   · exact absurd h2 (by decide)
   have hnf : ¬ ((hd Z).kind = 1 ∧ nameV (hd Z).text = true ∧ (hd Z.tail).kind = 2 ∧ (hd Z.tail).text = [40]) := by rintro ⟨q1, q2, q3, q4⟩; simp_all
   refine x_skip <| block_n <| then_n <| sr rfl <| mP rfl ?_;have ltM_b2 := hb4.lt;have ltM_b3 := hb13.lt;have szlM := HC.size;refine w_plain rfl (st_callP (ags := [_]) rfl rfl T.ent82 rfl (gsimple_spec hg hz hR hq hmx ht) ?_ ?_)
   ·rintro _ w64 ⟨R9, e9, he9, hs9, rfl, c65⟩;replace HC := HC.trans c65 q4;refine then_p <| pp_panic ?_;exact ⟨_, _, by unfold commandG; rw [if_neg (by rw [hop]; simp), if_neg hrs, if_neg hnf]; exact he9, hs9, rfl, HC⟩
   rintro _ w66 ⟨cM, RM, vsM, heM, hsM, hlM, rfl, hvM, hR, c67⟩;obtain ⟨A1M, n1M, A2M, n2M, A3M, n3M, A4M, n4M, A5M, n5M, rfl, hAM, k1M, k2M, k3M, k4M, k5M⟩ := cm_open hvM;replace hvM := cmE.mono hvM (D' := (fun k => w29.heap.size ≤ k ∧ k < w66.heap.size)) (fun k hk h => ⟨h, hk⟩)
   have szM : w66.heap.size ≤ w66.heap.size := Nat.le_refl _;have szmM := c67.size;replace HC := HC.trans c67 q4;replace hb4 := hb4.tr1 c67 q0;refine Wp rfl <| st_st (v := .agg ⟨[_, _, _, _, _, _, _, _, _]⟩) T.size30 rfl rfl rfl hb4 ?_;intro w68 c69 hb70; simp only [setVs, setV] at hb70;clear hb4;replace HC := HC.then1 c69 ge_b2;replace hR := hR.tr c69 q2;replace hvM := Enc.chg hvM c69 q3;replace szM := Nat.le_trans szM c69.size;refine en <| x_ret <| pp_ret <| ret_cellA (vs := [_, _, _, _, _, _, _, _, _]) rfl rfl T.agg30 (hb70.cells (n := 9) rfl) rfl ?_;exact ⟨cM, RM, _, by unfold commandG; rw [if_neg (by rw [hop]; simp), if_neg hrs, if_neg hnf]; exact heM, hsM, hlM, rfl, cmE.mono hvM (fun k _ h => by have := h.1; show _ ≤ k; omega), hR, HC⟩
  try simp only [nm, ne_eq] at g28
  iterate 3 refine w_no 3 28 true ?_
  refine pF rfl rfl <| mB rfl ?_;iterate 8 refine w_no 8 33 true ?_
  refine pF rfl rfl <| mB rfl ?_;iterate 8 refine w_no 18 43 true ?_
  refine pF rfl rfl <| aB rfl <| en <| x_cond (t := false) rfl (fun h2 => ?_) (fun h2 => ?_)
  · exact absurd h2 (by decide)
  have hnf : ¬ ((hd Z).kind = 1 ∧ nameV (hd Z).text = true ∧ (hd Z.tail).kind = 2 ∧ (hd Z.tail).text = [40]) := by rintro ⟨q1, q2, q3, q4⟩; simp_all
  refine x_skip <| block_n <| then_n <| sr rfl <| mP rfl ?_;have ltM_b2 := hb4.lt;have ltM_b3 := hb13.lt;have szlM := HC.size;refine w_plain rfl (st_callP (ags := [_]) rfl rfl T.ent82 rfl (gsimple_spec hg hz hR hq hmx ht) ?_ ?_)
  ·rintro _ w71 ⟨R9, e9, he9, hs9, rfl, c72⟩;replace HC := HC.trans c72 q4;refine then_p <| pp_panic ?_;exact ⟨_, _, by unfold commandG; rw [if_neg (by rw [hop]; simp), if_neg hrs, if_neg hnf]; exact he9, hs9, rfl, HC⟩
  rintro _ w73 ⟨cM, RM, vsM, heM, hsM, hlM, rfl, hvM, hR, c74⟩;obtain ⟨A1M, n1M, A2M, n2M, A3M, n3M, A4M, n4M, A5M, n5M, rfl, hAM, k1M, k2M, k3M, k4M, k5M⟩ := cm_open hvM;replace hvM := cmE.mono hvM (D' := (fun k => w24.heap.size ≤ k ∧ k < w73.heap.size)) (fun k hk h => ⟨h, hk⟩)
  have szM : w73.heap.size ≤ w73.heap.size := Nat.le_refl _;have szmM := c74.size;replace HC := HC.trans c74 q4;replace hb4 := hb4.tr1 c74 q0;refine Wp rfl <| st_st (v := .agg ⟨[_, _, _, _, _, _, _, _, _]⟩) T.size30 rfl rfl rfl hb4 ?_;intro w75 c76 hb77; simp only [setVs, setV] at hb77;clear hb4;replace HC := HC.then1 c76 ge_b2;replace hR := hR.tr c76 q2;replace hvM := Enc.chg hvM c76 q3;replace szM := Nat.le_trans szM c76.size;refine en <| x_ret <| pp_ret <| ret_cellA (vs := [_, _, _, _, _, _, _, _, _]) rfl rfl T.agg30 (hb77.cells (n := 9) rfl) rfl ?_;exact ⟨cM, RM, _, by unfold commandG; rw [if_neg (by rw [hop]; simp), if_neg hrs, if_neg hnf]; exact heM, hsM, hlM, rfl, cmE.mono hvM (fun k _ h => by have := h.1; show _ ≤ k; omega), hR, HC⟩
 try simp only [nm, ne_eq] at g23
 iterate 3 refine w_no 3 17 true ?_
 refine pF rfl rfl <| aB rfl <| en <| x_cond (t := false) rfl (fun h1 => ?_) (fun h1 => ?_)
 · exact absurd h1 (by decide)
 have hrs : ¬ ((hd Z).kind = 1 ∧ resB (hd Z).text = true) := by rintro ⟨q1, q2⟩; simp_all
 refine x_seq ?_;have hRq := hR;obtain ⟨Aq, capq, hbq, hcapq, hSq⟩ := hRq;refine x_region rfl <| fa T.fld51_0 rfl <| lI T.one3 rfl (hb13.cell rfl) <| Wp rfl <| st_eql rfl rfl <| mB rfl <| w_split (d := 28) rfl (fun g78 => ?_) (fun g78 => ?_)
 ·try simp only [nm, ne_eq] at g78
  have hkq : (hd Z).kind = 1 := by first | assumption | simp_all
  have hgT := hg.tail (by rw [hkq]; decide)
  have hlT := tail_len hg;have hpT := hgT.pos;refine w_yes 3 28 true <| st_fieldAddr T.fld51_1 rfl <| w_yes 3 28 true <| st_load1 (v := S _) T.one9 rfl (hb13.cell rfl) <| w_yes 3 28 true <| st_call (ags := [_]) rfl rfl T.ent80 rfl (CName_spec (hd Z).text _) ?_;rintro _ w79 ⟨rfl, c80⟩;replace HC := HC.then c80;replace hR := hR.tr0 c80;replace ht := ht.tr0 c80;replace hmx := hmx.tr0 c80;replace hb4 := hb4.tr0 c80;replace hb13 := hb13.tr0 c80;replace hbq := hbq.tr0 c80;replace hSq := hSq.tr0 c80;refine pT rfl rfl <| mB rfl <| w_split (d := 33) rfl (fun g81 => ?_) (fun g81 => ?_)
  ·try simp only [nm, ne_eq] at g81
   refine w_yes 8 33 true <| st_move (v := .pointer _) rfl <| w_yes 8 33 true <| st_nilCheck rfl <| w_yes 8 33 true <| st_fieldAddr T.fld49_0 rfl <| w_yes 8 33 true <| st_load1 (v := .slice _ _ _) T.one41 rfl (hbq.cell rfl) ?_;obtain ⟨lb86, _, vs85, hA82, hR84, hC83⟩ := hSq.at (i := 1) (x := (hd Z.tail)) (hd1_at hg hgT);obtain rfl : vs85 = [.int .i64 (hd Z.tail).kind, S (hd Z.tail).text, .int .i64 (hd Z.tail).at_, S (hd Z.tail).here, .bool (hd Z.tail).raw] := hR84;refine w_yes 8 33 true <| st_indexAddr T.u41 T.size51 (congrArg (fun z => Value.slice z _ _) hA82) rfl (by decide) q0 <| w_yes 8 33 true <| st_fieldAddr T.fld51_0 rfl <| w_yes 8 33 true <| st_load1 (v := .int _ _) T.one3 rfl (hC83.at (j := 0) rfl) <| w_yes 8 33 true <| st_eql rfl rfl <| pT rfl rfl <| mB rfl <| w_split (d := 43) rfl (fun g87 => ?_) (fun g87 => ?_)
   ·try simp only [nm, ne_eq] at g87
    refine w_yes 18 43 true <| st_move (v := .pointer _) rfl <| w_yes 18 43 true <| st_nilCheck rfl <| w_yes 18 43 true <| st_fieldAddr T.fld49_0 rfl <| w_yes 18 43 true <| st_load1 (v := .slice _ _ _) T.one41 rfl (hbq.cell rfl) ?_;obtain ⟨lb92, _, vs91, hA88, hR90, hC89⟩ := hSq.at (i := 1) (x := (hd Z.tail)) (hd1_at hg hgT);obtain rfl : vs91 = [.int .i64 (hd Z.tail).kind, S (hd Z.tail).text, .int .i64 (hd Z.tail).at_, S (hd Z.tail).here, .bool (hd Z.tail).raw] := hR90;refine w_yes 18 43 true <| st_indexAddr T.u41 T.size51 (congrArg (fun z => Value.slice z _ _) hA88) rfl (by decide) q0 <| w_yes 18 43 true <| st_fieldAddr T.fld51_1 rfl <| w_yes 18 43 true <| st_load1 (v := S _) T.one9 rfl (hC89.at (j := 1) rfl) <| w_yes 18 43 true <| st_seql rfl rfl <| pT rfl rfl <| aB rfl <| en <| x_cond rfl (fun h2 => ?_) (fun h2 => ?_)
    ·try simp only [nm, ne_eq] at h2
     have hfn : (hd Z).kind = 1 ∧ nameV (hd Z).text = true ∧ (hd Z.tail).kind = 2 ∧ (hd Z.tail).text = [40] := by refine ⟨?_, ?_, ?_, ?_⟩ <;> first | assumption | simp_all
     refine sr rfl <| mP rfl <| mP rfl <| Wp rfl <| st_makeFunc ?_;have ltW_b2 := hb4.lt;have ltW_b3 := hb13.lt;have szlW := HC.size;refine w_plain rfl (st_callP (ags := [_, _]) rfl rfl T.ent78 rfl (hfw _ _ hg hz hfn.1 hfn.2.2.1 hR hmx ht) ?_ ?_)
     ·rintro _ w93 ⟨R9, e9, he9, hs9, rfl, c94⟩;replace HC := HC.trans c94 q4;refine then_p <| block_p <| then_p <| pp_panic ?_;exact ⟨_, _, by unfold commandG; rw [if_neg (by rw [hop]; simp), if_neg hrs, if_pos hfn]; exact he9, hs9, rfl, HC⟩
     rintro _ w95 ⟨cW, RW, vsW, heW, hsW, hlW, rfl, hvW, hR, c96⟩;obtain ⟨A1W, n1W, A2W, n2W, A3W, n3W, A4W, n4W, A5W, n5W, rfl, hAW, k1W, k2W, k3W, k4W, k5W⟩ := cm_open hvW;replace hvW := cmE.mono hvW (D' := (fun k => w79.heap.size ≤ k ∧ k < w95.heap.size)) (fun k hk h => ⟨h, hk⟩)
     have szW : w95.heap.size ≤ w95.heap.size := Nat.le_refl _;have szmW := c96.size;replace HC := HC.trans c96 q4;replace hb4 := hb4.tr1 c96 q0;refine Wp rfl <| st_st (v := .agg ⟨[_, _, _, _, _, _, _, _, _]⟩) T.size30 rfl rfl rfl hb4 ?_;intro w97 c98 hb99; simp only [setVs, setV] at hb99;clear hb4;replace HC := HC.then1 c98 ge_b2;replace hR := hR.tr c98 q2;replace hvW := Enc.chg hvW c98 q3;replace szW := Nat.le_trans szW c98.size;refine en <| x_ret <| block_r <| then_r <| pp_ret <| ret_cellA (vs := [_, _, _, _, _, _, _, _, _]) rfl rfl T.agg30 (hb99.cells (n := 9) rfl) rfl ?_;exact ⟨cW, RW, _, by unfold commandG; rw [if_neg (by rw [hop]; simp), if_neg hrs, if_pos hfn]; exact heW, hsW, hlW, rfl, cmE.mono hvW (fun k _ h => by have := h.1; show _ ≤ k; omega), hR, HC⟩
    try simp only [nm, ne_eq] at h2
    have hnf : ¬ ((hd Z).kind = 1 ∧ nameV (hd Z).text = true ∧ (hd Z.tail).kind = 2 ∧ (hd Z.tail).text = [40]) := by rintro ⟨q1, q2, q3, q4⟩; simp_all
    refine x_skip <| block_n <| then_n <| sr rfl <| mP rfl ?_;have ltM_b2 := hb4.lt;have ltM_b3 := hb13.lt;have szlM := HC.size;refine w_plain rfl (st_callP (ags := [_]) rfl rfl T.ent82 rfl (gsimple_spec hg hz hR hq hmx ht) ?_ ?_)
    ·rintro _ w100 ⟨R9, e9, he9, hs9, rfl, c101⟩;replace HC := HC.trans c101 q4;refine then_p <| pp_panic ?_;exact ⟨_, _, by unfold commandG; rw [if_neg (by rw [hop]; simp), if_neg hrs, if_neg hnf]; exact he9, hs9, rfl, HC⟩
    rintro _ w102 ⟨cM, RM, vsM, heM, hsM, hlM, rfl, hvM, hR, c103⟩;obtain ⟨A1M, n1M, A2M, n2M, A3M, n3M, A4M, n4M, A5M, n5M, rfl, hAM, k1M, k2M, k3M, k4M, k5M⟩ := cm_open hvM;replace hvM := cmE.mono hvM (D' := (fun k => w79.heap.size ≤ k ∧ k < w102.heap.size)) (fun k hk h => ⟨h, hk⟩)
    have szM : w102.heap.size ≤ w102.heap.size := Nat.le_refl _;have szmM := c103.size;replace HC := HC.trans c103 q4;replace hb4 := hb4.tr1 c103 q0;refine Wp rfl <| st_st (v := .agg ⟨[_, _, _, _, _, _, _, _, _]⟩) T.size30 rfl rfl rfl hb4 ?_;intro w104 c105 hb106; simp only [setVs, setV] at hb106;clear hb4;replace HC := HC.then1 c105 ge_b2;replace hR := hR.tr c105 q2;replace hvM := Enc.chg hvM c105 q3;replace szM := Nat.le_trans szM c105.size;refine en <| x_ret <| pp_ret <| ret_cellA (vs := [_, _, _, _, _, _, _, _, _]) rfl rfl T.agg30 (hb106.cells (n := 9) rfl) rfl ?_;exact ⟨cM, RM, _, by unfold commandG; rw [if_neg (by rw [hop]; simp), if_neg hrs, if_neg hnf]; exact heM, hsM, hlM, rfl, cmE.mono hvM (fun k _ h => by have := h.1; show _ ≤ k; omega), hR, HC⟩
   try simp only [nm, ne_eq] at g87
   iterate 8 refine w_no 18 43 true ?_
   refine pF rfl rfl <| aB rfl <| en <| x_cond (t := false) rfl (fun h2 => ?_) (fun h2 => ?_)
   · exact absurd h2 (by decide)
   have hnf : ¬ ((hd Z).kind = 1 ∧ nameV (hd Z).text = true ∧ (hd Z.tail).kind = 2 ∧ (hd Z.tail).text = [40]) := by rintro ⟨q1, q2, q3, q4⟩; simp_all
   refine x_skip <| block_n <| then_n <| sr rfl <| mP rfl ?_;have ltM_b2 := hb4.lt;have ltM_b3 := hb13.lt;have szlM := HC.size;refine w_plain rfl (st_callP (ags := [_]) rfl rfl T.ent82 rfl (gsimple_spec hg hz hR hq hmx ht) ?_ ?_)
   ·rintro _ w107 ⟨R9, e9, he9, hs9, rfl, c108⟩;replace HC := HC.trans c108 q4;refine then_p <| pp_panic ?_;exact ⟨_, _, by unfold commandG; rw [if_neg (by rw [hop]; simp), if_neg hrs, if_neg hnf]; exact he9, hs9, rfl, HC⟩
   rintro _ w109 ⟨cM, RM, vsM, heM, hsM, hlM, rfl, hvM, hR, c110⟩;obtain ⟨A1M, n1M, A2M, n2M, A3M, n3M, A4M, n4M, A5M, n5M, rfl, hAM, k1M, k2M, k3M, k4M, k5M⟩ := cm_open hvM;replace hvM := cmE.mono hvM (D' := (fun k => w79.heap.size ≤ k ∧ k < w109.heap.size)) (fun k hk h => ⟨h, hk⟩)
   have szM : w109.heap.size ≤ w109.heap.size := Nat.le_refl _;have szmM := c110.size;replace HC := HC.trans c110 q4;replace hb4 := hb4.tr1 c110 q0;refine Wp rfl <| st_st (v := .agg ⟨[_, _, _, _, _, _, _, _, _]⟩) T.size30 rfl rfl rfl hb4 ?_;intro w111 c112 hb113; simp only [setVs, setV] at hb113;clear hb4;replace HC := HC.then1 c112 ge_b2;replace hR := hR.tr c112 q2;replace hvM := Enc.chg hvM c112 q3;replace szM := Nat.le_trans szM c112.size;refine en <| x_ret <| pp_ret <| ret_cellA (vs := [_, _, _, _, _, _, _, _, _]) rfl rfl T.agg30 (hb113.cells (n := 9) rfl) rfl ?_;exact ⟨cM, RM, _, by unfold commandG; rw [if_neg (by rw [hop]; simp), if_neg hrs, if_neg hnf]; exact heM, hsM, hlM, rfl, cmE.mono hvM (fun k _ h => by have := h.1; show _ ≤ k; omega), hR, HC⟩
  try simp only [nm, ne_eq] at g81
  iterate 8 refine w_no 8 33 true ?_
  refine pF rfl rfl <| mB rfl ?_;iterate 8 refine w_no 18 43 true ?_
  refine pF rfl rfl <| aB rfl <| en <| x_cond (t := false) rfl (fun h2 => ?_) (fun h2 => ?_)
  · exact absurd h2 (by decide)
  have hnf : ¬ ((hd Z).kind = 1 ∧ nameV (hd Z).text = true ∧ (hd Z.tail).kind = 2 ∧ (hd Z.tail).text = [40]) := by rintro ⟨q1, q2, q3, q4⟩; simp_all
  refine x_skip <| block_n <| then_n <| sr rfl <| mP rfl ?_;have ltM_b2 := hb4.lt;have ltM_b3 := hb13.lt;have szlM := HC.size;refine w_plain rfl (st_callP (ags := [_]) rfl rfl T.ent82 rfl (gsimple_spec hg hz hR hq hmx ht) ?_ ?_)
  ·rintro _ w114 ⟨R9, e9, he9, hs9, rfl, c115⟩;replace HC := HC.trans c115 q4;refine then_p <| pp_panic ?_;exact ⟨_, _, by unfold commandG; rw [if_neg (by rw [hop]; simp), if_neg hrs, if_neg hnf]; exact he9, hs9, rfl, HC⟩
  rintro _ w116 ⟨cM, RM, vsM, heM, hsM, hlM, rfl, hvM, hR, c117⟩;obtain ⟨A1M, n1M, A2M, n2M, A3M, n3M, A4M, n4M, A5M, n5M, rfl, hAM, k1M, k2M, k3M, k4M, k5M⟩ := cm_open hvM;replace hvM := cmE.mono hvM (D' := (fun k => w79.heap.size ≤ k ∧ k < w116.heap.size)) (fun k hk h => ⟨h, hk⟩)
  have szM : w116.heap.size ≤ w116.heap.size := Nat.le_refl _;have szmM := c117.size;replace HC := HC.trans c117 q4;replace hb4 := hb4.tr1 c117 q0;refine Wp rfl <| st_st (v := .agg ⟨[_, _, _, _, _, _, _, _, _]⟩) T.size30 rfl rfl rfl hb4 ?_;intro w118 c119 hb120; simp only [setVs, setV] at hb120;clear hb4;replace HC := HC.then1 c119 ge_b2;replace hR := hR.tr c119 q2;replace hvM := Enc.chg hvM c119 q3;replace szM := Nat.le_trans szM c119.size;refine en <| x_ret <| pp_ret <| ret_cellA (vs := [_, _, _, _, _, _, _, _, _]) rfl rfl T.agg30 (hb120.cells (n := 9) rfl) rfl ?_;exact ⟨cM, RM, _, by unfold commandG; rw [if_neg (by rw [hop]; simp), if_neg hrs, if_neg hnf]; exact heM, hsM, hlM, rfl, cmE.mono hvM (fun k _ h => by have := h.1; show _ ≤ k; omega), hR, HC⟩
 try simp only [nm, ne_eq] at g78
 iterate 3 refine w_no 3 28 true ?_
 refine pF rfl rfl <| mB rfl ?_;iterate 8 refine w_no 8 33 true ?_
 refine pF rfl rfl <| mB rfl ?_;iterate 8 refine w_no 18 43 true ?_
 refine pF rfl rfl <| aB rfl <| en <| x_cond (t := false) rfl (fun h2 => ?_) (fun h2 => ?_)
 · exact absurd h2 (by decide)
 have hnf : ¬ ((hd Z).kind = 1 ∧ nameV (hd Z).text = true ∧ (hd Z.tail).kind = 2 ∧ (hd Z.tail).text = [40]) := by rintro ⟨q1, q2, q3, q4⟩; simp_all
 refine x_skip <| block_n <| then_n <| sr rfl <| mP rfl ?_;have ltM_b2 := hb4.lt;have ltM_b3 := hb13.lt;have szlM := HC.size;refine w_plain rfl (st_callP (ags := [_]) rfl rfl T.ent82 rfl (gsimple_spec hg hz hR hq hmx ht) ?_ ?_)
 ·rintro _ w121 ⟨R9, e9, he9, hs9, rfl, c122⟩;replace HC := HC.trans c122 q4;refine then_p <| pp_panic ?_;exact ⟨_, _, by unfold commandG; rw [if_neg (by rw [hop]; simp), if_neg hrs, if_neg hnf]; exact he9, hs9, rfl, HC⟩
 rintro _ w123 ⟨cM, RM, vsM, heM, hsM, hlM, rfl, hvM, hR, c124⟩;obtain ⟨A1M, n1M, A2M, n2M, A3M, n3M, A4M, n4M, A5M, n5M, rfl, hAM, k1M, k2M, k3M, k4M, k5M⟩ := cm_open hvM;replace hvM := cmE.mono hvM (D' := (fun k => w14.heap.size ≤ k ∧ k < w123.heap.size)) (fun k hk h => ⟨h, hk⟩)
 have szM : w123.heap.size ≤ w123.heap.size := Nat.le_refl _;have szmM := c124.size;replace HC := HC.trans c124 q4;replace hb4 := hb4.tr1 c124 q0;refine Wp rfl <| st_st (v := .agg ⟨[_, _, _, _, _, _, _, _, _]⟩) T.size30 rfl rfl rfl hb4 ?_;intro w125 c126 hb127; simp only [setVs, setV] at hb127;clear hb4;replace HC := HC.then1 c126 ge_b2;replace hR := hR.tr c126 q2;replace hvM := Enc.chg hvM c126 q3;replace szM := Nat.le_trans szM c126.size;refine en <| x_ret <| pp_ret <| ret_cellA (vs := [_, _, _, _, _, _, _, _, _]) rfl rfl T.agg30 (hb127.cells (n := 9) rfl) rfl ?_;exact ⟨cM, RM, _, by unfold commandG; rw [if_neg (by rw [hop]; simp), if_neg hrs, if_neg hnf]; exact heM, hsM, hlM, rfl, cmE.mono hvM (fun k _ h => by have := h.1; show _ ≤ k; omega), hR, HC⟩
theorem gdeep {rb tb : Nat} (hq : QOk rb tb) : ∀ (m : Nat) (d : Int), d + (m : Int) = 64 → 0 ≤ d →
    (∀ (Z : List Tok) (w : World), GT Z → GB Z → opensB Z = true → RdAt w rb tb d Z → MaxT w → Tab w → CallP Tryz.prog 78 #[.pointer (some ⟨rb, 0, none⟩), .func (.func 79) #[.pointer (some ⟨rb, 0, none⟩)] #[]] w (fun v w' => OkC ((gramF m).1 Z) Z rb tb d w w' v) (fun v w' => ErT ((gramF m).1 Z) Z rb w w' v)) ∧
    (∀ (Z : List Tok) (w : World), GT Z → GB Z → (hd Z).kind = 1 → (hd Z.tail).kind = 2 → RdAt w rb tb d Z → MaxT w → Tab w → CallP Tryz.prog 78 #[.pointer (some ⟨rb, 0, none⟩), .func (.func 81) #[.pointer (some ⟨rb, 0, none⟩)] #[]] w (fun v w' => OkC ((gramF m).2 Z) Z rb tb d w w' v) (fun v w' => ErT ((gramF m).2 Z) Z rb w w' v))
  | 0, d, hd, h0 => ⟨fun Z w hg hz hop hR hmx ht => (gwithin_deep hg hR hq hmx ht q0).mono (fun _ _ h => h.elim) (fun _ _ h => h), fun Z w hg hz h1 h2 hR hmx ht => (gwithin_deep hg hR hq hmx ht q0).mono (fun _ _ h => h.elim) (fun _ _ h => h)⟩
  | m + 1, d, hd, h0 => by
    obtain ⟨ih1, ih2⟩ := gdeep hq m (d + 1) q0 q0;have hcom : ReadsC 64 (comG m) rb tb (d + 1) := fun Z w hg hz hR hq hmx ht => gcommand_spec hg hz hR hq hmx ht ih1 ih2
    exact ⟨fun Z w hg hz hop hR hmx ht => gwithin_ok (g := compG (comG m)) hg hR hq hmx ht T.ent79 ⟨h0, by omega⟩ fun w1 hR1 hmx1 ht1 => gcomp_spec hg hz hR1 hq hmx1 ht1 hcom (opens_kind hop),
      fun Z w hg hz h1 h2 hR hmx ht => gwithin_ok (g := funcG (gramF m).1) hg hR hq hmx ht T.ent81 ⟨h0, by omega⟩ fun w1 hR1 hmx1 ht1 => gfunc_spec hg hz hR1 hq hmx1 ht1 ih1 h1 h2⟩
theorem gcom {rb tb : Nat} (hq : QOk rb tb) : ReadsC 64 (comG 64) rb tb 0 := fun Z w hg hz hR hq hmx ht =>
  gcommand_spec hg hz hR hq hmx ht (gdeep hq 64 0 (by decide) (by decide)).1 (gdeep hq 64 0 (by decide) (by decide)).2
end Go.Proofs.YtghjmiggobpmoaaGreatDoor.K
namespace Go.Proofs.YtghjmiggobpmoaaGreatDoor.K
open Go Go.RowKit
theorem next_short {r : Bytes} (hb : r ≠ [] → byte r 0 ≠ 32 ∧ byte r 0 ≠ 9 ∧ byte r 0 ≠ 35) (i : Int) (he : (nextT r i).2.2 = 0) : (nextT r i).1.text.length ≤ r.length := by
  by_cases hr : r = []
  · unfold nextT; rw [if_pos hr]; exact Nat.zero_le _
  rcases nextT_ok hr (hb hr) i with ⟨h, _⟩ | ⟨_, _, _, h2, h3, _⟩
  · exact absurd he h
  rw [h3, List.length_take]; omega
theorem scan_few : ∀ (k : Nat) (r : Bytes) (i : Int) (out : List Tok) (ws : List (Nat × Bool)), r.length < k → r.length ≤ 16384 → (∀ x, x ∈ out.map skel → x.2.1.length ≤ 16384) →
    (scanF k r i out ws).2.2 = 0 → (∀ x, x ∈ (scanF k r i out ws).1.map skel → x.2.1.length ≤ 16384) ∧ (scanF k r i out ws).1.length ≤ out.length + r.length + 1
  | 0, _, _, _, _, h, _, _, _ => absurd h (Nat.not_lt_zero _)
  | k + 1, r, i, out, ws, hk, hl, ho, he => by
    have hbl := blankL_le r.length r;simp only [scanF] at he ⊢;have hbs := blankL_stop r.length r (Nat.le_refl _);rw [show blankL r.length r = blankV r from rfl] at hbl hbs;have hsh := next_short (r := r.drop (blankV r)) (fun h => hbs.resolve_left h) (i + blankV r)
    have hlt : (r.drop (blankV r)).length = r.length - blankV r := by simp
    generalize hz : nextT (r.drop (blankV r)) (i + blankV r) = z at *
    split at he
    · exact absurd he (by assumption)
    rename_i h0
    rw [if_neg h0]
    have hsh := hsh (by simpa using h0)
    have ho2 : ∀ x, x ∈ (out ++ [z.1]).map skel → x.2.1.length ≤ 16384 := fun x hx => by
      rw [List.map_append] at hx
      rcases List.mem_append.1 hx with h | h
      · exact ho x h
      rw [List.mem_singleton.1 h]; show z.1.text.length ≤ _; omega
    split at he
    · rename_i hk0
      rw [if_pos hk0]
      refine ⟨by rw [linesV_skel]; exact ho2, ?_⟩
      show (linesV _ _ _).1.length ≤ _
      rw [linesV_len]; simp only [List.length_append, List.length_cons, List.length_nil]; omega
    rename_i hk0
    rw [if_neg hk0]
    have hr : r.drop (blankV r) ≠ [] := fun e => by
      have h9 : (nextT (r.drop (blankV r)) (i + blankV r)).1.kind = 0 := by unfold nextT; rw [if_pos e]
      rw [hz] at h9; exact hk0 h9
    have hrp := List.length_pos_iff.2 hr
    have hn1 : 1 ≤ z.2.1 ∧ z.2.1 ≤ (r.drop (blankV r)).length := by
      rcases nextT_ok hr (hbs.resolve_left hr) (i + blankV r) with ⟨h, _⟩ | ⟨_, _, h1, h2, _⟩
      · rw [hz] at h; exact absurd (by simpa using h0) h
      rw [hz] at h1 h2; exact ⟨h1, h2⟩
    split at he
    · rename_i hk3
      rw [if_pos hk3]
      have h7 := scan_few k (((r.drop (blankV r)).drop z.2.1).drop (linesV (out ++ [z.1]) (pushW out ws z.1) ((r.drop (blankV r)).drop z.2.1)).2) (i + blankV r + z.2.1 + (linesV (out ++ [z.1]) (pushW out ws z.1) ((r.drop (blankV r)).drop z.2.1)).2) (linesV (out ++ [z.1]) (pushW out ws z.1) ((r.drop (blankV r)).drop z.2.1)).1 [] (by simp only [List.length_drop] at hn1 ⊢; omega) (by simp only [List.length_drop] at hn1 ⊢; omega) (by rw [linesV_skel]; exact ho2) he
      refine ⟨h7.1, Nat.le_trans h7.2 ?_⟩;rw [linesV_len];simp only [List.length_drop, List.length_append, List.length_cons, List.length_nil] at hn1 ⊢; omega
    rename_i hk3
    rw [if_neg hk3]
    have h7 := scan_few k ((r.drop (blankV r)).drop z.2.1) (i + blankV r + z.2.1) (out ++ [z.1]) (pushW out ws z.1) (by simp only [List.length_drop] at hn1 ⊢; omega) (by simp only [List.length_drop] at hn1 ⊢; omega) ho2 he
    refine ⟨h7.1, Nat.le_trans h7.2 ?_⟩;simp only [List.length_drop, List.length_append, List.length_cons, List.length_nil] at hn1 ⊢; omega
theorem tokens_few {s : Bytes} (he : (tokensV s).2.2 = 0) : (tokensV s).1.length ≤ 20000 ∧ ∀ t, t ∈ (tokensV s).1 → t.text.length ≤ 20000 := by
  unfold tokensV at he ⊢
  split at he
  · exact absurd he (by decide)
  rename_i h
  rw [if_neg h]
  have h7 := scan_few (s.length + 1) s 0 [] [] (Nat.lt_succ_self _) (by omega) (fun x hx => by cases hx) he
  refine ⟨by have := h7.2; simp only [List.length_nil] at this; omega, fun t ht => ?_⟩
  have := h7.1 (skel t) (List.mem_map_of_mem ht);exact Nat.le_trans this (by omega)
theorem gramV_tok {s : Bytes} (h : (tokensV s).2.2 ≠ 0) : gramV s = (zCm, (tokensV s).2.1, (tokensV s).2.2) := by unfold gramV; rw [if_pos h]
theorem gramV_ok {s : Bytes} {c : Cm} {R : List Tok} (h : (tokensV s).2.2 = 0) (hg : gramG (tokensV s).1 = .ok c R) : gramV s = (c, 0, 0) := by unfold gramV; rw [if_neg (by rw [h]; simp), hg]
theorem gramV_er {s : Bytes} {R : List Tok} {e : Int} (h : (tokensV s).2.2 = 0) (hg : gramG (tokensV s).1 = .er R e) : gramV s = (zCm, (hd R).at_, e) := by unfold gramV; rw [if_neg (by rw [h]; simp), hg]
theorem gramG_zero {T : List Tok} (h : (hd (linesG T)).kind = 0) : gramG T = .ok zCm (linesG T) := by unfold gramG; rw [if_pos h]; show (if _ then _ else _) = _; rw [if_pos h]
theorem gramG_ok {T R : List Tok} {c : Cm} (h : (hd (linesG T)).kind ≠ 0) (hl : listG (comG 64) (linesG T) = .ok c R) (hk : (hd R).kind = 0) : gramG T = .ok c R := by unfold gramG; rw [if_neg h, hl]; show (if _ then _ else _) = _; rw [if_pos hk]
theorem gramG_end {T R : List Tok} {c : Cm} (h : (hd (linesG T)).kind ≠ 0) (hl : listG (comG 64) (linesG T) = .ok c R) (hk : (hd R).kind ≠ 0) : gramG T = .er R 101 := by unfold gramG; rw [if_neg h, hl]; show (if _ then _ else _) = _; rw [if_neg hk]
theorem gramG_er {T R : List Tok} {e : Int} (h : (hd (linesG T)).kind ≠ 0) (hl : listG (comG 64) (linesG T) = .er R e) : gramG T = .er R e := by unfold gramG; rw [if_neg h, hl]; rfl
open Go Go.Proofs Go.RowKit
theorem sl_block {α : Type} {sz : Nat} {f : α → List Value} {h1 h2 h3} {w : World} {D : Nat → Prop} {A : Option Addr} {xs : List α} (h : Sl (Enc.flat sz f h1 h2 h3) w D A xs) (hne : xs ≠ []) : ∃ tb, D tb ∧ tb < w.heap.size ∧ Sl (Enc.flat sz f h1 h2 h3) w (fun k => k = tb) A xs := by
  rcases h with h | ⟨b, o, q1, q2, q3, q4⟩
  · exact absurd h hne
  exact ⟨b, q3, q2, .inr ⟨b, o, q1, q2, rfl, q4⟩⟩
def ParsC (w w' : World) (r : Cm × Int × Int) (v : Value) : Prop := ∃ vs, v = .tuple ⟨[.agg ⟨vs⟩, .int .i64 r.2.1, .int .i64 r.2.2]⟩ ∧ cmE.R w' (fun k => w.heap.size ≤ k) r.1 vs ∧ Chg [] w w'
def PlR (s : Bytes) : Prop := (tokensV s).2.2 = 0 → (gramV s).2.2 ≠ 0 → ∃ t, t ∈ (tokensV s).1 ∧ (gramV s).2.1 = t.at_
theorem zero_R {w : World} {D : Nat → Prop} : cmE.R w D zCm [.int .i64 0, S [], .bool false, .bool false, .slice none 0 0, .slice none 0 0, .slice none 0 0, .slice none 0 0, .slice none 0 0] := cm_shut (c := zCm) ⟨.nil, .nil, .nil, .nil, .nil⟩ ⟨Nat.le_refl _, by decide⟩ ⟨Nat.le_refl _, by decide⟩ ⟨Nat.le_refl _, by decide⟩ ⟨Nat.le_refl _, by decide⟩ ⟨Nat.le_refl _, by decide⟩
theorem gP1_ret {b2 b3 b4 : Nat} (w : World) : CallsDIn Fence.wide 0 Tryz.prog 13 #[.pointer (some ⟨b2, 0, none⟩), .pointer (some ⟨b3, 0, none⟩), .pointer (some ⟨b4, 0, none⟩)] .returning w fun e u w' => (∃ v, e = .returned v ∧ Chg [] w w') ∧ u = .returning := by
 refine callsD_recover (args := [_, _, _]) Tryz.func13 rfl ⟨rfl, rfl, rfl⟩ ⟨rfl, rfl, rfl⟩ ⟨rfl, rfl⟩ (Nat.le_of_ble_eq_true rfl) (.inl ⟨rfl, rfl, rfl⟩) ?_;have HC : Chg [] w w := .refl _;refine sr rfl <| mv (v := .nilIface) rfl <| Wp rfl <| st_ineq0 T.if20 rfl <| en <| x_cond (t := false) rfl (fun h0 => ?_) (fun h0 => ?_)
 · exact absurd h0 (by decide)
 refine x_skip <| ret_none_n rfl ?_;exact HC
theorem gP1_pan {b2 b3 b4 : Nat} {R : List Tok} {e : Int} {x0 x1 x2 x3 x4 x5 x6 x7 x8 y z : Value} (w : World) (hy2 : Blk w b2 [x0, x1, x2, x3, x4, x5, x6, x7, x8] 30) (hy3 : Blk w b3 [y] 3) (hy4 : Blk w b4 [z] 31) (h23 : b2 ≠ b3) (h24 : b2 ≠ b4) (h34 : b3 ≠ b4) : CallsDIn Fence.wide 0 Tryz.prog 13 #[.pointer (some ⟨b2, 0, none⟩), .pointer (some ⟨b3, 0, none⟩), .pointer (some ⟨b4, 0, none⟩)] (.panicking (pn (wrongV R e))) w fun en u w' => (∃ v, en = .returned v ∧ Blk w' b2 [.int .i64 0, S [], .bool false, .bool false, .slice none 0 0, .slice none 0 0, .slice none 0 0, .slice none 0 0, .slice none 0 0] 30 ∧ Blk w' b3 [.int .i64 (hd R).at_] 3 ∧ Blk w' b4 [.int .i64 e] 31 ∧ Chg [b2, b3, b4] w w') ∧ u = .panicking [{ v := wrongV R e, recovered := true }] := by
 have hne23 := h23; have hne24 := h24; have hne34 := h34;refine callsD_recover (args := [_, _, _]) Tryz.func13 rfl ⟨rfl, rfl, rfl⟩ ⟨rfl, rfl, rfl⟩ ⟨rfl, rfl⟩ (Nat.le_of_ble_eq_true rfl) (.inr ⟨_, rfl, rfl, rfl⟩) ?_;have HC : Chg [b2, b3, b4] w w := .refl _;refine sr rfl <| mv (v := .iface _ _) rfl <| Wp rfl <| st_ineq T.if20 rfl <| en <| x_cond (t := true) rfl (fun h0 => ?_) (fun h0 => ?_)
 rotate_left
 · exact absurd h0 (by decide)
 refine sr rfl <| mv (v := .iface _ _) rfl <| Wp rfl <| st_assert (v := .agg ⟨[.int _ _, .int _ _]⟩) T.ux45 rfl rfl rfl <| mv (v := .tuple ⟨[_, _]⟩) rfl <| Wp rfl <| st_extract (vs := [_, _]) (v := .agg ⟨[.int _ _, .int _ _]⟩) rfl rfl <| Wp rfl <| st_extract (vs := [_, _]) (v := .bool _) rfl rfl <| Wp rfl <| st_alloc T.zero45 ?_;intro bw w1 e2 c3 hb4;have ge_bw := gB e2 HC.size;have ne_b2_bw := nF e2 hy2.ne_size;have ne_b3_bw := nF e2 hy3.ne_size;have ne_b4_bw := nF e2 hy4.ne_size;replace HC := HC.then c3;replace hy2 := hy2.tr0 c3;replace hy3 := hy3.tr0 c3;replace hy4 := hy4.tr0 c3;clear e2;refine Wp rfl <| st_st (v := .agg ⟨[_, _]⟩) T.size45 rfl rfl rfl hb4 ?_;intro w5 c6 hb7; simp only [setVs, setV] at hb7;clear hb4;replace HC := HC.then1 c6 ge_bw;replace hy2 := hy2.tr1 c6 ne_b2_bw;replace hy3 := hy3.tr1 c6 ne_b3_bw;replace hy4 := hy4.tr1 c6 ne_b4_bw;refine aB rfl <| en <| x_seq <| sr rfl <| mB rfl <| Wp rfl <| st_not rfl <| en <| x_cond rfl (fun h1 => ?_) (fun h1 => ?_)
 ·try simp only [nm, ne_eq] at h1
  exact absurd h1 (by simp)
 try simp only [nm, ne_eq] at h1
 refine x_skip <| then_n <| x_draw [(0, 0), (1, 0), (2, 0), (3, 0), (4, 0), (5, 1), (6, 1), (7, 2)] T.mixed rfl rfl rfl (fun W => W.heap[b4]? = w5.heap[b4]? ∧ W.heap[bw]? = w5.heap[bw]? ∧ True) ⟨rfl, rfl, trivial⟩ ?_
 have o10 := hy4;have o11 := hb7;have c9 := Chg.drew w5;generalize World.drew w5 = w8 at c9 ⊢;replace HC := HC.then c9;replace hy2 := hy2.tr0 c9;replace hy3 := hy3.tr0 c9;replace hy4 := hy4.tr0 c9;replace hb7 := hb7.tr0 c9;refine sq_q rfl (fun W hT => r_bld (ps := []) (vs := [_, _, _, _, _, _, _, _, _]) T.bld30 rfl) <| sq_q rfl (fun W hT => r_fieldAddr T.fld45_0 rfl) <| sq_q rfl (fun W hT => r_load1 (v := .int _ _) T.one3 rfl (Blk.cell (show Blk W bw _ _ from hT.2.1.trans o11) rfl)) <| sq_q rfl (fun W hT => r_fieldAddr T.fld45_1 rfl) <| sq_q rfl (fun W hT => r_load1 (v := .int _ _) T.one31 rfl (Blk.cell (show Blk W bw _ _ from hT.2.1.trans o11) rfl)) <| sq_store1 rfl T.size30 (v := .agg ⟨[.int _ _, S _, .bool _, .bool _, .slice _ _ _, .slice _ _ _, .slice _ _ _, .slice _ _ _, .slice _ _ _]⟩) rfl rfl rfl hy2 rfl (Nat.le_of_ble_eq_true rfl) q5 rfl ?_
 intro w12 c13 hb14; simp only [setVs, setV] at hb14;clear hy2;replace HC := HC.trans c13 q4;replace hy3 := hy3.tr1 c13 q0;replace hy4 := hy4.tr1 c13 q0;replace hb7 := hb7.tr1 c13 (Ne.symm ne_b2_bw);refine ⟨_, fun _ h => h, ⟨(Eq.trans hy4 o10.symm), (Eq.trans hb7 o11.symm), trivial⟩, ?_⟩
 refine sq_store1 rfl T.size3 (v := .int _ _) rfl rfl rfl hy3 rfl (Nat.le_of_ble_eq_true rfl) q5 rfl ?_;intro w15 c16 hb17; simp only [setVs, setV] at hb17;clear hy3;replace HC := HC.trans c16 q4;replace hy4 := hy4.tr1 c16 q0;replace hb7 := hb7.tr1 c16 (Ne.symm ne_b3_bw);replace hb14 := hb14.tr1 c16 q0;refine ⟨_, fun _ h => h, ⟨(Eq.trans hy4 o10.symm), (Eq.trans hb7 o11.symm), trivial⟩, ?_⟩
 refine sq_store2 rfl T.size31 (v := .int _ _) rfl rfl rfl hy4 rfl (Nat.le_of_ble_eq_true rfl) q5 rfl ?_;intro w18 c19 hb20; simp only [setVs, setV] at hb20;clear hy4;replace HC := HC.trans c19 q4;replace hb14 := hb14.tr1 c19 q0;replace hb17 := hb17.tr1 c19 q0;clear o10;clear o11;refine sq_nil <| ret_none_n rfl ?_;exact ⟨hb14, hb17, hb20, HC⟩
theorem gParse_spec (s : Bytes) (w : World) (hs : s.length < 4294967281) (hmx : MaxT w) (ht : Tab w) : CallR Tryz.prog 7 #[S s] w fun v w' => ParsC w w' (gramV s) v ∧ PlR s := by
 refine callR_of_wpD (args := [_]) Tryz.func7 rfl (Nat.le_of_ble_eq_true rfl) ?_;have HC : Chg [] w w := .refl _;have ht1 := ht.lt;have hm1 := hmx.lt;refine sr rfl <| Wp rfl <| st_alloc T.zero30 ?_;intro b2 w1 e2 c3 hb4;have ge_b2 := gB e2 HC.size;replace HC := HC.then c3;replace ht := ht.tr0 c3;replace hmx := hmx.tr0 c3;clear e2;refine Wp rfl <| st_alloc T.zero3 ?_;intro b3 w5 e6 c7 hb8;have ge_b3 := gB e6 HC.size;have ne_b2_b3 := nF e6 hb4.ne_size;replace HC := HC.then c7;replace ht := ht.tr0 c7;replace hmx := hmx.tr0 c7;replace hb4 := hb4.tr0 c7;clear e6;refine Wp rfl <| st_alloc T.zero31 ?_;intro b4 w9 e10 c11 hb12;have ge_b4 := gB e10 HC.size;have ne_b2_b4 := nF e10 hb4.ne_size;have ne_b3_b4 := nF e10 hb8.ne_size;replace HC := HC.then c11;replace ht := ht.tr0 c11;replace hmx := hmx.tr0 c11;replace hb4 := hb4.tr0 c11;replace hb8 := hb8.tr0 c11;clear e10;refine en <| sr rfl <| mS rfl ?_;have ltk_b2 := hb4.lt;have ltk_b3 := hb8.lt;have ltk_b4 := hb12.lt;have szk := HC.size;refine Wp rfl <| st_call (ags := [_]) rfl rfl T.ent12 rfl (Tokens_spec s _ hs hmx ht) ?_;rintro _ w13 ⟨At, capt, rfl, hct, hSt, c14⟩;have szt : w9.heap.size ≤ w13.heap.size := c14.size;replace HC := HC.then c14;replace ht := ht.tr0 c14;replace hmx := hmx.tr0 c14;replace hb4 := hb4.tr0 c14;replace hb8 := hb8.tr0 c14;replace hb12 := hb12.tr0 c14;refine mv (v := .tuple ⟨[_, _, _]⟩) rfl <| Wp rfl <| st_extract (vs := [_, _, _]) (v := .slice _ _ _) rfl rfl <| Wp rfl <| st_extract (vs := [_, _, _]) (v := .int _ _) rfl rfl <| Wp rfl <| st_extract (vs := [_, _, _]) (v := .int _ _) rfl rfl <| aL rfl <| Wp rfl <| st_st (v := .int _ _) T.size3 rfl rfl rfl hb8 ?_;intro w15 c16 hb17; simp only [setVs, setV] at hb17;clear hb8;replace HC := HC.then1 c16 ge_b3;replace ht := ht.tr c16 q1;replace hmx := hmx.tr c16 q1;replace hb4 := hb4.tr1 c16 ne_b2_b3;replace hb12 := hb12.tr1 c16 (Ne.symm ne_b3_b4);replace hSt := hSt.tr c16 (by intro k hx hD; simp only [List.mem_singleton] at hx; subst hx; omega)
 refine Wp rfl <| st_st (v := .int _ _) T.size31 rfl rfl rfl hb12 ?_;intro w18 c19 hb20; simp only [setVs, setV] at hb20;clear hb12;replace HC := HC.then1 c19 ge_b4;replace ht := ht.tr c19 q1;replace hmx := hmx.tr c19 q1;replace hb4 := hb4.tr1 c19 ne_b2_b4;replace hSt := hSt.tr c19 (by intro k hx hD; simp only [List.mem_singleton] at hx; subst hx; omega)
 replace hb17 := hb17.tr1 c19 ne_b3_b4;refine en <| x_seq <| sr rfl <| lI T.one31 rfl (hb20.cell rfl) <| Wp rfl <| st_neq rfl rfl <| en <| x_cond rfl (fun h0 => ?_) (fun h0 => ?_)
 ·try simp only [nm, ne_eq] at h0
  have hte : (tokensV s).2.2 ≠ 0 := by first | assumption | simp_all
  refine x_seq <| x_open [0, 1, 2] (.bar 3 [1, 2] [] (.bar 4 [2] [] (.bar 5 [] [] (.stop)))) T.mixed rfl rfl (fun W => W.heap[b2]? = w18.heap[b2]? ∧ W.heap[b3]? = w18.heap[b3]? ∧ W.heap[b4]? = w18.heap[b4]? ∧ True) ⟨rfl, rfl, rfl, trivial⟩ ?_
  have o23 := hb4;have o24 := hb17;have o25 := hb20;have c22 := Chg.drew w18;generalize World.drew w18 = w21 at c22 ⊢;replace HC := HC.then c22;replace hb4 := hb4.tr0 c22;replace hb17 := hb17.tr0 c22;replace hb20 := hb20.tr0 c22;refine sq_q rfl (fun W hT => r_bld (ps := []) (vs := [_, _, _, _, _, _, _, _, _]) T.bld30 rfl) <| sq_q rfl (fun W hT => r_load1 (v := .int _ _) T.one3 rfl (Blk.cell (show Blk W b3 _ _ from hT.2.1.trans o24) rfl)) <| sq_q rfl (fun W hT => r_load1 (v := .int _ _) T.one31 rfl (Blk.cell (show Blk W b4 _ _ from hT.2.2.1.trans o25) rfl)) <| sq_nil ?_
  have o26 := hb17;have o27 := hb20;refine tr_bar (fun W => W.heap[b3]? = w21.heap[b3]? ∧ W.heap[b4]? = w21.heap[b4]? ∧ True) ⟨rfl, rfl, trivial⟩ ?_ ?_
  · exact xq_yes rfl rfl (fun W hT => r_load1 (v := .int _ _) T.one3 rfl (Blk.cell (show Blk W b3 _ _ from hT.1.trans o26) rfl)) (fun k hk => by cases hk; rfl) <| xq_yes rfl rfl (fun W hT => r_load1 (v := .int _ _) T.one31 rfl (Blk.cell (show Blk W b4 _ _ from hT.2.1.trans o27) rfl)) (fun k hk => by cases hk; rfl) <| xq_nil
  refine sq_store1 rfl T.size30 (v := .agg ⟨[.int _ _, S _, .bool _, .bool _, .slice _ _ _, .slice _ _ _, .slice _ _ _, .slice _ _ _, .slice _ _ _]⟩) rfl rfl rfl hb4 rfl (Nat.le_of_ble_eq_true rfl) q5 rfl ?_;intro w28 c29 hb30; simp only [setVs, setV] at hb30;clear hb4;replace HC := HC.then1 c29 ge_b2;replace hb17 := hb17.tr1 c29 (Ne.symm ne_b2_b3);replace hb20 := hb20.tr1 c29 (Ne.symm ne_b2_b4);refine ext_T (b := b2) ⟨(Eq.trans hb17 o26.symm), (Eq.trans hb20 o27.symm), trivial⟩ ?_;have o31 := hb30;refine sq_nil ?_;have o32 := hb20;have o33 := hb30;refine tr_bar (fun W => W.heap[b4]? = w28.heap[b4]? ∧ W.heap[b2]? = w28.heap[b2]? ∧ True) ⟨rfl, rfl, trivial⟩ ?_ ?_
  · exact xq_yes rfl rfl (fun W hT => r_load1 (v := .int _ _) T.one31 rfl (Blk.cell (show Blk W b4 _ _ from hT.1.trans o32) rfl)) (fun k hk => by cases hk; rfl) <| xq_nil
  refine sq_store1 rfl T.size3 (v := .int _ _) rfl rfl rfl hb17 rfl (Nat.le_of_ble_eq_true rfl) q5 rfl ?_;intro w34 c35 hb36; simp only [setVs, setV] at hb36;clear hb17;replace HC := HC.then1 c35 ge_b3;replace hb20 := hb20.tr1 c35 (Ne.symm ne_b3_b4);replace hb30 := hb30.tr1 c35 ne_b2_b3;refine ext_T (b := b3) ⟨(Eq.trans hb20 o32.symm), (Eq.trans hb30 o33.symm), trivial⟩ ?_;have o37 := hb36;refine sq_nil ?_;have o38 := hb30;have o39 := hb36;refine tr_bar (fun W => W.heap[b2]? = w34.heap[b2]? ∧ W.heap[b3]? = w34.heap[b3]? ∧ True) ⟨rfl, rfl, trivial⟩ ?_ ?_
  · exact xq_nil
  refine sq_store1 rfl T.size31 (v := .int _ _) rfl rfl rfl hb20 rfl (Nat.le_of_ble_eq_true rfl) q5 rfl ?_;intro w40 c41 hb42; simp only [setVs, setV] at hb42;clear hb20;replace HC := HC.then1 c41 ge_b4;replace hb30 := hb30.tr1 c41 ne_b2_b4;replace hb36 := hb36.tr1 c41 ne_b3_b4;refine ext_T (b := b4) ⟨(Eq.trans hb30 o38.symm), (Eq.trans hb36 o39.symm), trivial⟩ ?_;have o43 := hb42;refine sq_nil ?_;clear o38;clear o39;clear o43;refine tr_stop <| then_n <| x_ret <| then_r <| d_ret0 <| ret_many (vs := [.agg ⟨[_, _, _, _, _, _, _, _, _]⟩, .int _ _, .int _ _]) rfl ⟨⟨_, _, rfl, run_loadVarA T.agg30 (hb30.cells (n := 9) rfl) rfl⟩, ⟨⟨_, _, rfl, run_loadVar1 T.one3 (hb36.cell rfl)⟩, ⟨⟨_, _, rfl, run_loadVar1 T.one31 (hb42.cell rfl)⟩, trivial⟩⟩⟩ (Nat.le_of_ble_eq_true rfl) ?_;have hv9 := gramV_tok hte;have hpl : PlR s := fun h _ => absurd h hte
  refine ⟨?_, hpl⟩;rw [hv9];exact ⟨_, rfl, zero_R, HC⟩
 try simp only [nm, ne_eq] at h0
 have hte : (tokensV s).2.2 = 0 := by first | assumption | simp_all
 have hg := tokens_good hte;have hz : GB (tokensV s).1 := tokens_few hte;refine x_skip <| then_n <| sr rfl <| Wp rfl <| st_makeFunc <| Wp rfl <| st_defer (cap := #[.pointer (some ⟨b2, 0, none⟩), .pointer (some ⟨b3, 0, none⟩), .pointer (some ⟨b4, 0, none⟩)]) rfl rfl rfl <| en <| x_seq ?_;obtain ⟨tb, htb, htl, hSb⟩ := sl_block hSt hg.ne;refine x_region rfl <| mL rfl <| Wp rfl <| st_bld (ps := [(0, .tmp 19)]) (vs := [.slice _ _ _, .int _ _]) T.bld49 rfl <| Wp rfl <| st_box (v := .agg ⟨[.slice _ _ _, .int _ _]⟩) (vs := [_, _]) rfl rfl ?_;intro rb w44 e45 c46 hb47;have ge_rb : w.heap.size ≤ rb := by rw [e45]; exact HC.size
 have ne_b2_rb := nF e45 hb4.ne_size;have ne_b3_rb := nF e45 hb17.ne_size;have ne_b4_rb := nF e45 hb20.ne_size;have nt_rb : tb < rb := by rw [e45]; exact htl
 replace HC := HC.then c46;replace ht := ht.tr0 c46;replace hmx := hmx.tr0 c46;replace hb4 := hb4.tr0 c46;replace hb17 := hb17.tr0 c46;replace hb20 := hb20.tr0 c46;replace hSb := hSb.tr0 c46;replace htl := Nat.lt_of_lt_of_le htl c46.size;clear e45;refine aP rfl <| en <| x_seq <| x_seq ?_;have hR : RdAt w44 rb tb 0 (tokensV s).1 := ⟨At, capt, hb47, ⟨hct, trivial⟩, hSb⟩;have hq : QOk rb tb := ⟨by omega, by omega, by omega⟩
 have hrl := hR.lt hg;refine x_region rfl <| mP rfl <| Wp rfl <| st_call (ags := [_]) rfl rfl T.ent14 rfl (glines_spec (Z := (tokensV s).1) hg hR hq) ?_;rintro _ w48 ⟨hR, c49⟩;replace HC := HC.then1 c49 ge_rb;replace ht := ht.tr c49 q1;replace hmx := hmx.tr c49 q1;replace hb4 := hb4.tr1 c49 ne_b2_rb;replace hb17 := hb17.tr1 c49 ne_b3_rb;replace hb20 := hb20.tr1 c49 ne_b4_rb;replace htl := Nat.lt_of_lt_of_le htl c49.size;refine en <| x_seq ?_;have hsL := lines_suf hg;have hgL := hsL.good;have hzL := hsL.gb hz;refine x_region rfl <| mP rfl <| Wp rfl <| st_call (ags := [_]) rfl rfl T.ent15 rfl (gtok_spec (Z := (linesG (tokensV s).1)) hgL hR) ?_;rintro _ w50 ⟨rfl, c51⟩;replace HC := HC.then c51;replace ht := ht.tr0 c51;replace hmx := hmx.tr0 c51;replace hb4 := hb4.tr0 c51;replace hb17 := hb17.tr0 c51;replace hb20 := hb20.tr0 c51;replace htl := Nat.lt_of_lt_of_le htl c51.size;replace hR := hR.tr0 c51;refine Wp rfl <| st_field (v := .int _ _) T.fone51_0 rfl rfl <| Wp rfl <| st_neq rfl rfl <| en <| x_cond rfl (fun h1 => ?_) (fun h1 => ?_)
 ·try simp only [nm, ne_eq] at h1
  have hk0 : (hd (linesG (tokensV s).1)).kind ≠ 0 := by first | assumption | simp_all
  have hsL1 := hsL;refine x_region rfl <| mP rfl ?_;have ltM_b2 := hb4.lt;have ltM_b3 := hb17.lt;have ltM_b4 := hb20.lt;have szlM := HC.size;refine w_plain rfl (st_callP (ags := [_]) rfl rfl T.ent16 rfl (glist_spec hgL hzL hR hq hmx ht (gcom hq)) ?_ ?_)
  ·rintro _ w52 ⟨R9, e9, he9, hs9, rfl, c53⟩;replace HC := HC.then1 c53 ge_rb;replace hb4 := hb4.tr1 c53 ne_b2_rb;replace hb17 := hb17.tr1 c53 ne_b3_rb;replace hb20 := hb20.tr1 c53 ne_b4_rb;replace htl := Nat.lt_of_lt_of_le htl c53.size;refine then_p <| d_panic (xs := #[.pointer (some ⟨b2, 0, none⟩), .pointer (some ⟨b3, 0, none⟩), .pointer (some ⟨b4, 0, none⟩)]) T.ent13 (by simp) <| CallsDIn.mono (gP1_pan _ hb4 hb17 hb20 ne_b2_b3 ne_b2_b4 ne_b3_b4) ?_
   rintro _ _ w54 ⟨⟨v9, rfl, hq2, hq3_, hq4, c55⟩, rfl⟩;refine ⟨⟨v9, rfl⟩, rfl, ?_⟩;replace HC := HC.trans c55 (by intro x hx; simp only [List.mem_cons, List.mem_nil_iff, or_false] at hx; rcases hx with h1 | h1 | h1 <;> first | (left; simp [h1]; done) | (right; rw [h1]; omega))
   refine ret_many (vs := [.agg ⟨[_, _, _, _, _, _, _, _, _]⟩, .int _ _, .int _ _]) rfl ⟨⟨_, _, rfl, run_loadVarA T.agg30 (hq2.cells (n := 9) rfl) rfl⟩, ⟨⟨_, _, rfl, run_loadVar1 T.one3 (hq3_.cell rfl)⟩, ⟨⟨_, _, rfl, run_loadVar1 T.one31 (hq4.cell rfl)⟩, trivial⟩⟩⟩ (Nat.le_of_ble_eq_true rfl) ?_;have hv9 := gramV_er hte (gramG_er hk0 he9);have hpl : PlR s := fun _ _ => ⟨hd R9, (hs9.trans hsL).suf.subset (hd_mem hs9.good), by rw [hv9]⟩
   refine ⟨?_, hpl⟩;rw [hv9];exact ⟨_, rfl, zero_R, HC⟩
  rintro _ w56 ⟨cM, RL, vsM, heM, hsM, hlM, rfl, hvM, hR, c57⟩;obtain ⟨A1M, n1M, A2M, n2M, A3M, n3M, A4M, n4M, A5M, n5M, rfl, hAM, k1M, k2M, k3M, k4M, k5M⟩ := cm_open hvM;replace hvM := cmE.mono hvM (D' := (fun k => w50.heap.size ≤ k ∧ k < w56.heap.size)) (fun k hk h => ⟨h, hk⟩)
  have szM : w56.heap.size ≤ w56.heap.size := Nat.le_refl _;have szmM := c57.size;replace HC := HC.then1 c57 ge_rb;replace hb4 := hb4.tr1 c57 ne_b2_rb;replace hb17 := hb17.tr1 c57 ne_b3_rb;replace hb20 := hb20.tr1 c57 ne_b4_rb;replace htl := Nat.lt_of_lt_of_le htl c57.size;refine Wp rfl <| st_st (v := .agg ⟨[_, _, _, _, _, _, _, _, _]⟩) T.size30 rfl rfl rfl hb4 ?_;intro w58 c59 hb60; simp only [setVs, setV] at hb60;clear hb4;replace HC := HC.then1 c59 ge_b2;replace hb17 := hb17.tr1 c59 (Ne.symm ne_b2_b3);replace hb20 := hb20.tr1 c59 (Ne.symm ne_b2_b4);replace htl := Nat.lt_of_lt_of_le htl c59.size;replace hR := hR.tr c59 q2;replace hvM := Enc.chg hvM c59 q3;replace szM := Nat.le_trans szM c59.size;refine en <| x_seq <| x_seq ?_;have hgY := hsM.good;refine x_region rfl <| mP rfl <| Wp rfl <| st_call (ags := [_]) rfl rfl T.ent15 rfl (gtok_spec (Z := RL) hgY hR) ?_;rintro _ w61 ⟨rfl, c62⟩;replace HC := HC.then c62;replace hb17 := hb17.tr0 c62;replace hb20 := hb20.tr0 c62;replace htl := Nat.lt_of_lt_of_le htl c62.size;replace hR := hR.tr0 c62;replace hvM := Enc.chg hvM c62 q8;replace szM := Nat.le_trans szM c62.size;replace hb60 := hb60.tr0 c62;refine Wp rfl <| st_field (v := .int _ _) T.fone51_0 rfl rfl <| Wp rfl <| st_neq rfl rfl <| en <| x_cond rfl (fun h2 => ?_) (fun h2 => ?_)
  ·try simp only [nm, ne_eq] at h2
   have hk2 : (hd RL).kind ≠ 0 := by first | assumption | simp_all
   refine x_region rfl <| mP rfl <| w_plain rfl (st_callP (ags := [_, _]) rfl rfl T.ent17 rfl (gfail_spec 101 hgY hR) ?_ ?_)
   ·rintro _ w63 ⟨rfl, c64⟩;replace HC := HC.then c64;replace hb17 := hb17.tr0 c64;replace hb20 := hb20.tr0 c64;replace htl := Nat.lt_of_lt_of_le htl c64.size;replace szM := Nat.le_trans szM c64.size;replace hb60 := hb60.tr0 c64;refine then_p <| d_panic (xs := #[.pointer (some ⟨b2, 0, none⟩), .pointer (some ⟨b3, 0, none⟩), .pointer (some ⟨b4, 0, none⟩)]) T.ent13 (by simp) <| CallsDIn.mono (gP1_pan _ hb60 hb17 hb20 ne_b2_b3 ne_b2_b4 ne_b3_b4) ?_
    rintro _ _ w65 ⟨⟨v9, rfl, hq2, hq3_, hq4, c66⟩, rfl⟩;refine ⟨⟨v9, rfl⟩, rfl, ?_⟩;replace HC := HC.trans c66 (by intro x hx; simp only [List.mem_cons, List.mem_nil_iff, or_false] at hx; rcases hx with h1 | h1 | h1 <;> first | (left; simp [h1]; done) | (right; rw [h1]; omega))
    refine ret_many (vs := [.agg ⟨[_, _, _, _, _, _, _, _, _]⟩, .int _ _, .int _ _]) rfl ⟨⟨_, _, rfl, run_loadVarA T.agg30 (hq2.cells (n := 9) rfl) rfl⟩, ⟨⟨_, _, rfl, run_loadVar1 T.one3 (hq3_.cell rfl)⟩, ⟨⟨_, _, rfl, run_loadVar1 T.one31 (hq4.cell rfl)⟩, trivial⟩⟩⟩ (Nat.le_of_ble_eq_true rfl) ?_;have hv9 := gramV_er hte (gramG_end hk0 heM hk2);have hpl : PlR s := fun _ _ => ⟨hd RL, (hsM.trans hsL).suf.subset (hd_mem hsM.good), by rw [hv9]⟩
    refine ⟨?_, hpl⟩;rw [hv9];exact ⟨_, rfl, zero_R, HC⟩
   exact fun _ _ h9 => h9.elim
  try simp only [nm, ne_eq] at h2
  have hk2 : (hd RL).kind = 0 := by first | assumption | simp_all
  refine x_skip <| then_n <| sr rfl <| Wp rfl <| st_loadA (vs := [_, _, _, _, _, _, _, _, _]) T.agg30 rfl (hb60.cells (n := 9) (vs := [_, _, _, _, _, _, _, _, _]) rfl) rfl <| Wp rfl <| st_st (v := .agg ⟨[_, _, _, _, _, _, _, _, _]⟩) T.size30 rfl rfl rfl hb60 ?_;intro w67 c68 hb69; simp only [setVs, setV] at hb69;clear hb60;replace HC := HC.then1 c68 ge_b2;replace hb17 := hb17.tr1 c68 (Ne.symm ne_b2_b3);replace hb20 := hb20.tr1 c68 (Ne.symm ne_b2_b4);replace htl := Nat.lt_of_lt_of_le htl c68.size;replace hvM := Enc.chg hvM c68 q3;replace szM := Nat.le_trans szM c68.size;refine Wp rfl <| st_st (v := .int _ _) T.size3 rfl rfl rfl hb17 ?_;intro w70 c71 hb72; simp only [setVs, setV] at hb72;clear hb17;replace HC := HC.then1 c71 ge_b3;replace hb20 := hb20.tr1 c71 (Ne.symm ne_b3_b4);replace htl := Nat.lt_of_lt_of_le htl c71.size;replace hvM := Enc.chg hvM c71 q3;replace szM := Nat.le_trans szM c71.size;replace hb69 := hb69.tr1 c71 ne_b2_b3;refine Wp rfl <| st_st (v := .int _ _) T.size31 rfl rfl rfl hb20 ?_;intro w73 c74 hb75; simp only [setVs, setV] at hb75;clear hb20;replace HC := HC.then1 c74 ge_b4;replace htl := Nat.lt_of_lt_of_le htl c74.size;replace hvM := Enc.chg hvM c74 q3;replace szM := Nat.le_trans szM c74.size;replace hb69 := hb69.tr1 c74 ne_b2_b4;replace hb72 := hb72.tr1 c74 ne_b3_b4;refine en <| x_ret <| d_ret (xs := #[.pointer (some ⟨b2, 0, none⟩), .pointer (some ⟨b3, 0, none⟩), .pointer (some ⟨b4, 0, none⟩)]) T.ent13 (by simp) <| CallsDIn.mono (gP1_ret _) ?_
  rintro _ _ w76 ⟨⟨v9, rfl, c77⟩, rfl⟩;refine ⟨⟨v9, rfl⟩, rfl, ?_⟩;replace HC := HC.then c77;replace htl := Nat.lt_of_lt_of_le htl c77.size;replace hvM := Enc.chg hvM c77 q8;replace szM := Nat.le_trans szM c77.size;replace hb69 := hb69.tr0 c77;replace hb72 := hb72.tr0 c77;replace hb75 := hb75.tr0 c77;refine ret_many (vs := [.agg ⟨[_, _, _, _, _, _, _, _, _]⟩, .int _ _, .int _ _]) rfl ⟨⟨_, _, rfl, run_loadVarA T.agg30 (hb69.cells (n := 9) rfl) rfl⟩, ⟨⟨_, _, rfl, run_loadVar1 T.one3 (hb72.cell rfl)⟩, ⟨⟨_, _, rfl, run_loadVar1 T.one31 (hb75.cell rfl)⟩, trivial⟩⟩⟩ (Nat.le_of_ble_eq_true rfl) ?_;have hv9 := gramV_ok hte (gramG_ok hk0 heM hk2);have hpl : PlR s := fun _ h => absurd (by rw [hv9]) h
  refine ⟨?_, hpl⟩;rw [hv9];exact ⟨_, rfl, cmE.mono hvM (fun k _ h => by have := h.1; show _ ≤ k; omega), HC⟩
 try simp only [nm, ne_eq] at h1
 have hk0 : (hd (linesG (tokensV s).1)).kind = 0 := by first | assumption | simp_all
 refine x_skip <| then_n <| x_seq <| x_seq ?_;have hgY := hgL;refine x_region rfl <| mP rfl <| Wp rfl <| st_call (ags := [_]) rfl rfl T.ent15 rfl (gtok_spec (Z := (linesG (tokensV s).1)) hgY hR) ?_;rintro _ w78 ⟨rfl, c79⟩;replace HC := HC.then c79;replace hb4 := hb4.tr0 c79;replace hb17 := hb17.tr0 c79;replace hb20 := hb20.tr0 c79;replace htl := Nat.lt_of_lt_of_le htl c79.size;refine Wp rfl <| st_field (v := .int _ _) T.fone51_0 rfl rfl <| Wp rfl <| st_neq rfl rfl <| en <| x_cond rfl (fun h2 => ?_) (fun h2 => ?_)
 ·try simp only [nm, ne_eq] at h2
  exact absurd hk0 h2
 try simp only [nm, ne_eq] at h2
 refine x_skip <| then_n <| sr rfl <| Wp rfl <| st_loadA (vs := [_, _, _, _, _, _, _, _, _]) T.agg30 rfl (hb4.cells (n := 9) (vs := [_, _, _, _, _, _, _, _, _]) rfl) rfl <| Wp rfl <| st_st (v := .agg ⟨[_, _, _, _, _, _, _, _, _]⟩) T.size30 rfl rfl rfl hb4 ?_;intro w80 c81 hb82; simp only [setVs, setV] at hb82;clear hb4;replace HC := HC.then1 c81 ge_b2;replace hb17 := hb17.tr1 c81 (Ne.symm ne_b2_b3);replace hb20 := hb20.tr1 c81 (Ne.symm ne_b2_b4);replace htl := Nat.lt_of_lt_of_le htl c81.size;refine Wp rfl <| st_st (v := .int _ _) T.size3 rfl rfl rfl hb17 ?_;intro w83 c84 hb85; simp only [setVs, setV] at hb85;clear hb17;replace HC := HC.then1 c84 ge_b3;replace hb20 := hb20.tr1 c84 (Ne.symm ne_b3_b4);replace htl := Nat.lt_of_lt_of_le htl c84.size;replace hb82 := hb82.tr1 c84 ne_b2_b3;refine Wp rfl <| st_st (v := .int _ _) T.size31 rfl rfl rfl hb20 ?_;intro w86 c87 hb88; simp only [setVs, setV] at hb88;clear hb20;replace HC := HC.then1 c87 ge_b4;replace htl := Nat.lt_of_lt_of_le htl c87.size;replace hb82 := hb82.tr1 c87 ne_b2_b4;replace hb85 := hb85.tr1 c87 ne_b3_b4;refine en <| x_ret <| d_ret (xs := #[.pointer (some ⟨b2, 0, none⟩), .pointer (some ⟨b3, 0, none⟩), .pointer (some ⟨b4, 0, none⟩)]) T.ent13 (by simp) <| CallsDIn.mono (gP1_ret _) ?_
 rintro _ _ w89 ⟨⟨v9, rfl, c90⟩, rfl⟩;refine ⟨⟨v9, rfl⟩, rfl, ?_⟩;replace HC := HC.then c90;replace htl := Nat.lt_of_lt_of_le htl c90.size;replace hb82 := hb82.tr0 c90;replace hb85 := hb85.tr0 c90;replace hb88 := hb88.tr0 c90;refine ret_many (vs := [.agg ⟨[_, _, _, _, _, _, _, _, _]⟩, .int _ _, .int _ _]) rfl ⟨⟨_, _, rfl, run_loadVarA T.agg30 (hb82.cells (n := 9) rfl) rfl⟩, ⟨⟨_, _, rfl, run_loadVar1 T.one3 (hb85.cell rfl)⟩, ⟨⟨_, _, rfl, run_loadVar1 T.one31 (hb88.cell rfl)⟩, trivial⟩⟩⟩ (Nat.le_of_ble_eq_true rfl) ?_;have hv9 := gramV_ok hte (gramG_zero hk0);have hpl : PlR s := fun _ h => absurd (by rw [hv9]) h
 refine ⟨?_, hpl⟩;rw [hv9];exact ⟨_, rfl, zero_R, HC⟩
open Go Go.Proofs Go.RowKit
theorem take_same {α : Type} {a b : List α} {i : Nat} {x y : α} (h : a.take i = b.take i) (hx : a[i]? = some x) (hy : b[i]? = some y) (he : x = y) : a.take (i + 1) = b.take (i + 1) := by
  rw [List.take_add_one, List.take_add_one, h, hx, hy, he]
def EqT {α : Type} (a b : α) (w w' : World) (v : Value) : Prop := ∃ r : Bool, v = .bool r ∧ (r = true ↔ a = b) ∧ Chg [] w w'
theorem eq_no {α : Type} {a b : α} (h : a ≠ b) : (false = true ↔ a = b) := ⟨(fun h => by cases h), fun e => absurd e h⟩
theorem eq_yes {α : Type} {a b : α} (h : a = b) : (true = true ↔ a = b) := ⟨fun _ => h, fun _ => rfl⟩
theorem get_ne {α : Type} {a b : List α} {i : Nat} {x y : α} (hx : a[i]? = some x) (hy : b[i]? = some y) (h : x ≠ y) : a ≠ b := fun e => by subst e; exact h (Option.some.inj (hx.symm.trans hy))
theorem Cm.ext {a b : Cm} : a = b ↔ a.kind = b.kind ∧ a.name = b.name ∧ a.bang = b.bang ∧ a.inn = b.inn ∧ a.asg = b.asg ∧ a.words = b.words ∧ a.rds = b.rds ∧ a.kids = b.kids ∧ a.items = b.items := by
  cases a; cases b; simp only [Cm.mk.injEq, kind, name, bang, inn, asg, words, rds, kids, items]
theorem kid_size {a k : Cm} (h : k ∈ a.kids) : SizeOf.sizeOf k < SizeOf.sizeOf a := by
  cases a with
  | mk q1 q2 q3 q4 q5 q6 q7 kids items =>
    have h1 := List.sizeOf_lt_of_mem (show k ∈ kids from h);simp only [Cm.mk.sizeOf_spec]; omega
theorem item_size {a k : Cm} {y : List Bytes × List Cm} (hy : y ∈ a.items) (h : k ∈ y.2) : SizeOf.sizeOf k < SizeOf.sizeOf a := by
  cases a with
  | mk q1 q2 q3 q4 q5 q6 q7 kids items =>
    have h1 := List.sizeOf_lt_of_mem (show y ∈ items from hy);have h2 := List.sizeOf_lt_of_mem h;obtain ⟨p, l⟩ := y;simp only [Cm.mk.sizeOf_spec, Prod.mk.sizeOf_spec] at *; omega
open Go Go.Proofs Go.RowKit
open Go Go.RowKit
def NE {α : Type} (g : Rs α) : Prop := ∀ R e, g = .er R e → e ≠ 0
theorem NE.ok {α : Type} (x : α) (R : List Tok) : NE (.ok x R) := fun _ _ h => by cases h
theorem NE.er {α : Type} (R : List Tok) {e : Int} (h : e ≠ 0) : NE (.er R e : Rs α) := fun _ _ q => by cases q; exact h
theorem NE.bind {α β : Type} {g : Rs α} {f : α → List Tok → Rs β} (h : NE g) (k : ∀ x r, NE (f x r)) : NE (g.bind f) := by
  cases g with
  | ok x r => exact k x r
  | er r e => exact fun R e' q => by cases q; exact h _ _ rfl
theorem want_ne (k : Int) (s : Bytes) (T : List Tok) : NE (wantG k s T) := by
  unfold wantG; split
  · exact .ok _ _
  exact .er _ (by decide)
theorem any_ne (T : List Tok) : NE (anyG T) := by
  unfold anyG; split
  · exact .ok _ _
  exact .er _ (by decide)
theorem redir_ne (T : List Tok) : NE (redirG T) := by
  unfold redirG; split
  · exact .ok _ _
  split <;> exact NE.bind (any_ne _) fun _ _ => .ok _ _
theorem redirs_ne : ∀ (n : Nat) (l : List Rdr) (T : List Tok), NE (redirsG n l T)
  | 0, l, T => .ok _ _
  | n + 1, l, T => NE.bind (redir_ne T) fun x r => by
    cases x with
    | none => exact .ok _ _
    | some x => exact redirs_ne n _ _
theorem simple_ne : ∀ (n : Nat) (a : List (Bytes × Bytes)) (ws : List Bytes) (rs : List Rdr) (T : List Tok), NE (simpleG n a ws rs T)
  | 0, a, ws, rs, T => .ok _ _
  | n + 1, a, ws, rs, T => NE.bind (redir_ne T) fun x r => by
    cases x with
    | some x => exact simple_ne n _ _ _ _
    | none =>
      (try dsimp only); split
      · split
        · exact .er _ (by decide)
        exact .ok _ _
      split <;> exact simple_ne n _ _ _ _
section
variable {com : List Tok → Rs Cm} (hc : ∀ T, NE (com T))
include hc
theorem pipeL_ne : ∀ (n : Nat) (l : List Cm) (T : List Tok), NE (pipeL com n l T)
  | 0, l, T => .ok _ _
  | n + 1, l, T => by
    unfold pipeL; split
    · exact NE.bind (hc _) fun _ _ => pipeL_ne n _ _
    exact .ok _ _
theorem pipe_ne (T : List Tok) : NE (pipeG com T) := NE.bind (hc _) fun _ _ => NE.bind (pipeL_ne hc _ _ _) fun _ _ => .ok _ _
theorem andL_ne : ∀ (n : Nat) (c : Cm) (T : List Tok), NE (andL com n c T)
  | 0, c, T => .ok _ _
  | n + 1, c, T => by
    unfold andL; split
    · exact NE.bind (pipe_ne hc _) fun _ _ => andL_ne n _ _
    exact .ok _ _
theorem and_ne (T : List Tok) : NE (andG com T) := NE.bind (pipe_ne hc _) fun _ _ => andL_ne hc _ _ _
theorem listL_ne : ∀ (n : Nat) (l : List Cm) (T : List Tok), NE (listL com n l T)
  | 0, l, T => .ok _ _
  | n + 1, l, T => NE.bind (and_ne hc _) fun _ _ => by
    (try dsimp only); split
    · split
      · exact listL_ne n _ _
      exact .ok _ _
    exact .ok _ _
theorem list_ne (T : List Tok) : NE (listG com T) := NE.bind (listL_ne hc _ _ _) fun _ _ => .ok _ _
theorem body_ne (T : List Tok) : NE (bodyG com T) := list_ne hc _
theorem branch_ne : ∀ (n : Nat) (T : List Tok), NE (branchG com n T)
  | 0, T => .er _ (by decide)
  | n + 1, T => NE.bind (body_ne hc _) fun _ _ => NE.bind (want_ne _ _ _) fun _ _ => NE.bind (body_ne hc _) fun _ r => by
    (try dsimp only); split
    · exact NE.bind (branch_ne n _) fun _ _ => .ok _ _
    split
    · exact NE.bind (body_ne hc _) fun _ _ => NE.bind (want_ne _ _ _) fun _ _ => .ok _ _
    exact NE.bind (want_ne _ _ _) fun _ _ => .ok _ _
theorem do_ne (T : List Tok) : NE (doG com T) := NE.bind (want_ne _ _ _) fun _ _ => NE.bind (body_ne hc _) fun _ _ => NE.bind (want_ne _ _ _) fun _ _ => .ok _ _
theorem each_ne (T : List Tok) : NE (eachG com T) := by
  unfold eachG; split
  · exact .er _ (by decide)
  refine NE.bind (any_ne _) fun _ _ => ?_
  (try dsimp only); split
  · split
    · exact .er _ (by decide)
    exact NE.bind (do_ne hc _) fun _ _ => .ok _ _
  exact NE.bind (do_ne hc _) fun _ _ => .ok _ _
omit hc in
theorem pats_ne : ∀ (n : Nat) (l : List Bytes) (T : List Tok), NE (patsG n l T)
  | 0, l, T => .ok _ _
  | n + 1, l, T => by
    unfold patsG; split
    · exact NE.bind (any_ne _) fun _ _ => pats_ne n _ _
    exact .ok _ _
theorem item_ne (T : List Tok) : NE (itemG com T) := NE.bind (any_ne _) fun _ _ => NE.bind (pats_ne _ _ _) fun _ _ => NE.bind (want_ne _ _ _) fun _ _ => by
  (try dsimp only); split
  · exact NE.bind (list_ne hc _) fun _ _ => .ok _ _
  exact .ok _ _
theorem items_ne : ∀ (n : Nat) (l : List (List Bytes × List Cm)) (T : List Tok), NE (itemsG com n l T)
  | 0, l, T => .ok _ _
  | n + 1, l, T => by
    unfold itemsG; split
    · exact .ok _ _
    refine NE.bind (item_ne hc _) fun _ _ => ?_
    (try dsimp only); split
    · exact items_ne n _ _
    exact .ok _ _
theorem choose_ne (T : List Tok) : NE (chooseG com T) := NE.bind (any_ne _) fun _ _ => NE.bind (want_ne _ _ _) fun _ _ => NE.bind (items_ne hc _ _ _) fun _ _ => NE.bind (want_ne _ _ _) fun _ _ => .ok _ _
theorem inner_ne (T : List Tok) : NE (innerG com T) := by
  unfold innerG; split
  · exact NE.bind (body_ne hc _) fun _ _ => NE.bind (want_ne _ _ _) fun _ _ => .ok _ _
  split
  · exact NE.bind (body_ne hc _) fun _ _ => NE.bind (want_ne _ _ _) fun _ _ => .ok _ _
  split
  · exact branch_ne hc _ _
  split
  · exact NE.bind (body_ne hc _) fun _ _ => NE.bind (do_ne hc _) fun _ _ => .ok _ _
  split
  · exact each_ne hc _
  exact choose_ne hc _
theorem comp_ne (T : List Tok) : NE (compG com T) := NE.bind (inner_ne hc _) fun _ _ => NE.bind (redirs_ne _ _ _) fun _ _ => .ok _ _
end
theorem func_ne {cw : List Tok → Rs Cm} (hc : ∀ T, NE (cw T)) (T : List Tok) : NE (funcG cw T) := NE.bind (want_ne _ _ _) fun _ _ => by
  (try dsimp only); split
  · exact .er _ (by decide)
  exact NE.bind (hc _) fun _ _ => .ok _ _
theorem command_ne {cw fw : List Tok → Rs Cm} (hc : ∀ T, NE (cw T)) (hf : ∀ T, NE (fw T)) (T : List Tok) : NE (commandG cw fw T) := by
  unfold commandG; split
  · exact hc _
  split
  · exact .er _ (by decide)
  split
  · exact hf _
  exact simple_ne _ _ _ _ _
theorem gramF_ne : ∀ (m : Nat), (∀ T, NE ((gramF m).1 T)) ∧ ∀ T, NE ((gramF m).2 T)
  | 0 => ⟨fun T => .er _ (by decide), fun T => .er _ (by decide)⟩
  | m + 1 => ⟨fun T => comp_ne (command_ne (gramF_ne m).1 (gramF_ne m).2) T, fun T => func_ne (gramF_ne m).1 T⟩
theorem gram_ne {T R : List Tok} {e : Int} (h : gramG T = .er R e) : e ≠ 0 := by
  have : NE (gramG T) := by
    unfold gramG
    refine NE.bind ?_ fun _ _ => ?_
    · split
      · exact .ok _ _
      exact list_ne (command_ne (gramF_ne 64).1 (gramF_ne 64).2) _
    (try dsimp only); split
    · exact .ok _ _
    exact .er _ (by decide)
  exact this _ _ h
end Go.Proofs.YtghjmiggobpmoaaGreatDoor.K
namespace Go.Proofs.YtghjmiggobpmoaaGreatDoor.K
open Go Go.Proofs Go.RowKit
def aw0 : Bytes := [97, 32, 38, 38, 32, 98, 32, 124, 32, 99]
def awC0 : Cm := (.mk 3 [] false false [] [] [] [(.mk 1 [] false false [] [[97]] [] [] []), (.mk 2 [] false false [] [] [] [(.mk 1 [] false false [] [[98]] [] [] []), (.mk 1 [] false false [] [[99]] [] [] [])] [])] [])
theorem aw0_eq : gramV aw0 = (awC0, 0, 0) := by kernel_rfl
def aw1 : Bytes := [105, 102, 32, 120, 59, 32, 116, 104, 101, 110, 32, 121, 59, 32, 102, 105, 32, 62, 102]
def awC1 : Cm := (.mk 9 [] false false [] [] [⟨1, [62], [102], [], false⟩] [(.mk 1 [] false false [] [[120]] [] [] []), (.mk 1 [] false false [] [[121]] [] [] [])] [])
theorem aw1_eq : gramV aw1 = (awC1, 0, 0) := by kernel_rfl
def aw2 : Bytes := [116, 104, 101, 110]
def awC2 : Cm := zCm
theorem aw2_eq : gramV aw2 = (awC2, 0, 101) := by kernel_rfl
theorem awake17_spec (w : World) (hmx : MaxT w) (ht : Tab w) : CallR Tryz.prog 6 #[] w fun v w' => v = .bool true ∧ Chg [] w w' := by
 refine callR_of_wp (args := []) Tryz.func6 rfl (Nat.le_of_ble_eq_true rfl) ?_;have HC : Chg [] w w := .refl _;have ht1 := ht.lt;have hm1 := hmx.lt;refine sr rfl <| aB rfl <| en <| sr rfl <| Wp rfl <| st_call (ags := [_]) rfl rfl T.ent7 rfl (gParse_spec aw0 _ (by decide) hmx ht) ?_
 rintro _ w1 ⟨⟨vsE, rfl, hvE, c2⟩, hplE⟩;rw [aw0_eq] at hvE ⊢;obtain ⟨A1E, n1E, A2E, n2E, A3E, n3E, A4E, n4E, A5E, n5E, rfl, hAE, k1E, k2E, k3E, k4E, k5E⟩ := cm_open hvE;replace hvE := cmE.mono hvE (D' := (fun k => k < w1.heap.size)) (fun k hk _ => hk)
 have szE : w1.heap.size ≤ w1.heap.size := Nat.le_refl _;replace HC := HC.then c2;replace ht := ht.tr0 c2;replace hmx := hmx.tr0 c2;refine mv (v := .tuple ⟨[_, _, _]⟩) rfl <| Wp rfl <| st_extract (vs := [_, _, _]) (v := .agg ⟨[.int _ _, S _, .bool _, .bool _, .slice _ _ _, .slice _ _ _, .slice _ _ _, .slice _ _ _, .slice _ _ _]⟩) rfl rfl <| Wp rfl <| st_extract (vs := [_, _, _]) (v := .int _ _) rfl rfl <| Wp rfl <| st_extract (vs := [_, _, _]) (v := .int _ _) rfl rfl <| Wp rfl <| st_alloc T.zero30 ?_;intro b1 w3 e4 c5 hb6;have ge_b1 := gB e4 HC.size;have gq_szE_b1 : w1.heap.size ≤ b1 := by rw [e4]; exact szE
 replace HC := HC.then c5;replace ht := ht.tr0 c5;replace hmx := hmx.tr0 c5;replace hvE := Enc.chg hvE c5 q8;replace szE := Nat.le_trans szE c5.size;clear e4;refine Wp rfl <| st_st (v := .agg ⟨[_, _, _, _, _, _, _, _, _]⟩) T.size30 rfl rfl rfl hb6 ?_;intro w7 c8 hb9; simp only [setVs, setV] at hb9;clear hb6;replace HC := HC.then1 c8 ge_b1;replace ht := ht.tr c8 q1;replace hmx := hmx.tr c8 q1;replace hvE := Enc.chg hvE c8 q3;replace szE := Nat.le_trans szE c8.size;refine aI rfl <| aI rfl <| en <| sr rfl <| Wp rfl <| st_call (ags := [_]) rfl rfl T.ent7 rfl (gParse_spec aw1 _ (by decide) hmx ht) ?_
 rintro _ w10 ⟨⟨vsF, rfl, hvF, c11⟩, hplF⟩;rw [aw1_eq] at hvF ⊢;obtain ⟨A1F, n1F, A2F, n2F, A3F, n3F, A4F, n4F, A5F, n5F, rfl, hAF, k1F, k2F, k3F, k4F, k5F⟩ := cm_open hvF;replace hvF := cmE.mono hvF (D' := (fun k => k < w10.heap.size)) (fun k hk _ => hk)
 have szF : w10.heap.size ≤ w10.heap.size := Nat.le_refl _;replace HC := HC.then c11;replace ht := ht.tr0 c11;replace hmx := hmx.tr0 c11;replace hvE := Enc.chg hvE c11 q8;replace szE := Nat.le_trans szE c11.size;replace hb9 := hb9.tr0 c11;refine mv (v := .tuple ⟨[_, _, _]⟩) rfl <| Wp rfl <| st_extract (vs := [_, _, _]) (v := .agg ⟨[.int _ _, S _, .bool _, .bool _, .slice _ _ _, .slice _ _ _, .slice _ _ _, .slice _ _ _, .slice _ _ _]⟩) rfl rfl <| Wp rfl <| st_extract (vs := [_, _, _]) (v := .int _ _) rfl rfl <| Wp rfl <| st_extract (vs := [_, _, _]) (v := .int _ _) rfl rfl <| Wp rfl <| st_alloc T.zero30 ?_;intro b4 w12 e13 c14 hb15;have ge_b4 := gB e13 HC.size;have ne_b1_b4 := nF e13 hb9.ne_size;have gq_szE_b4 : w1.heap.size ≤ b4 := by rw [e13]; exact szE
 have gq_szF_b4 : w10.heap.size ≤ b4 := by rw [e13]; exact szF
 replace HC := HC.then c14;replace ht := ht.tr0 c14;replace hmx := hmx.tr0 c14;replace hvE := Enc.chg hvE c14 q8;replace szE := Nat.le_trans szE c14.size;replace hb9 := hb9.tr0 c14;replace hvF := Enc.chg hvF c14 q8;replace szF := Nat.le_trans szF c14.size;clear e13;refine Wp rfl <| st_st (v := .agg ⟨[_, _, _, _, _, _, _, _, _]⟩) T.size30 rfl rfl rfl hb15 ?_;intro w16 c17 hb18; simp only [setVs, setV] at hb18;clear hb15;replace HC := HC.then1 c17 ge_b4;replace ht := ht.tr c17 q1;replace hmx := hmx.tr c17 q1;replace hvE := Enc.chg hvE c17 q3;replace szE := Nat.le_trans szE c17.size;replace hb9 := hb9.tr1 c17 ne_b1_b4;replace hvF := Enc.chg hvF c17 q3;replace szF := Nat.le_trans szF c17.size;refine aI rfl <| aI rfl <| en <| sr rfl <| Wp rfl <| st_call (ags := [_]) rfl rfl T.ent7 rfl (gParse_spec aw2 _ (by decide) hmx ht) ?_
 rintro _ w19 ⟨⟨vsH, rfl, hvH, c20⟩, hplH⟩;rw [aw2_eq] at hvH ⊢;obtain ⟨A1H, n1H, A2H, n2H, A3H, n3H, A4H, n4H, A5H, n5H, rfl, hAH, k1H, k2H, k3H, k4H, k5H⟩ := cm_open hvH;replace hvH := cmE.mono hvH (D' := (fun k => k < w19.heap.size)) (fun k hk _ => hk)
 have szH : w19.heap.size ≤ w19.heap.size := Nat.le_refl _;replace HC := HC.then c20;replace hvE := Enc.chg hvE c20 q8;replace szE := Nat.le_trans szE c20.size;replace hb9 := hb9.tr0 c20;replace hvF := Enc.chg hvF c20 q8;replace szF := Nat.le_trans szF c20.size;replace hb18 := hb18.tr0 c20;refine mv (v := .tuple ⟨[_, _, _]⟩) rfl <| Wp rfl <| st_extract (vs := [_, _, _]) (v := .agg ⟨[.int _ _, S _, .bool _, .bool _, .slice _ _ _, .slice _ _ _, .slice _ _ _, .slice _ _ _, .slice _ _ _]⟩) rfl rfl <| Wp rfl <| st_extract (vs := [_, _, _]) (v := .int _ _) rfl rfl <| Wp rfl <| st_extract (vs := [_, _, _]) (v := .int _ _) rfl rfl <| Wp rfl <| st_alloc T.zero30 ?_;intro b7 w21 e22 c23 hb24;have ge_b7 := gB e22 HC.size;have ne_b1_b7 := nF e22 hb9.ne_size;have ne_b4_b7 := nF e22 hb18.ne_size;have gq_szE_b7 : w1.heap.size ≤ b7 := by rw [e22]; exact szE
 have gq_szF_b7 : w10.heap.size ≤ b7 := by rw [e22]; exact szF
 have gq_szH_b7 : w19.heap.size ≤ b7 := by rw [e22]; exact szH
 replace HC := HC.then c23;replace hvE := Enc.chg hvE c23 q8;replace szE := Nat.le_trans szE c23.size;replace hb9 := hb9.tr0 c23;replace hvF := Enc.chg hvF c23 q8;replace szF := Nat.le_trans szF c23.size;replace hb18 := hb18.tr0 c23;replace szH := Nat.le_trans szH c23.size;clear e22;refine Wp rfl <| st_st (v := .agg ⟨[_, _, _, _, _, _, _, _, _]⟩) T.size30 rfl rfl rfl hb24 ?_;intro w25 c26 hb27; simp only [setVs, setV] at hb27;clear hb24;replace HC := HC.then1 c26 ge_b7;replace hvE := Enc.chg hvE c26 q3;replace szE := Nat.le_trans szE c26.size;replace hb9 := hb9.tr1 c26 ne_b1_b7;replace hvF := Enc.chg hvF c26 q3;replace szF := Nat.le_trans szF c26.size;replace hb18 := hb18.tr1 c26 ne_b4_b7;replace szH := Nat.le_trans szH c26.size;refine aI rfl <| aI rfl <| en <| x_seq ?_;have hKa := (cm_at hvE).1.kids;have hRb := (cm_at hvF).1.rds;refine x_region rfl <| mI rfl <| Wp rfl <| st_eql rfl rfl <| mB rfl <| w_split (d := 27) rfl (fun g28 => ?_) (fun g28 => ?_)
 ·try simp only [nm, ne_eq] at g28
  refine w_yes 2 27 true <| st_fieldAddr T.fld30_0 rfl <| w_yes 2 27 true <| st_load1 (v := .int _ _) T.one3 rfl (hb9.cell rfl) <| w_yes 2 27 true <| st_eql rfl rfl <| pT rfl rfl <| mB rfl <| w_split (d := 32) rfl (fun g29 => ?_) (fun g29 => ?_)
  ·try simp only [nm, ne_eq] at g29
   refine w_yes 7 32 true <| st_fieldAddr T.fld30_7 rfl <| w_yes 7 32 true <| st_load1 (v := .slice _ _ _) T.one27 rfl (hb9.cell rfl) <| w_yes 7 32 true <| st_len (ct := #[27]) (by rw [show ((#[27] : Array TypeId)[0]?).bind Tryz.prog.underlying = some (.slice 30) from T.u27]; rfl) rfl <| w_yes 7 32 true <| st_eql rfl rfl <| pT rfl rfl <| mB rfl <| w_split (d := 38) rfl (fun g30 => ?_) (fun g30 => ?_)
   ·try simp only [nm, ne_eq] at g30
    refine w_yes 13 38 true <| st_fieldAddr T.fld30_7 rfl <| w_yes 13 38 true <| st_load1 (v := .slice _ _ _) T.one27 rfl (hb9.cell rfl) ?_;obtain ⟨lb35, _, vs34, hA31, hR33, hC32⟩ := hKa.at (i := 1) (x := awC0.kids[1]) (rfl);have hvG := hR33;obtain ⟨A1G, n1G, A2G, n2G, A3G, n3G, A4G, n4G, A5G, n5G, rfl, hAG, k1G, k2G, k3G, k4G, k5G⟩ := cm_open hR33;refine w_yes 13 38 true <| st_indexAddr T.u27 T.size30 (congrArg (fun z => Value.slice z _ _) hA31) rfl (by decide) (by decide) <| w_yes 13 38 true <| st_fieldAddr T.fld30_0 rfl <| w_yes 13 38 true <| st_load1 (v := .int _ _) T.one3 rfl (hC32.at (j := 0) rfl) <| w_yes 13 38 true <| st_eql rfl rfl <| pT rfl rfl <| mB rfl <| w_split (d := 46) rfl (fun g36 => ?_) (fun g36 => ?_)
    ·try simp only [nm, ne_eq] at g36
     refine w_yes 21 46 true <| st_move (v := .int _ _) rfl <| w_yes 21 46 true <| st_eql rfl rfl <| pT rfl rfl <| mB rfl <| w_split (d := 50) rfl (fun g37 => ?_) (fun g37 => ?_)
     ·try simp only [nm, ne_eq] at g37
      refine w_yes 25 50 true <| st_fieldAddr T.fld30_0 rfl <| w_yes 25 50 true <| st_load1 (v := .int _ _) T.one3 rfl (hb18.cell rfl) <| w_yes 25 50 true <| st_eql rfl rfl <| pT rfl rfl <| mB rfl <| w_split (d := 55) rfl (fun g38 => ?_) (fun g38 => ?_)
      ·try simp only [nm, ne_eq] at g38
       refine w_yes 30 55 true <| st_fieldAddr T.fld30_7 rfl <| w_yes 30 55 true <| st_load1 (v := .slice _ _ _) T.one27 rfl (hb18.cell rfl) <| w_yes 30 55 true <| st_len (ct := #[27]) (by rw [show ((#[27] : Array TypeId)[0]?).bind Tryz.prog.underlying = some (.slice 30) from T.u27]; rfl) rfl <| w_yes 30 55 true <| st_eql rfl rfl <| pT rfl rfl <| mB rfl <| w_split (d := 61) rfl (fun g39 => ?_) (fun g39 => ?_)
       ·try simp only [nm, ne_eq] at g39
        refine w_yes 36 61 true <| st_fieldAddr T.fld30_6 rfl <| w_yes 36 61 true <| st_load1 (v := .slice _ _ _) T.one26 rfl (hb18.cell rfl) <| w_yes 36 61 true <| st_len (ct := #[26]) (by rw [show ((#[26] : Array TypeId)[0]?).bind Tryz.prog.underlying = some (.slice 40) from T.u26]; rfl) rfl <| w_yes 36 61 true <| st_eql rfl rfl <| pT rfl rfl <| mB rfl <| w_split (d := 67) rfl (fun g40 => ?_) (fun g40 => ?_)
        ·try simp only [nm, ne_eq] at g40
         refine w_yes 42 67 true <| st_fieldAddr T.fld30_6 rfl <| w_yes 42 67 true <| st_load1 (v := .slice _ _ _) T.one26 rfl (hb18.cell rfl) ?_;obtain ⟨lb45, _, vs44, hA41, hR43, hC42⟩ := hRb.at (i := 0) (x := (⟨1, [62], [102], [], false⟩ : Rdr)) (rfl);obtain rfl : vs44 = rdrC (⟨1, [62], [102], [], false⟩ : Rdr) := hR43;refine w_yes 42 67 true <| st_indexAddr T.u26 T.size40 (congrArg (fun z => Value.slice z _ _) hA41) rfl (by decide) (by decide) <| w_yes 42 67 true <| st_loadA (vs := [_, _, _, _, _]) T.agg40 rfl hC42 rfl <| w_yes 42 67 true <| st_bld (ps := [(0, .const (.int .i64 1)), (1, .const (S [62])), (2, .const (S [102]))]) (vs := [.int _ _, S _, S _, S _, .bool _]) T.bld40 rfl <| w_yes 42 67 true <| st_aeql T.eq40 rfl rfl rfl <| pT rfl rfl <| mB rfl <| w_split (d := 75) rfl (fun g46 => ?_) (fun g46 => ?_)
         ·try simp only [nm, ne_eq] at g46
          refine w_yes 50 75 true <| st_move (v := .int _ _) rfl <| w_yes 50 75 true <| st_eql rfl rfl <| pT rfl rfl <| mB rfl <| w_split (d := 79) rfl (fun g47 => ?_) (fun g47 => ?_)
          ·try simp only [nm, ne_eq] at g47
           refine w_yes 54 79 true <| st_move (v := .int _ _) rfl <| w_yes 54 79 true <| st_eql rfl rfl <| pT rfl rfl <| aB rfl <| en <| x_ret <| ret_tmp (v := .bool _) rfl rfl ?_;exact ⟨rfl, HC⟩
          try simp only [nm, ne_eq] at g47
          first | exact absurd rfl g47 | exact absurd trivial g47 | (simp at g47; done) | exact absurd g47 (by decide)
         try simp only [nm, ne_eq] at g46
         first | exact absurd rfl g46 | exact absurd trivial g46 | (simp at g46; done) | exact absurd g46 (by decide)
        try simp only [nm, ne_eq] at g40
        first | exact absurd rfl g40 | exact absurd trivial g40 | (simp at g40; done) | exact absurd g40 (by decide)
       try simp only [nm, ne_eq] at g39
       first | exact absurd rfl g39 | exact absurd trivial g39 | (simp at g39; done) | exact absurd g39 (by decide)
      try simp only [nm, ne_eq] at g38
      first | exact absurd rfl g38 | exact absurd trivial g38 | (simp at g38; done) | exact absurd g38 (by decide)
     try simp only [nm, ne_eq] at g37
     first | exact absurd rfl g37 | exact absurd trivial g37 | (simp at g37; done) | exact absurd g37 (by decide)
    try simp only [nm, ne_eq] at g36
    first | exact absurd rfl g36 | exact absurd trivial g36 | (simp at g36; done) | exact absurd g36 (by decide)
   try simp only [nm, ne_eq] at g30
   first | exact absurd rfl g30 | exact absurd trivial g30 | (simp at g30; done) | exact absurd g30 (by decide)
  try simp only [nm, ne_eq] at g29
  first | exact absurd rfl g29 | exact absurd trivial g29 | (simp at g29; done) | exact absurd g29 (by decide)
 try simp only [nm, ne_eq] at g28
 first | exact absurd rfl g28 | exact absurd trivial g28 | (simp at g28; done) | exact absurd g28 (by decide)
theorem places17 {s : Bytes} (hs : s.length ≤ 3000) (hp : PlR s) (he : (gramV s).2.2 ≠ 0) : 0 ≤ (gramV s).2.1 ∧ (gramV s).2.1 ≤ s.length ∧ (gramV s).1 = zCm := by
  rcases tokens_places hs with ⟨h1, _, h3, h4⟩ | ⟨h1, h2⟩
  · rw [gramV_tok h1]; exact ⟨h3, by show (tokensV s).2.1 ≤ _; omega, rfl⟩
  have h0 : (tokensV s).2.2 = 0 := by rw [h1]
  obtain ⟨t, ht, ha⟩ := hp h0 he;obtain ⟨i, hi, rfl⟩ := List.mem_iff_getElem.1 ht;have h5 := h2.at_ i _ (List.getElem?_eq_getElem hi);refine ⟨by rw [ha]; exact h5.1, by rw [ha]; exact h5.2.1, ?_⟩
  cases hg : gramG (tokensV s).1 with
  | ok c R => rw [gramV_ok h0 hg] at he; exact absurd rfl he
  | er R e => rw [gramV_er h0 hg]
open Go Go.Proofs Go.RowKit
theorem it_at {w : World} {D : Nat → Prop} {x : List Bytes × List Cm} {A1 A2 : Option Addr} {c1 c2 : Nat} (h : itE.R w D x [.slice A1 x.1.length c1, .slice A2 x.2.length c2]) : Sl sE w D A1 x.1 ∧ Sl cmE w D A2 x.2 ∧ capOk x.1.length c1 ∧ capOk x.2.length c2 := by
  obtain ⟨_, _, he, ⟨B1, b1, rfl, k1, k2, h1⟩, ⟨B2, b2, rfl, k3, k4, h2⟩⟩ := h;simp only [List.cons_append, List.nil_append, List.cons.injEq, Value.slice.injEq, and_true, true_and] at he;obtain ⟨⟨rfl, rfl⟩, rfl, rfl⟩ := he;exact ⟨h1, h2, ⟨k1, k2⟩, ⟨k3, k4⟩⟩
theorem rtexts_spec {a b : List Bytes} {Aa Ab : Option Addr} {capa capb : Nat} {D D2 : Nat → Prop} {w : World} (ha : Sl sE w D Aa a) (hb : Sl sE w D2 Ab b) (hla : a.length ≤ 9223372036854775807) : CallR Tryz.prog 18 #[.slice Aa a.length capa, .slice Ab b.length capb] w fun v w' => EqT a b w w' v := by
 refine callR_of_wp (args := [_, _]) Tryz.func18 rfl (Nat.le_of_ble_eq_true rfl) ?_;have HC : Chg [] w w := .refl _;refine sr rfl <| aB rfl <| en <| x_seq <| sr rfl <| mL rfl <| Wp rfl <| st_len (ct := #[23]) (by rw [show ((#[23] : Array TypeId)[0]?).bind Tryz.prog.underlying = some (.slice 9) from T.u23]; rfl) rfl <| mL rfl <| Wp rfl <| st_len (ct := #[23]) (by rw [show ((#[23] : Array TypeId)[0]?).bind Tryz.prog.underlying = some (.slice 9) from T.u23]; rfl) rfl <| Wp rfl <| st_neq rfl rfl <| en <| x_cond rfl (fun h0 => ?_) (fun h0 => ?_)
 ·try simp only [nm, ne_eq] at h0
  refine sr rfl <| aB rfl <| en <| x_ret <| then_r <| ret_tmp (v := .bool _) rfl rfl ?_;exact ⟨_, rfl, eq_no (fun e => h0 (by rw [e])), HC⟩
 try simp only [nm, ne_eq] at h0
 have hll : a.length = b.length := by omega
 refine x_skip <| then_n <| x_seq <| sr rfl <| aI rfl <| en <| x_block <| x_loop (ι := Nat) [4, 5, 11, 12, 13, 14, 15, 16, 17, 18, 19, 20, 21, 22, 23, 24, 25] (fun i => [(5, .int .i64 (i : Int))]) (fun i W => (i ≤ a.length ∧ a.take i = b.take i) ∧ (Chg [] w W) ∧ (Sl sE W D Aa a) ∧ (Sl sE W D2 Ab b)) (fun i => a.length - i) 0 ?_ ?_ ?_
 · exact ⟨rfl, trivial⟩
 ·refine ⟨?_, HC, ha, hb⟩;exact ⟨Nat.zero_le _, rfl⟩
 intro i G2 w1 ⟨⟨hi, ht⟩, HC, ha, hb⟩
 change wp _ _ _ _ _ (upds (over _ _ G2) [(5, .int .i64 (i : Int))]) _ _
 refine x_seq <| sr rfl <| mI rfl <| mL rfl <| Wp rfl <| st_len (ct := #[23]) (by rw [show ((#[23] : Array TypeId)[0]?).bind Tryz.prog.underlying = some (.slice 9) from T.u23]; rfl) rfl <| Wp rfl <| st_lss rfl rfl <| en <| x_cond rfl (fun h1 => ?_) (fun h1 => ?_)
 ·try simp only [nm, ne_eq] at h1
  refine x_skip <| then_n <| x_seq <| x_block <| x_seq ?_;obtain ⟨x3, hx4⟩ : ∃ zz, a[i]? = some zz := ⟨_, List.getElem?_eq_getElem q0⟩;obtain ⟨lb9, _, vs8, hA5, hR7, hC6⟩ := ha.at hx4;obtain rfl : vs8 = [S x3] := hR7;obtain ⟨x10, hx11⟩ : ∃ zz, b[i]? = some zz := ⟨_, List.getElem?_eq_getElem q0⟩;obtain ⟨lb16, _, vs15, hA12, hR14, hC13⟩ := hb.at hx11;obtain rfl : vs15 = [S x10] := hR14;refine x_draw [(0, 0), (1, 0), (2, 0), (3, 0), (4, 0), (5, 0), (6, 0), (7, 0), (8, 0)] T.mixed rfl rfl rfl (fun W => W.heap[lb9]? = w1.heap[lb9]? ∧ W.heap[lb16]? = w1.heap[lb16]? ∧ True) ⟨rfl, rfl, trivial⟩ ?_
  have c18 := Chg.drew w1;generalize World.drew w1 = w17 at c18 ⊢;have ht_lb9 : lb9 < w17.heap.size ∧ w17.heap[lb9]? = w1.heap[lb9]? := ⟨Nat.lt_of_lt_of_le hC6.lt c18.size, c18.block lb9 hC6.lt (by simp)⟩
  have ht_lb16 : lb16 < w17.heap.size ∧ w17.heap[lb16]? = w1.heap[lb16]? := ⟨Nat.lt_of_lt_of_le hC13.lt c18.size, c18.block lb16 hC13.lt (by simp)⟩
  replace HC := HC.then c18;replace ha := ha.tr0 c18;replace hb := hb.tr0 c18;refine sq_q rfl (fun W hT => r_move (v := .slice _ _ _) rfl) <| sq_q rfl (fun W hT => r_move (v := .int _ _) rfl) <| sq_q rfl (fun W hT => r_indexAddr T.u23 T.size9 (congrArg (fun z => Value.slice z _ _) hA5) rfl q0 q0) <| sq_q rfl (fun W hT => r_load1 (v := S _) T.one9 rfl (Cells.at (j := 0) (Cells.tr hC6 hT.1) rfl)) <| sq_q rfl (fun W hT => r_move (v := .slice _ _ _) rfl) <| sq_q rfl (fun W hT => r_move (v := .int _ _) rfl) <| sq_q rfl (fun W hT => r_indexAddr T.u23 T.size9 (congrArg (fun z => Value.slice z _ _) hA12) rfl q0 q0) <| sq_q rfl (fun W hT => r_load1 (v := S _) T.one9 rfl (Cells.at (j := 0) (Cells.tr hC13 hT.2.1) rfl)) <| sq_q rfl (fun W hT => r_sneq rfl rfl) <| sq_nil <| then_n <| x_cond rfl (fun h2 => ?_) (fun h2 => ?_)
  ·try simp only [nm, ne_eq] at h2
   have hxn : x3 ≠ x10 := by intro e; rw [e] at h2; simp at h2
   refine sr rfl <| aB rfl <| en <| x_ret <| block_r <| then_r <| then_r <| block_r <| then_r <| ret_tmp (v := .bool _) rfl rfl ?_;exact ⟨_, rfl, eq_no (get_ne hx4 hx11 hxn), HC⟩
  try simp only [nm, ne_eq] at h2
  have hxy : x3 = x10 := by simp_all
  refine x_skip <| block_n <| then_n <| x_region rfl <| mI rfl <| Wp rfl <| st_addn rfl rfl (by constructor <;> omega) <| aI rfl <| en <| ⟨i + 1, ?_, ?_, rfl, ⟨rfl, trivial⟩, ?_⟩
  ·refine ⟨?_, HC, ha, hb⟩;exact ⟨by omega, take_same ht hx4 hx11 hxy⟩
  ·show a.length - (i + 1) < a.length - i; omega
  exact q9
 try simp only [nm, ne_eq] at h1
 refine x_exit <| then_x <| then_x <| block_x <| then_n <| sr rfl <| aB rfl <| en <| x_ret <| ret_tmp (v := .bool _) rfl rfl ?_;exact ⟨_, rfl, eq_yes (by rw [List.take_of_length_le q0, List.take_of_length_le q0] at ht; exact ht), HC⟩
theorem rcmds_spec {a b : List Cm} {Aa Ab : Option Addr} {capa capb : Nat} {D D2 : Nat → Prop} {w : World} (ha : Sl cmE w D Aa a) (hb : Sl cmE w D2 Ab b) (hla : a.length ≤ 9223372036854775807) (hp : ∀ x, x ∈ a → ∀ (y : Cm) (vx vy : List Value) (W : World) {D1 D2 : Nat → Prop}, cmE.R W D1 x vx → cmE.R W D2 y vy → CallR Tryz.prog 8 #[.agg ⟨vx⟩, .agg ⟨vy⟩] W fun v w' => EqT x y W w' v) : CallR Tryz.prog 19 #[.slice Aa a.length capa, .slice Ab b.length capb] w fun v w' => EqT a b w w' v := by
 refine callR_of_wp (args := [_, _]) Tryz.func19 rfl (Nat.le_of_ble_eq_true rfl) ?_;have HC : Chg [] w w := .refl _;replace ha := ha.mono (D' := (fun k => k < w.heap.size)) (fun k hk _ => hk)
 replace hb := hb.mono (D' := (fun k => k < w.heap.size)) (fun k hk _ => hk)
 refine sr rfl <| aB rfl <| en <| x_seq <| sr rfl <| mL rfl <| Wp rfl <| st_len (ct := #[27]) (by rw [show ((#[27] : Array TypeId)[0]?).bind Tryz.prog.underlying = some (.slice 30) from T.u27]; rfl) rfl <| mL rfl <| Wp rfl <| st_len (ct := #[27]) (by rw [show ((#[27] : Array TypeId)[0]?).bind Tryz.prog.underlying = some (.slice 30) from T.u27]; rfl) rfl <| Wp rfl <| st_neq rfl rfl <| en <| x_cond rfl (fun h0 => ?_) (fun h0 => ?_)
 ·try simp only [nm, ne_eq] at h0
  refine sr rfl <| aB rfl <| en <| x_ret <| then_r <| ret_tmp (v := .bool _) rfl rfl ?_;exact ⟨_, rfl, eq_no (fun e => h0 (by rw [e])), HC⟩
 try simp only [nm, ne_eq] at h0
 have hll : a.length = b.length := by omega
 refine x_skip <| then_n <| x_seq <| sr rfl <| aI rfl <| en <| x_block <| x_loop (ι := Nat) [4, 5, 11, 12, 13, 14, 15, 16, 17, 18, 19, 20, 21, 22, 23, 24, 25, 26] (fun i => [(5, .int .i64 (i : Int))]) (fun i W => (i ≤ a.length ∧ a.take i = b.take i) ∧ (Chg [] w W) ∧ (Sl cmE W (fun k => k < w.heap.size) Aa a) ∧ (Sl cmE W (fun k => k < w.heap.size) Ab b)) (fun i => a.length - i) 0 ?_ ?_ ?_
 · exact ⟨rfl, trivial⟩
 ·refine ⟨?_, HC, ha, hb⟩;exact ⟨Nat.zero_le _, rfl⟩
 intro i G2 w1 ⟨⟨hi, ht⟩, HC, ha, hb⟩
 change wp _ _ _ _ _ (upds (over _ _ G2) [(5, .int .i64 (i : Int))]) _ _
 refine x_seq <| sr rfl <| mI rfl <| mL rfl <| Wp rfl <| st_len (ct := #[27]) (by rw [show ((#[27] : Array TypeId)[0]?).bind Tryz.prog.underlying = some (.slice 30) from T.u27]; rfl) rfl <| Wp rfl <| st_lss rfl rfl <| en <| x_cond rfl (fun h1 => ?_) (fun h1 => ?_)
 ·try simp only [nm, ne_eq] at h1
  refine x_skip <| then_n <| x_seq <| x_block <| x_seq ?_;obtain ⟨x3, hx4⟩ : ∃ zz, a[i]? = some zz := ⟨_, List.getElem?_eq_getElem q0⟩;obtain ⟨lb9, _, vs8, hA5, hR7, hC6⟩ := ha.at hx4;have hvU := hR7;obtain ⟨A1U, n1U, A2U, n2U, A3U, n3U, A4U, n4U, A5U, n5U, rfl, hAU, k1U, k2U, k3U, k4U, k5U⟩ := cm_open hR7;obtain ⟨x10, hx11⟩ : ∃ zz, b[i]? = some zz := ⟨_, List.getElem?_eq_getElem q0⟩;obtain ⟨lb16, _, vs15, hA12, hR14, hC13⟩ := hb.at hx11;have hvV := hR14;obtain ⟨A1V, n1V, A2V, n2V, A3V, n3V, A4V, n4V, A5V, n5V, rfl, hAV, k1V, k2V, k3V, k4V, k5V⟩ := cm_open hR14;refine x_draw [(0, 0), (1, 0), (2, 0), (3, 0), (4, 0), (5, 0), (6, 0), (7, 0), (8, 1), (9, 0)] T.mixed rfl rfl rfl (fun W => W.heap[lb9]? = w1.heap[lb9]? ∧ W.heap[lb16]? = w1.heap[lb16]? ∧ True) ⟨rfl, rfl, trivial⟩ ?_
  have c18 := Chg.drew w1;generalize World.drew w1 = w17 at c18 ⊢;have ht_lb9 : lb9 < w17.heap.size ∧ w17.heap[lb9]? = w1.heap[lb9]? := ⟨Nat.lt_of_lt_of_le hC6.lt c18.size, c18.block lb9 hC6.lt (by simp)⟩
  have ht_lb16 : lb16 < w17.heap.size ∧ w17.heap[lb16]? = w1.heap[lb16]? := ⟨Nat.lt_of_lt_of_le hC13.lt c18.size, c18.block lb16 hC13.lt (by simp)⟩
  replace HC := HC.then c18;replace ha := ha.tr0 c18;replace hb := hb.tr0 c18;replace hvU := Enc.chg hvU c18 q8;replace hvV := Enc.chg hvV c18 q8;refine sq_q rfl (fun W hT => r_move (v := .slice _ _ _) rfl) <| sq_q rfl (fun W hT => r_move (v := .int _ _) rfl) <| sq_q rfl (fun W hT => r_indexAddr T.u27 T.size30 (congrArg (fun z => Value.slice z _ _) hA5) rfl q0 q0) <| sq_q rfl (fun W hT => r_loadA (vs := [_, _, _, _, _, _, _, _, _]) T.agg30 rfl (Cells.tr hC6 hT.1) rfl) <| sq_q rfl (fun W hT => r_move (v := .slice _ _ _) rfl) <| sq_q rfl (fun W hT => r_move (v := .int _ _) rfl) <| sq_q rfl (fun W hT => r_indexAddr T.u27 T.size30 (congrArg (fun z => Value.slice z _ _) hA12) rfl q0 q0) <| sq_q rfl (fun W hT => r_loadA (vs := [_, _, _, _, _, _, _, _, _]) T.agg30 rfl (Cells.tr hC13 hT.2.1) rfl) <| sq_call1 rfl (r_call (ags := [_, _]) rfl rfl T.ent8 rfl) (hp _ (List.mem_of_getElem? hx4) _ _ _ _ hvU hvV) ?_
  rintro _ w19 ⟨r, rfl, hr, c20⟩;replace HC := HC.then c20;replace ha := ha.tr0 c20;replace hb := hb.tr0 c20;replace ht_lb9 := And.intro (Nat.lt_of_lt_of_le ht_lb9.1 c20.size) ((c20.block lb9 ht_lb9.1 (by simp)).trans ht_lb9.2)
  replace ht_lb16 := And.intro (Nat.lt_of_lt_of_le ht_lb16.1 c20.size) ((c20.block lb16 ht_lb16.1 (by simp)).trans ht_lb16.2)
  refine ⟨_, fun _ h => h, ⟨(by first | assumption | exact ht_lb9.2), (by first | assumption | exact ht_lb16.2), trivial⟩, ?_⟩
  refine sq_q rfl (fun W hT => r_not rfl) <| sq_nil <| then_n <| x_cond rfl (fun h2 => ?_) (fun h2 => ?_)
  ·try simp only [nm, ne_eq] at h2
   refine sr rfl <| aB rfl <| en <| x_ret <| block_r <| then_r <| then_r <| block_r <| then_r <| ret_tmp (v := .bool _) rfl rfl ?_;exact ⟨_, rfl, eq_no (get_ne hx4 hx11 (fun e => by have h7 := hr.2 e; simp_all)), HC⟩
  try simp only [nm, ne_eq] at h2
  have hxy : x3 = x10 := hr.1 (by first | assumption | simp_all)
  refine x_skip <| block_n <| then_n <| x_region rfl <| mI rfl <| Wp rfl <| st_addn rfl rfl (by constructor <;> omega) <| aI rfl <| en <| ⟨i + 1, ?_, ?_, rfl, ⟨rfl, trivial⟩, ?_⟩
  ·refine ⟨?_, HC, ha, hb⟩;exact ⟨by omega, take_same ht hx4 hx11 hxy⟩
  ·show a.length - (i + 1) < a.length - i; omega
  exact q9
 try simp only [nm, ne_eq] at h1
 refine x_exit <| then_x <| then_x <| block_x <| then_n <| sr rfl <| aB rfl <| en <| x_ret <| ret_tmp (v := .bool _) rfl rfl ?_;exact ⟨_, rfl, eq_yes (by rw [List.take_of_length_le q0, List.take_of_length_le q0] at ht; exact ht), HC⟩
set_option maxHeartbeats 1600000 in
theorem rsame_step {a b : Cm} {va vb : List Value} {D1 D2 : Nat → Prop} (w : World) (ha : cmE.R w D1 a va) (hb : cmE.R w D2 b vb) (hrec : ∀ x : Cm, SizeOf.sizeOf x < SizeOf.sizeOf a → ∀ (y : Cm) (vx vy : List Value) (W : World) {D1 D2 : Nat → Prop}, cmE.R W D1 x vx → cmE.R W D2 y vy → CallR Tryz.prog 8 #[.agg ⟨vx⟩, .agg ⟨vy⟩] W fun v w' => EqT x y W w' v) : CallR Tryz.prog 8 #[.agg ⟨va⟩, .agg ⟨vb⟩] w fun v w' => EqT a b w w' v := by
 obtain ⟨A1A, n1A, A2A, n2A, A3A, n3A, A4A, n4A, A5A, n5A, rfl, hAA, k1A, k2A, k3A, k4A, k5A⟩ := cm_open ha;obtain ⟨A1B, n1B, A2B, n2B, A3B, n3B, A4B, n4B, A5B, n5B, rfl, hAB, k1B, k2B, k3B, k4B, k5B⟩ := cm_open hb;have ha5 := hAA.items.mono (D' := (fun k => k < w.heap.size)) (fun k hk _ => hk)
 have hb5q := hAB.items.mono (D' := (fun k => k < w.heap.size)) (fun k hk _ => hk)
 have lk1 := Nat.le_trans k1A.1 k1A.2;have lk3 := Nat.le_trans k3A.1 k3A.2;have lk5 := Nat.le_trans k5A.1 k5A.2;refine callR_of_wp (args := [_, _]) Tryz.func8 rfl (Nat.le_of_ble_eq_true rfl) ?_;have HC : Chg [] w w := .refl _;refine sr rfl <| Wp rfl <| st_box (v := .agg ⟨[.int _ _, S _, .bool _, .bool _, .slice _ _ _, .slice _ _ _, .slice _ _ _, .slice _ _ _, .slice _ _ _]⟩) (vs := [_, _, _, _, _, _, _, _, _]) rfl rfl ?_;intro b2 w1 e2 c3 hb4;have ge_b2 := gB e2 HC.size;replace HC := HC.then c3;replace hAA := CmAt.chg hAA c3 q8;replace hAB := CmAt.chg hAB c3 q8;replace ha5 := ha5.tr0 c3;replace hb5q := hb5q.tr0 c3;clear e2;refine Wp rfl <| st_box (v := .agg ⟨[.int _ _, S _, .bool _, .bool _, .slice _ _ _, .slice _ _ _, .slice _ _ _, .slice _ _ _, .slice _ _ _]⟩) (vs := [_, _, _, _, _, _, _, _, _]) rfl rfl ?_;intro b3 w5 e6 c7 hb8;have ge_b3 := gB e6 HC.size;have ne_b2_b3 := nF e6 hb4.ne_size;replace HC := HC.then c7;replace hAA := CmAt.chg hAA c7 q8;replace hAB := CmAt.chg hAB c7 q8;replace ha5 := ha5.tr0 c7;replace hb5q := hb5q.tr0 c7;replace hb4 := hb4.tr0 c7;clear e6;refine aB rfl <| en <| x_seq <| sr rfl <| fa T.fld30_0 rfl <| lI T.one3 rfl (hb4.cell rfl) <| fa T.fld30_0 rfl <| lI T.one3 rfl (hb8.cell rfl) <| Wp rfl <| st_neq rfl rfl <| mB rfl <| w_split (d := 13) rfl (fun g9 => ?_) (fun g9 => ?_)
 ·try simp only [nm, ne_eq] at g9
  iterate 5 refine w_no 5 13 false ?_
  refine pT rfl rfl <| mB rfl ?_;iterate 5 refine w_no 12 20 false ?_
  refine pT rfl rfl <| mB rfl ?_;iterate 5 refine w_no 19 27 false ?_
  refine pT rfl rfl <| mB rfl ?_;iterate 7 refine w_no 26 34 false ?_
  refine pT rfl rfl <| mB rfl ?_;iterate 7 refine w_no 35 43 false ?_
  refine pT rfl rfl <| mB rfl ?_;iterate 7 refine w_no 44 52 false ?_
  refine pT rfl rfl <| en <| x_cond (t := true) rfl (fun h0 => ?_) (fun h0 => ?_)
  rotate_left
  · exact absurd h0 (by decide)
  refine sr rfl <| aB rfl <| en <| x_ret <| then_r <| ret_tmp (v := .bool _) rfl rfl ?_;exact ⟨_, rfl, eq_no (fun e => by subst e; simp_all), HC⟩
 try simp only [nm, ne_eq] at g9
 refine w_yes 5 13 false <| st_fieldAddr T.fld30_1 rfl <| w_yes 5 13 false <| st_load1 (v := S _) T.one9 rfl (hb4.cell rfl) <| w_yes 5 13 false <| st_fieldAddr T.fld30_1 rfl <| w_yes 5 13 false <| st_load1 (v := S _) T.one9 rfl (hb8.cell rfl) <| w_yes 5 13 false <| st_sneq rfl rfl <| pF rfl rfl <| mB rfl <| w_split (d := 20) rfl (fun g10 => ?_) (fun g10 => ?_)
 ·try simp only [nm, ne_eq] at g10
  iterate 5 refine w_no 12 20 false ?_
  refine pT rfl rfl <| mB rfl ?_;iterate 5 refine w_no 19 27 false ?_
  refine pT rfl rfl <| mB rfl ?_;iterate 7 refine w_no 26 34 false ?_
  refine pT rfl rfl <| mB rfl ?_;iterate 7 refine w_no 35 43 false ?_
  refine pT rfl rfl <| mB rfl ?_;iterate 7 refine w_no 44 52 false ?_
  refine pT rfl rfl <| en <| x_cond (t := true) rfl (fun h0 => ?_) (fun h0 => ?_)
  rotate_left
  · exact absurd h0 (by decide)
  refine sr rfl <| aB rfl <| en <| x_ret <| then_r <| ret_tmp (v := .bool _) rfl rfl ?_;exact ⟨_, rfl, eq_no (fun e => by subst e; simp_all), HC⟩
 try simp only [nm, ne_eq] at g10
 refine w_yes 12 20 false <| st_fieldAddr T.fld30_2 rfl <| w_yes 12 20 false <| st_load1 (v := .bool _) T.one4 rfl (hb4.cell rfl) <| w_yes 12 20 false <| st_fieldAddr T.fld30_2 rfl <| w_yes 12 20 false <| st_load1 (v := .bool _) T.one4 rfl (hb8.cell rfl) <| w_yes 12 20 false <| st_bneq T.u4 rfl rfl <| pF rfl rfl <| mB rfl <| w_split (d := 27) rfl (fun g11 => ?_) (fun g11 => ?_)
 ·try simp only [nm, ne_eq] at g11
  iterate 5 refine w_no 19 27 false ?_
  refine pT rfl rfl <| mB rfl ?_;iterate 7 refine w_no 26 34 false ?_
  refine pT rfl rfl <| mB rfl ?_;iterate 7 refine w_no 35 43 false ?_
  refine pT rfl rfl <| mB rfl ?_;iterate 7 refine w_no 44 52 false ?_
  refine pT rfl rfl <| en <| x_cond (t := true) rfl (fun h0 => ?_) (fun h0 => ?_)
  rotate_left
  · exact absurd h0 (by decide)
  refine sr rfl <| aB rfl <| en <| x_ret <| then_r <| ret_tmp (v := .bool _) rfl rfl ?_;exact ⟨_, rfl, eq_no (fun e => by subst e; simp_all), HC⟩
 try simp only [nm, ne_eq] at g11
 refine w_yes 19 27 false <| st_fieldAddr T.fld30_3 rfl <| w_yes 19 27 false <| st_load1 (v := .bool _) T.one4 rfl (hb4.cell rfl) <| w_yes 19 27 false <| st_fieldAddr T.fld30_3 rfl <| w_yes 19 27 false <| st_load1 (v := .bool _) T.one4 rfl (hb8.cell rfl) <| w_yes 19 27 false <| st_bneq T.u4 rfl rfl <| pF rfl rfl <| mB rfl <| w_split (d := 34) rfl (fun g12 => ?_) (fun g12 => ?_)
 ·try simp only [nm, ne_eq] at g12
  iterate 7 refine w_no 26 34 false ?_
  refine pT rfl rfl <| mB rfl ?_;iterate 7 refine w_no 35 43 false ?_
  refine pT rfl rfl <| mB rfl ?_;iterate 7 refine w_no 44 52 false ?_
  refine pT rfl rfl <| en <| x_cond (t := true) rfl (fun h0 => ?_) (fun h0 => ?_)
  rotate_left
  · exact absurd h0 (by decide)
  refine sr rfl <| aB rfl <| en <| x_ret <| then_r <| ret_tmp (v := .bool _) rfl rfl ?_;exact ⟨_, rfl, eq_no (fun e => by subst e; simp_all), HC⟩
 try simp only [nm, ne_eq] at g12
 refine w_yes 26 34 false <| st_fieldAddr T.fld30_4 rfl <| w_yes 26 34 false <| st_load1 (v := .slice _ _ _) T.one25 rfl (hb4.cell rfl) <| w_yes 26 34 false <| st_len (ct := #[25]) (by rw [show ((#[25] : Array TypeId)[0]?).bind Tryz.prog.underlying = some (.slice 56) from T.u25]; rfl) rfl <| w_yes 26 34 false <| st_fieldAddr T.fld30_4 rfl <| w_yes 26 34 false <| st_load1 (v := .slice _ _ _) T.one25 rfl (hb8.cell rfl) <| w_yes 26 34 false <| st_len (ct := #[25]) (by rw [show ((#[25] : Array TypeId)[0]?).bind Tryz.prog.underlying = some (.slice 56) from T.u25]; rfl) rfl <| w_yes 26 34 false <| st_neq rfl rfl <| pF rfl rfl <| mB rfl <| w_split (d := 43) rfl (fun g13 => ?_) (fun g13 => ?_)
 ·try simp only [nm, ne_eq] at g13
  iterate 7 refine w_no 35 43 false ?_
  refine pT rfl rfl <| mB rfl ?_;iterate 7 refine w_no 44 52 false ?_
  refine pT rfl rfl <| en <| x_cond (t := true) rfl (fun h0 => ?_) (fun h0 => ?_)
  rotate_left
  · exact absurd h0 (by decide)
  refine sr rfl <| aB rfl <| en <| x_ret <| then_r <| ret_tmp (v := .bool _) rfl rfl ?_;exact ⟨_, rfl, eq_no (fun e => by subst e; simp_all), HC⟩
 try simp only [nm, ne_eq] at g13
 refine w_yes 35 43 false <| st_fieldAddr T.fld30_6 rfl <| w_yes 35 43 false <| st_load1 (v := .slice _ _ _) T.one26 rfl (hb4.cell rfl) <| w_yes 35 43 false <| st_len (ct := #[26]) (by rw [show ((#[26] : Array TypeId)[0]?).bind Tryz.prog.underlying = some (.slice 40) from T.u26]; rfl) rfl <| w_yes 35 43 false <| st_fieldAddr T.fld30_6 rfl <| w_yes 35 43 false <| st_load1 (v := .slice _ _ _) T.one26 rfl (hb8.cell rfl) <| w_yes 35 43 false <| st_len (ct := #[26]) (by rw [show ((#[26] : Array TypeId)[0]?).bind Tryz.prog.underlying = some (.slice 40) from T.u26]; rfl) rfl <| w_yes 35 43 false <| st_neq rfl rfl <| pF rfl rfl <| mB rfl <| w_split (d := 52) rfl (fun g14 => ?_) (fun g14 => ?_)
 ·try simp only [nm, ne_eq] at g14
  iterate 7 refine w_no 44 52 false ?_
  refine pT rfl rfl <| en <| x_cond (t := true) rfl (fun h0 => ?_) (fun h0 => ?_)
  rotate_left
  · exact absurd h0 (by decide)
  refine sr rfl <| aB rfl <| en <| x_ret <| then_r <| ret_tmp (v := .bool _) rfl rfl ?_;exact ⟨_, rfl, eq_no (fun e => by subst e; simp_all), HC⟩
 try simp only [nm, ne_eq] at g14
 refine w_yes 44 52 false <| st_fieldAddr T.fld30_8 rfl <| w_yes 44 52 false <| st_load1 (v := .slice _ _ _) T.one28 rfl (hb4.cell rfl) <| w_yes 44 52 false <| st_len (ct := #[28]) (by rw [show ((#[28] : Array TypeId)[0]?).bind Tryz.prog.underlying = some (.slice 59) from T.u28]; rfl) rfl <| w_yes 44 52 false <| st_fieldAddr T.fld30_8 rfl <| w_yes 44 52 false <| st_load1 (v := .slice _ _ _) T.one28 rfl (hb8.cell rfl) <| w_yes 44 52 false <| st_len (ct := #[28]) (by rw [show ((#[28] : Array TypeId)[0]?).bind Tryz.prog.underlying = some (.slice 59) from T.u28]; rfl) rfl <| w_yes 44 52 false <| st_neq rfl rfl <| pF rfl rfl <| en <| x_cond rfl (fun h0 => ?_) (fun h0 => ?_)
 ·try simp only [nm, ne_eq] at h0
  refine sr rfl <| aB rfl <| en <| x_ret <| then_r <| ret_tmp (v := .bool _) rfl rfl ?_;exact ⟨_, rfl, eq_no (fun e => by subst e; simp_all), HC⟩
 try simp only [nm, ne_eq] at h0
 have hl1 : a.asg.length = b.asg.length := by first | omega | simp_all
 have hl3 : a.rds.length = b.rds.length := by first | omega | simp_all
 have hl5 : a.items.length = b.items.length := by first | omega | simp_all
 have hflat : a.kind = b.kind ∧ a.name = b.name ∧ a.bang = b.bang ∧ a.inn = b.inn := by refine ⟨?_, ?_, ?_, ?_⟩ <;> first | assumption | simp_all
 refine x_skip <| then_n <| x_seq <| x_seq ?_;have ha1 := hAA.asg;have hb1 := hAB.asg;have ha3 := hAA.rds;have hb3 := hAB.rds;refine x_region rfl <| aI rfl <| en <| x_block <| x_loop (ι := Nat) [4, 5, 61, 62, 63, 64, 65, 66, 67, 68, 69, 70, 71, 72, 73, 74, 75, 76, 77, 78] (fun i => [(5, .int .i64 (i : Int))]) (fun i W => (i ≤ a.asg.length ∧ a.asg.take i = b.asg.take i) ∧ (Chg [] w W) ∧ (CmAt W D1 a A1A A2A A3A A4A A5A) ∧ (CmAt W D2 b A1B A2B A3B A4B A5B) ∧ (Sl itE W (fun k => k < w.heap.size) A5A a.items) ∧ (Sl itE W (fun k => k < w.heap.size) A5B b.items) ∧ (Blk W b2 (cmC a A1A n1A A2A n2A A3A n3A A4A n4A A5A n5A) 30) ∧ (Blk W b3 (cmC b A1B n1B A2B n2B A3B n3B A4B n4B A5B n5B) 30) ∧ (Sl pairE2 W D1 A1A a.asg) ∧ (Sl pairE2 W D2 A1B b.asg) ∧ (Sl rdrE W D1 A3A a.rds) ∧ (Sl rdrE W D2 A3B b.rds)) (fun i => a.asg.length - i) 0 ?_ ?_ ?_
 · exact ⟨rfl, trivial⟩
 ·refine ⟨?_, HC, hAA, hAB, ha5, hb5q, hb4, hb8, ha1, hb1, ha3, hb3⟩;exact ⟨Nat.zero_le _, rfl⟩
 intro i G16 w15 ⟨⟨hi, ht⟩, HC, hAA, hAB, ha5, hb5q, hb4, hb8, ha1, hb1, ha3, hb3⟩
 change wp _ _ _ _ _ (upds (over _ _ G16) [(5, .int .i64 (i : Int))]) _ _
 refine x_seq <| sr rfl <| mI rfl <| fa T.fld30_4 rfl <| lL T.one25 rfl (hb4.cell rfl) <| Wp rfl <| st_len (ct := #[25]) (by rw [show ((#[25] : Array TypeId)[0]?).bind Tryz.prog.underlying = some (.slice 56) from T.u25]; rfl) rfl <| Wp rfl <| st_lss rfl rfl <| en <| x_cond rfl (fun h1 => ?_) (fun h1 => ?_)
 ·try simp only [nm, ne_eq] at h1
  refine x_skip <| then_n <| x_seq <| x_block <| x_seq ?_;obtain ⟨x17, hx18⟩ : ∃ zz, a.asg[i]? = some zz := ⟨_, List.getElem?_eq_getElem q0⟩;obtain ⟨lb23, _, vs22, hA19, hR21, hC20⟩ := ha1.at hx18;obtain rfl : vs22 = [S x17.1, S x17.2] := hR21;obtain ⟨x24, hx25⟩ : ∃ zz, b.asg[i]? = some zz := ⟨_, List.getElem?_eq_getElem q0⟩;obtain ⟨lb30, _, vs29, hA26, hR28, hC27⟩ := hb1.at hx25;obtain rfl : vs29 = [S x24.1, S x24.2] := hR28;refine x_draw [(0, 0), (1, 0), (2, 0), (3, 0), (4, 0), (5, 0), (6, 0), (7, 0), (8, 0), (9, 0), (10, 0)] T.mixed rfl rfl rfl (fun W => W.heap[b2]? = w15.heap[b2]? ∧ W.heap[b3]? = w15.heap[b3]? ∧ W.heap[lb23]? = w15.heap[lb23]? ∧ W.heap[lb30]? = w15.heap[lb30]? ∧ True) ⟨rfl, rfl, rfl, rfl, trivial⟩ ?_
  have o33 := hb4;have o34 := hb8;have c32 := Chg.drew w15;generalize World.drew w15 = w31 at c32 ⊢;have ht_lb23 : lb23 < w31.heap.size ∧ w31.heap[lb23]? = w15.heap[lb23]? := ⟨Nat.lt_of_lt_of_le hC20.lt c32.size, c32.block lb23 hC20.lt (by simp)⟩
  have ht_lb30 : lb30 < w31.heap.size ∧ w31.heap[lb30]? = w15.heap[lb30]? := ⟨Nat.lt_of_lt_of_le hC27.lt c32.size, c32.block lb30 hC27.lt (by simp)⟩
  replace HC := HC.then c32;replace hAA := CmAt.chg hAA c32 q8;replace hAB := CmAt.chg hAB c32 q8;replace ha5 := ha5.tr0 c32;replace hb5q := hb5q.tr0 c32;replace hb4 := hb4.tr0 c32;replace hb8 := hb8.tr0 c32;replace ha1 := ha1.tr0 c32;replace hb1 := hb1.tr0 c32;replace ha3 := ha3.tr0 c32;replace hb3 := hb3.tr0 c32;refine sq_q rfl (fun W hT => r_fieldAddr T.fld30_4 rfl) <| sq_q rfl (fun W hT => r_load1 (v := .slice _ _ _) T.one25 rfl (Blk.cell (show Blk W b2 _ _ from hT.1.trans o33) rfl)) <| sq_q rfl (fun W hT => r_move (v := .int _ _) rfl) <| sq_q rfl (fun W hT => r_indexAddr T.u25 T.size56 (congrArg (fun z => Value.slice z _ _) hA19) rfl q0 q0) <| sq_q rfl (fun W hT => r_loadA (vs := [_, _]) T.agg56 rfl (Cells.tr hC20 hT.2.2.1) rfl) <| sq_q rfl (fun W hT => r_fieldAddr T.fld30_4 rfl) <| sq_q rfl (fun W hT => r_load1 (v := .slice _ _ _) T.one25 rfl (Blk.cell (show Blk W b3 _ _ from hT.2.1.trans o34) rfl)) <| sq_q rfl (fun W hT => r_move (v := .int _ _) rfl) <| sq_q rfl (fun W hT => r_indexAddr T.u25 T.size56 (congrArg (fun z => Value.slice z _ _) hA26) rfl q0 q0) <| sq_q rfl (fun W hT => r_loadA (vs := [_, _]) T.agg56 rfl (Cells.tr hC27 hT.2.2.2.1) rfl) <| sq_q rfl (fun W hT => r_aneq (va := [_, _]) (vb := [_, _]) T.eq56 rfl rfl rfl) ?_
  clear o33;clear o34;refine sq_nil <| then_n <| x_cond rfl (fun h2 => ?_) (fun h2 => ?_)
  ·try simp only [nm, ne_eq] at h2
   refine sr rfl <| aB rfl <| en <| x_ret <| block_r <| then_r <| then_r <| block_r <| then_r <| ret_tmp (v := .bool _) rfl rfl ?_;exact ⟨_, rfl, eq_no (fun e => by subst e; have h7 := hx18.symm.trans hx25; cases h7; simp at h2), HC⟩
  try simp only [nm, ne_eq] at h2
  have hxy : x17 = x24 := by cases x17; cases x24; simp_all
  refine x_skip <| block_n <| then_n <| x_region rfl <| mI rfl <| Wp rfl <| st_addn rfl rfl (by constructor <;> omega) <| aI rfl <| en <| ⟨i + 1, ?_, ?_, rfl, ⟨rfl, trivial⟩, ?_⟩
  ·refine ⟨?_, HC, hAA, hAB, ha5, hb5q, hb4, hb8, ha1, hb1, ha3, hb3⟩;exact ⟨by omega, take_same ht hx18 hx25 hxy⟩
  ·show a.asg.length - (i + 1) < a.asg.length - i; omega
  exact q9
 try simp only [nm, ne_eq] at h1
 have he1 : a.asg = b.asg := by rw [List.take_of_length_le q0, List.take_of_length_le q0] at ht; exact ht
 refine x_exit <| then_x <| then_x <| block_x <| then_n <| x_seq <| sr rfl <| aI rfl <| en <| x_block <| x_loop (ι := Nat) [4, 6, 79, 80, 81, 82, 83, 84, 85, 86, 87, 88, 89, 90, 91, 92, 93, 94, 95, 96] (fun i => [(6, .int .i64 (i : Int))]) (fun i W => (i ≤ a.rds.length ∧ a.rds.take i = b.rds.take i) ∧ (Chg [] w W) ∧ (CmAt W D1 a A1A A2A A3A A4A A5A) ∧ (CmAt W D2 b A1B A2B A3B A4B A5B) ∧ (Sl itE W (fun k => k < w.heap.size) A5A a.items) ∧ (Sl itE W (fun k => k < w.heap.size) A5B b.items) ∧ (Blk W b2 (cmC a A1A n1A A2A n2A A3A n3A A4A n4A A5A n5A) 30) ∧ (Blk W b3 (cmC b A1B n1B A2B n2B A3B n3B A4B n4B A5B n5B) 30) ∧ (Sl pairE2 W D1 A1A a.asg) ∧ (Sl pairE2 W D2 A1B b.asg) ∧ (Sl rdrE W D1 A3A a.rds) ∧ (Sl rdrE W D2 A3B b.rds)) (fun i => a.rds.length - i) 0 ?_ ?_ ?_
 · exact ⟨rfl, trivial⟩
 ·refine ⟨?_, HC, hAA, hAB, ha5, hb5q, hb4, hb8, ha1, hb1, ha3, hb3⟩;exact ⟨Nat.zero_le _, rfl⟩
 intro i G36 w35 ⟨⟨hi, ht⟩, HC, hAA, hAB, ha5, hb5q, hb4, hb8, ha1, hb1, ha3, hb3⟩
 change wp _ _ _ _ _ (upds (over _ _ G36) [(6, .int .i64 (i : Int))]) _ _
 refine x_seq <| sr rfl <| mI rfl <| fa T.fld30_6 rfl <| lL T.one26 rfl (hb4.cell rfl) <| Wp rfl <| st_len (ct := #[26]) (by rw [show ((#[26] : Array TypeId)[0]?).bind Tryz.prog.underlying = some (.slice 40) from T.u26]; rfl) rfl <| Wp rfl <| st_lss rfl rfl <| en <| x_cond rfl (fun h3 => ?_) (fun h3 => ?_)
 ·try simp only [nm, ne_eq] at h3
  refine x_skip <| then_n <| x_seq <| x_block <| x_seq ?_;obtain ⟨x37, hx38⟩ : ∃ zz, a.rds[i]? = some zz := ⟨_, List.getElem?_eq_getElem q0⟩;obtain ⟨lb43, _, vs42, hA39, hR41, hC40⟩ := ha3.at hx38;obtain rfl : vs42 = [.int .i64 x37.fd, S x37.op, S x37.word, S x37.here, .bool x37.raw] := hR41;obtain ⟨x44, hx45⟩ : ∃ zz, b.rds[i]? = some zz := ⟨_, List.getElem?_eq_getElem q0⟩;obtain ⟨lb50, _, vs49, hA46, hR48, hC47⟩ := hb3.at hx45;obtain rfl : vs49 = [.int .i64 x44.fd, S x44.op, S x44.word, S x44.here, .bool x44.raw] := hR48;refine x_draw [(0, 0), (1, 0), (2, 0), (3, 0), (4, 0), (5, 0), (6, 0), (7, 0), (8, 0), (9, 0), (10, 0)] T.mixed rfl rfl rfl (fun W => W.heap[b2]? = w35.heap[b2]? ∧ W.heap[b3]? = w35.heap[b3]? ∧ W.heap[lb43]? = w35.heap[lb43]? ∧ W.heap[lb50]? = w35.heap[lb50]? ∧ True) ⟨rfl, rfl, rfl, rfl, trivial⟩ ?_
  have o53 := hb4;have o54 := hb8;have c52 := Chg.drew w35;generalize World.drew w35 = w51 at c52 ⊢;have ht_lb43 : lb43 < w51.heap.size ∧ w51.heap[lb43]? = w35.heap[lb43]? := ⟨Nat.lt_of_lt_of_le hC40.lt c52.size, c52.block lb43 hC40.lt (by simp)⟩
  have ht_lb50 : lb50 < w51.heap.size ∧ w51.heap[lb50]? = w35.heap[lb50]? := ⟨Nat.lt_of_lt_of_le hC47.lt c52.size, c52.block lb50 hC47.lt (by simp)⟩
  replace HC := HC.then c52;replace hAA := CmAt.chg hAA c52 q8;replace hAB := CmAt.chg hAB c52 q8;replace ha5 := ha5.tr0 c52;replace hb5q := hb5q.tr0 c52;replace hb4 := hb4.tr0 c52;replace hb8 := hb8.tr0 c52;replace ha1 := ha1.tr0 c52;replace hb1 := hb1.tr0 c52;replace ha3 := ha3.tr0 c52;replace hb3 := hb3.tr0 c52;refine sq_q rfl (fun W hT => r_fieldAddr T.fld30_6 rfl) <| sq_q rfl (fun W hT => r_load1 (v := .slice _ _ _) T.one26 rfl (Blk.cell (show Blk W b2 _ _ from hT.1.trans o53) rfl)) <| sq_q rfl (fun W hT => r_move (v := .int _ _) rfl) <| sq_q rfl (fun W hT => r_indexAddr T.u26 T.size40 (congrArg (fun z => Value.slice z _ _) hA39) rfl q0 q0) <| sq_q rfl (fun W hT => r_loadA (vs := [_, _, _, _, _]) T.agg40 rfl (Cells.tr hC40 hT.2.2.1) rfl) <| sq_q rfl (fun W hT => r_fieldAddr T.fld30_6 rfl) <| sq_q rfl (fun W hT => r_load1 (v := .slice _ _ _) T.one26 rfl (Blk.cell (show Blk W b3 _ _ from hT.2.1.trans o54) rfl)) <| sq_q rfl (fun W hT => r_move (v := .int _ _) rfl) <| sq_q rfl (fun W hT => r_indexAddr T.u26 T.size40 (congrArg (fun z => Value.slice z _ _) hA46) rfl q0 q0) <| sq_q rfl (fun W hT => r_loadA (vs := [_, _, _, _, _]) T.agg40 rfl (Cells.tr hC47 hT.2.2.2.1) rfl) <| sq_q rfl (fun W hT => r_aneq (va := [_, _, _, _, _]) (vb := [_, _, _, _, _]) T.eq40 rfl rfl rfl) ?_
  clear o53;clear o54;refine sq_nil <| then_n <| x_cond rfl (fun h4 => ?_) (fun h4 => ?_)
  ·try simp only [nm, ne_eq] at h4
   refine sr rfl <| aB rfl <| en <| x_ret <| block_r <| then_r <| then_r <| block_r <| then_r <| ret_tmp (v := .bool _) rfl rfl ?_;exact ⟨_, rfl, eq_no (fun e => by subst e; have h7 := hx38.symm.trans hx45; cases h7; simp at h4), HC⟩
  try simp only [nm, ne_eq] at h4
  have hxy : x37 = x44 := by cases x37; cases x44; simp_all
  refine x_skip <| block_n <| then_n <| x_region rfl <| mI rfl <| Wp rfl <| st_addn rfl rfl (by constructor <;> omega) <| aI rfl <| en <| ⟨i + 1, ?_, ?_, rfl, ⟨rfl, trivial⟩, ?_⟩
  ·refine ⟨?_, HC, hAA, hAB, ha5, hb5q, hb4, hb8, ha1, hb1, ha3, hb3⟩;exact ⟨by omega, take_same ht hx38 hx45 hxy⟩
  ·show a.rds.length - (i + 1) < a.rds.length - i; omega
  exact q9
 try simp only [nm, ne_eq] at h3
 have he3 : a.rds = b.rds := by rw [List.take_of_length_le q0, List.take_of_length_le q0] at ht; exact ht
 refine x_exit <| then_x <| then_x <| block_x <| then_n <| x_seq <| sr rfl <| aI rfl <| en <| x_block <| x_loop (ι := Nat) [4, 7, 97, 98, 99, 100, 101, 102, 103, 104, 105, 106, 107, 108, 109, 110, 111, 112, 113, 114, 115, 116, 117, 118, 119, 120, 121, 122, 123, 124, 125, 126, 127, 128, 129, 130, 131, 132, 133] (fun i => [(7, .int .i64 (i : Int))]) (fun i W => (i ≤ a.items.length ∧ a.items.take i = b.items.take i) ∧ (Chg [] w W) ∧ (CmAt W D1 a A1A A2A A3A A4A A5A) ∧ (CmAt W D2 b A1B A2B A3B A4B A5B) ∧ (Sl itE W (fun k => k < w.heap.size) A5A a.items) ∧ (Sl itE W (fun k => k < w.heap.size) A5B b.items) ∧ (Blk W b2 (cmC a A1A n1A A2A n2A A3A n3A A4A n4A A5A n5A) 30) ∧ (Blk W b3 (cmC b A1B n1B A2B n2B A3B n3B A4B n4B A5B n5B) 30) ∧ (Sl pairE2 W D1 A1A a.asg) ∧ (Sl pairE2 W D2 A1B b.asg) ∧ (Sl rdrE W D1 A3A a.rds) ∧ (Sl rdrE W D2 A3B b.rds)) (fun i => a.items.length - i) 0 ?_ ?_ ?_
 · exact ⟨rfl, trivial⟩
 ·refine ⟨?_, HC, hAA, hAB, ha5, hb5q, hb4, hb8, ha1, hb1, ha3, hb3⟩;exact ⟨Nat.zero_le _, rfl⟩
 intro i G56 w55 ⟨⟨hi, ht⟩, HC, hAA, hAB, ha5, hb5q, hb4, hb8, ha1, hb1, ha3, hb3⟩
 change wp _ _ _ _ _ (upds (over _ _ G56) [(7, .int .i64 (i : Int))]) _ _
 refine x_seq <| sr rfl <| mI rfl <| fa T.fld30_8 rfl <| lL T.one28 rfl (hb4.cell rfl) <| Wp rfl <| st_len (ct := #[28]) (by rw [show ((#[28] : Array TypeId)[0]?).bind Tryz.prog.underlying = some (.slice 59) from T.u28]; rfl) rfl <| Wp rfl <| st_lss rfl rfl <| en <| x_cond rfl (fun h5 => ?_) (fun h5 => ?_)
 ·try simp only [nm, ne_eq] at h5
  refine x_skip <| then_n <| x_seq <| x_block <| x_seq ?_;obtain ⟨x57, hx58⟩ : ∃ zz, a.items[i]? = some zz := ⟨_, List.getElem?_eq_getElem q0⟩;obtain ⟨lb63, _, vs62, hA59, hR61, hC60⟩ := ha5.at hx58;have hvU := hR61;obtain ⟨_, _, rfl, ⟨I1U, m1U, rfl, k1U, k2U, hI1U⟩, ⟨I2U, m2U, rfl, k3U, k4U, hI2U⟩⟩ := hR61;obtain ⟨x64, hx65⟩ : ∃ zz, b.items[i]? = some zz := ⟨_, List.getElem?_eq_getElem q0⟩;obtain ⟨lb70, _, vs69, hA66, hR68, hC67⟩ := hb5q.at hx65;have hvV := hR68;obtain ⟨_, _, rfl, ⟨I1V, m1V, rfl, k1V, k2V, hI1V⟩, ⟨I2V, m2V, rfl, k3V, k4V, hI2V⟩⟩ := hR68;refine x_draw [(0, 0), (1, 0), (2, 0), (3, 0), (4, 0), (5, 0), (6, 0), (7, 0), (8, 0), (9, 0), (10, 0), (11, 0), (12, 1), (13, 0), (14, 0), (15, 0), (16, 0), (17, 0), (18, 0), (19, 0), (20, 0), (21, 0), (22, 0), (23, 0), (24, 0), (25, 0), (26, 0), (27, 1), (28, 0), (29, 0)] T.mixed rfl rfl rfl (fun W => W.heap[b2]? = w55.heap[b2]? ∧ W.heap[b3]? = w55.heap[b3]? ∧ W.heap[lb63]? = w55.heap[lb63]? ∧ W.heap[lb70]? = w55.heap[lb70]? ∧ W.heap[lb63]? = w55.heap[lb63]? ∧ W.heap[lb70]? = w55.heap[lb70]? ∧ True) ⟨rfl, rfl, rfl, rfl, rfl, rfl, trivial⟩ ?_
  have o73 := hb4;have o74 := hb8;have c72 := Chg.drew w55;generalize World.drew w55 = w71 at c72 ⊢;have ht_lb63 : lb63 < w71.heap.size ∧ w71.heap[lb63]? = w55.heap[lb63]? := ⟨Nat.lt_of_lt_of_le hC60.lt c72.size, c72.block lb63 hC60.lt (by simp)⟩
  have ht_lb70 : lb70 < w71.heap.size ∧ w71.heap[lb70]? = w55.heap[lb70]? := ⟨Nat.lt_of_lt_of_le hC67.lt c72.size, c72.block lb70 hC67.lt (by simp)⟩
  have ht_lb63 : lb63 < w71.heap.size ∧ w71.heap[lb63]? = w55.heap[lb63]? := ⟨Nat.lt_of_lt_of_le hC60.lt c72.size, c72.block lb63 hC60.lt (by simp)⟩
  have ht_lb70 : lb70 < w71.heap.size ∧ w71.heap[lb70]? = w55.heap[lb70]? := ⟨Nat.lt_of_lt_of_le hC67.lt c72.size, c72.block lb70 hC67.lt (by simp)⟩
  replace HC := HC.then c72;replace hAA := CmAt.chg hAA c72 q8;replace hAB := CmAt.chg hAB c72 q8;replace ha5 := ha5.tr0 c72;replace hb5q := hb5q.tr0 c72;replace hb4 := hb4.tr0 c72;replace hb8 := hb8.tr0 c72;replace ha1 := ha1.tr0 c72;replace hb1 := hb1.tr0 c72;replace ha3 := ha3.tr0 c72;replace hb3 := hb3.tr0 c72;replace hvU := Enc.chg hvU c72 q8;replace hvV := Enc.chg hvV c72 q8;refine sq_q rfl (fun W hT => r_fieldAddr T.fld30_8 rfl) <| sq_q rfl (fun W hT => r_load1 (v := .slice _ _ _) T.one28 rfl (Blk.cell (show Blk W b2 _ _ from hT.1.trans o73) rfl)) <| sq_q rfl (fun W hT => r_move (v := .int _ _) rfl) <| sq_q rfl (fun W hT => r_indexAddr T.u28 T.size59 (congrArg (fun z => Value.slice z _ _) hA59) rfl q0 q0) <| sq_q rfl (fun W hT => r_fieldAddr T.fld59_0 rfl) <| sq_q rfl (fun W hT => r_load1 (v := .slice _ _ _) T.one23 rfl (Cells.at (j := 0) (Cells.tr hC60 hT.2.2.2.2.1) rfl)) <| sq_q rfl (fun W hT => r_fieldAddr T.fld30_8 rfl) <| sq_q rfl (fun W hT => r_load1 (v := .slice _ _ _) T.one28 rfl (Blk.cell (show Blk W b3 _ _ from hT.2.1.trans o74) rfl)) <| sq_q rfl (fun W hT => r_move (v := .int _ _) rfl) <| sq_q rfl (fun W hT => r_indexAddr T.u28 T.size59 (congrArg (fun z => Value.slice z _ _) hA66) rfl q0 q0) <| sq_q rfl (fun W hT => r_fieldAddr T.fld59_0 rfl) <| sq_q rfl (fun W hT => r_load1 (v := .slice _ _ _) T.one23 rfl (Cells.at (j := 0) (Cells.tr hC67 hT.2.2.2.2.2.1) rfl)) <| sq_call1 rfl (r_call (ags := [_, _]) rfl rfl T.ent18 rfl) (rtexts_spec (it_at hvU).1 (it_at hvV).1 (Nat.le_trans (it_at hvU).2.2.1.1 (it_at hvU).2.2.1.2)) ?_
  rintro _ w75 ⟨r1, rfl, hr1, c76⟩;replace HC := HC.then c76;replace hAA := CmAt.chg hAA c76 q8;replace hAB := CmAt.chg hAB c76 q8;replace ha5 := ha5.tr0 c76;replace hb5q := hb5q.tr0 c76;replace hb4 := hb4.tr0 c76;replace hb8 := hb8.tr0 c76;replace ha1 := ha1.tr0 c76;replace hb1 := hb1.tr0 c76;replace ha3 := ha3.tr0 c76;replace hb3 := hb3.tr0 c76;replace hvU := Enc.chg hvU c76 q8;replace hvV := Enc.chg hvV c76 q8;replace ht_lb63 := And.intro (Nat.lt_of_lt_of_le ht_lb63.1 c76.size) ((c76.block lb63 ht_lb63.1 (by simp)).trans ht_lb63.2)
  replace ht_lb70 := And.intro (Nat.lt_of_lt_of_le ht_lb70.1 c76.size) ((c76.block lb70 ht_lb70.1 (by simp)).trans ht_lb70.2)
  refine ⟨_, fun _ h => h, ⟨(Eq.trans hb4 o73.symm), (Eq.trans hb8 o74.symm), (by first | assumption | exact ht_lb63.2), (by first | assumption | exact ht_lb70.2), (by first | assumption | exact ht_lb63.2), (by first | assumption | exact ht_lb70.2), trivial⟩, ?_⟩
  refine sq_q rfl (fun W hT => r_not rfl) <| sq_q rfl (fun W hT => r_move (v := .bool _) rfl) <| sq_split (d := 118) rfl (fun g77 => ?_) (fun g77 => ?_)
  ·try simp only [nm, ne_eq] at g77
   refine sq_no rfl rfl <| sq_no rfl rfl <| sq_no rfl rfl <| sq_no rfl rfl <| sq_no rfl rfl <| sq_no rfl rfl <| sq_no rfl rfl <| sq_no rfl rfl <| sq_no rfl rfl <| sq_no rfl rfl <| sq_no rfl rfl <| sq_no rfl rfl <| sq_no rfl rfl <| sq_no rfl rfl <| sq_q rfl (fun W hT => r_pick (b := true) (v := .bool _) rfl rfl) ?_
   clear o73;clear o74;refine sq_nil <| then_n <| x_cond (t := true) rfl (fun h6 => ?_) (fun h6 => ?_)
   rotate_left
   · exact absurd h6 (by decide)
   refine sr rfl <| aB rfl <| en <| x_ret <| block_r <| then_r <| then_r <| block_r <| then_r <| ret_tmp (v := .bool _) rfl rfl ?_;exact ⟨_, rfl, eq_no (fun e => by subst e; have h7 := hx58.symm.trans hx65; cases h7; simp_all), HC⟩
  try simp only [nm, ne_eq] at g77
  refine sq_q rfl (fun W hT => r_fieldAddr T.fld30_8 rfl) <| sq_q rfl (fun W hT => r_load1 (v := .slice _ _ _) T.one28 rfl (Blk.cell (show Blk W b2 _ _ from hT.1.trans o73) rfl)) <| sq_q rfl (fun W hT => r_move (v := .int _ _) rfl) <| sq_q rfl (fun W hT => r_indexAddr T.u28 T.size59 (congrArg (fun z => Value.slice z _ _) hA59) rfl q0 q0) <| sq_q rfl (fun W hT => r_fieldAddr T.fld59_1 rfl) <| sq_q rfl (fun W hT => r_load1 (v := .slice _ _ _) T.one27 rfl (Cells.at (j := 1) (Cells.tr hC60 hT.2.2.2.2.1) rfl)) <| sq_q rfl (fun W hT => r_fieldAddr T.fld30_8 rfl) <| sq_q rfl (fun W hT => r_load1 (v := .slice _ _ _) T.one28 rfl (Blk.cell (show Blk W b3 _ _ from hT.2.1.trans o74) rfl)) <| sq_q rfl (fun W hT => r_move (v := .int _ _) rfl) <| sq_q rfl (fun W hT => r_indexAddr T.u28 T.size59 (congrArg (fun z => Value.slice z _ _) hA66) rfl q0 q0) <| sq_q rfl (fun W hT => r_fieldAddr T.fld59_1 rfl) <| sq_q rfl (fun W hT => r_load1 (v := .slice _ _ _) T.one27 rfl (Cells.at (j := 1) (Cells.tr hC67 hT.2.2.2.2.2.1) rfl)) <| sq_call1 rfl (r_call (ags := [_, _]) rfl rfl T.ent19 rfl) (rcmds_spec (it_at hvU).2.1 (it_at hvV).2.1 (Nat.le_trans (it_at hvU).2.2.2.1 (it_at hvU).2.2.2.2) (fun k hk y vx vy W {_ _} q1 q2 => hrec k (item_size (List.mem_of_getElem? hx58) hk) y vx vy W q1 q2)) ?_
  rintro _ w78 ⟨r2, rfl, hr2, c79⟩;replace HC := HC.then c79;replace hAA := CmAt.chg hAA c79 q8;replace hAB := CmAt.chg hAB c79 q8;replace ha5 := ha5.tr0 c79;replace hb5q := hb5q.tr0 c79;replace hb4 := hb4.tr0 c79;replace hb8 := hb8.tr0 c79;replace ha1 := ha1.tr0 c79;replace hb1 := hb1.tr0 c79;replace ha3 := ha3.tr0 c79;replace hb3 := hb3.tr0 c79;replace ht_lb63 := And.intro (Nat.lt_of_lt_of_le ht_lb63.1 c79.size) ((c79.block lb63 ht_lb63.1 (by simp)).trans ht_lb63.2)
  replace ht_lb70 := And.intro (Nat.lt_of_lt_of_le ht_lb70.1 c79.size) ((c79.block lb70 ht_lb70.1 (by simp)).trans ht_lb70.2)
  refine ⟨_, fun _ h => h, ⟨(Eq.trans hb4 o73.symm), (Eq.trans hb8 o74.symm), (by first | assumption | exact ht_lb63.2), (by first | assumption | exact ht_lb70.2), (by first | assumption | exact ht_lb63.2), (by first | assumption | exact ht_lb70.2), trivial⟩, ?_⟩
  refine sq_q rfl (fun W hT => r_not rfl) <| sq_q rfl (fun W hT => r_pick (b := false) (v := .bool _) rfl rfl) ?_
  clear o73;clear o74;refine sq_nil <| then_n <| x_cond rfl (fun h6 => ?_) (fun h6 => ?_)
  ·try simp only [nm, ne_eq] at h6
   refine sr rfl <| aB rfl <| en <| x_ret <| block_r <| then_r <| then_r <| block_r <| then_r <| ret_tmp (v := .bool _) rfl rfl ?_;exact ⟨_, rfl, eq_no (fun e => by subst e; have h7 := hx58.symm.trans hx65; cases h7; simp_all), HC⟩
  try simp only [nm, ne_eq] at h6
  have hxy : x57 = x64 := Prod.ext (hr1.1 (by first | assumption | simp_all)) (hr2.1 (by first | assumption | simp_all))
  refine x_skip <| block_n <| then_n <| x_region rfl <| mI rfl <| Wp rfl <| st_addn rfl rfl (by constructor <;> omega) <| aI rfl <| en <| ⟨i + 1, ?_, ?_, rfl, ⟨rfl, trivial⟩, ?_⟩
  ·refine ⟨?_, HC, hAA, hAB, ha5, hb5q, hb4, hb8, ha1, hb1, ha3, hb3⟩;exact ⟨by omega, take_same ht hx58 hx65 hxy⟩
  ·show a.items.length - (i + 1) < a.items.length - i; omega
  exact q9
 try simp only [nm, ne_eq] at h5
 have he5 : a.items = b.items := by rw [List.take_of_length_le q0, List.take_of_length_le q0] at ht; exact ht
 refine x_exit <| then_x <| then_x <| block_x <| then_n <| sr rfl <| fa T.fld30_5 rfl <| lL T.one23 rfl (hb4.cell rfl) <| fa T.fld30_5 rfl <| lL T.one23 rfl (hb8.cell rfl) <| Wp rfl <| st_call (ags := [_, _]) rfl rfl T.ent18 rfl (rtexts_spec hAA.words hAB.words (Nat.le_trans k2A.1 k2A.2)) ?_;rintro _ w80 ⟨r3, rfl, hr3, c81⟩;replace HC := HC.then c81;replace hAA := CmAt.chg hAA c81 q8;replace hAB := CmAt.chg hAB c81 q8;replace hb4 := hb4.tr0 c81;replace hb8 := hb8.tr0 c81;refine mB rfl <| w_split (d := 139) rfl (fun g82 => ?_) (fun g82 => ?_)
 ·try simp only [nm, ne_eq] at g82
  refine w_yes 5 139 true <| st_fieldAddr T.fld30_7 rfl <| w_yes 5 139 true <| st_load1 (v := .slice _ _ _) T.one27 rfl (hb4.cell rfl) <| w_yes 5 139 true <| st_fieldAddr T.fld30_7 rfl <| w_yes 5 139 true <| st_load1 (v := .slice _ _ _) T.one27 rfl (hb8.cell rfl) <| w_yes 5 139 true <| st_call (ags := [_, _]) rfl rfl T.ent19 rfl (rcmds_spec hAA.kids hAB.kids (Nat.le_trans k4A.1 k4A.2) (fun k hk y vx vy W {_ _} q1 q2 => hrec k (kid_size hk) y vx vy W q1 q2)) ?_
  rintro _ w83 ⟨r4, rfl, hr4, c84⟩;replace HC := HC.then c84;refine pT rfl rfl <| aB rfl <| en <| x_ret <| ret_tmp (v := .bool _) rfl rfl <| ⟨_, rfl, ?_, HC⟩;rw [Cm.ext];clear hrec;obtain ⟨f1, f2, f3, f4⟩ := hflat
  first | (simp_all; done) | (simp [*]; done)
 try simp only [nm, ne_eq] at g82
 iterate 5 refine w_no 5 139 true ?_
 refine pF rfl rfl <| aB rfl <| en <| x_ret <| ret_tmp (v := .bool _) rfl rfl <| ⟨_, rfl, ?_, HC⟩;rw [Cm.ext];clear hrec;obtain ⟨f1, f2, f3, f4⟩ := hflat
 first | (simp_all; done) | (simp [*]; done)
theorem rsame_le : ∀ (n : Nat) (a : Cm), SizeOf.sizeOf a ≤ n → ∀ (b : Cm) (va vb : List Value) (w : World) {D1 D2 : Nat → Prop}, cmE.R w D1 a va → cmE.R w D2 b vb → CallR Tryz.prog 8 #[.agg ⟨va⟩, .agg ⟨vb⟩] w fun v w' => EqT a b w w' v
  | 0, a, hn, b, va, vb, w, _, _, ha, hb => rsame_step w ha hb fun x hx => absurd hx q0
  | n + 1, a, hn, b, va, vb, w, _, _, ha, hb => rsame_step w ha hb fun x hx y vx vy W {_ _} h1 h2 => rsame_le n x q0 y vx vy W h1 h2
theorem rsame_spec {a b : Cm} {va vb : List Value} {D1 D2 : Nat → Prop} (w : World) (ha : cmE.R w D1 a va) (hb : cmE.R w D2 b vb) : CallR Tryz.prog 8 #[.agg ⟨va⟩, .agg ⟨vb⟩] w fun v w' => EqT a b w w' v := rsame_le _ a (Nat.le_refl _) b va vb w ha hb
open Go Go.Proofs Go.RowKit
open Go Go.Proofs Go.RowKit
end Go.Proofs.YtghjmiggobpmoaaGreatDoor.K
