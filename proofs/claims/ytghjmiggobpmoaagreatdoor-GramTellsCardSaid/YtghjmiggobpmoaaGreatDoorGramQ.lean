import Derived.Test.YtghjmiggobpmoaaGreatDoorTok
import Derived.Test.YtghjmiggobpmoaaGreatDoorGk
import Derived.Test.YtghjmiggobpmoaaGreatDoorGa
set_option linter.unusedVariables false
set_option linter.unusedSimpArgs false
set_option autoImplicit false
set_option maxRecDepth 20000
namespace Go.Proofs.YtghjmiggobpmoaaGreatDoor.K
open Go Go.Proofs Go.RowKit

section
variable {P : Program} {r : Option Nat} {n : Nat} {O : Array Oper} {Q : Post} {E : Env} {ds : List Deferred} {w : World} {l : List Oper}
variable {dst : Option Nat} {ty : TypeId} {pos : String} {af : Array Edge} {g : Option (Nat × Bool)}
theorem st_callBP {c : Call} {f : FuncId} {ags : List Value} {Φ Ψ : Value → World → Prop} {x : Operand} {rv : Array Value} (hcal : c.callee = .value x) (hf : ev E x = .func (.func f) rv #[]) (hent : ∀ args (w : World), (callFunc f args).run P w = .ok (.enter f args) w)
    (has : rv.toList ++ c.args.toList.map (ev E) = ags) (hc : CallP P f ⟨ags⟩ w Φ Ψ) (hp : ∀ v w', Ψ v w' → Q (.panic (pn v)) E ds w') (h : ∀ v w', Φ v w' → wops P r n O Q l (updo E dst v) ds w') : wop P r n O Q ⟨dst, .call c, ty, pos, af, g⟩ l E ds w :=
  wop_enterP (fun _ => by simp) (r_callB hcal hf hent has) hc hp h
end
theorem hd1_at {Z : List Tok} (h : GT Z) (h2 : GT Z.tail) : Z[1]? = some (hd Z.tail) := by
  match Z, h, h2 with
  | [t], _, h2 => exact h2.elim
  | t :: u :: r, _, _ => rfl

theorem gwithin_ok {Z : List Tok} {rb tb : Nat} {d : Int} {w : World} (hg : GT Z) (hR : RdAt w rb tb d Z) (hq : QOk rb tb) (hmx : MaxT w) (ht : Tab w) {fr : FuncId} {g : List Tok → Rs Cm} (hent : ∀ args (w : World), (callFunc fr args).run Tryz.prog w = .ok (.enter fr args) w) (hd64 : 0 ≤ d ∧ d < 64) (hfr : ∀ w1, RdAt w1 rb tb (d + 1) Z → MaxT w1 → Tab w1 → CallP Tryz.prog fr #[.pointer (some ⟨rb, 0, none⟩)] w1 (fun v w' => OkC (g Z) Z rb tb (d + 1) w1 w' v) (fun v w' => ErT (g Z) Z rb w1 w' v)) : CallP Tryz.prog 78 #[.pointer (some ⟨rb, 0, none⟩), .func (.func fr) #[.pointer (some ⟨rb, 0, none⟩)] #[]] w (fun v w' => OkC (g Z) Z rb tb d w w' v) (fun v w' => ErT (g Z) Z rb w w' v) := by
 refine callP_of_wp (args := [_, _]) Tryz.func78 rfl (Nat.le_of_ble_eq_true rfl) ?_
 have HC : Chg [rb] w w := .refl _
 have hrl := hR.lt hg
 have hq9 := hq
 obtain ⟨hq1, hq2, hq3⟩ := hq9
 have ht1 := ht.lt
 have hm1 := hmx.lt
 obtain ⟨A, cap, hb, hcap, hS⟩ := hR
 refine sr rfl <| Wp rfl <| st_alloc T.zero30 ?_
 intro b4 w1 e2 c3 hb4
 have ge_b4 := gB e2 HC.size
 have ne_rb_b4 := nE e2 hb.ne_size
 replace HC := HC.then c3
 replace ht := ht.tr0 c3
 replace hmx := hmx.tr0 c3
 replace hb := hb.tr0 c3
 replace hS := hS.tr0 c3
 clear e2
 refine en <| x_seq <| sr rfl <| mP rfl <| nc rfl <| fa T.fld49_1 rfl <| lI T.one3 rfl (hb.cell rfl) <| Wp rfl <| st_addn rfl rfl (by constructor <;> omega) <| nc rfl <| fa T.fld49_1 rfl <| Wp rfl <| st_st (v := .int _ _) T.size3 rfl rfl rfl hb ?_
 intro w5 c6 hb7; simp only [setVs, setV] at hb7
 clear hb
 replace HC := HC.trans c6 q4
 replace ht := ht.tr c6 q1
 replace hmx := hmx.tr c6 q1
 replace hS := hS.tr c6 (by intro k hx hD; simp only [List.mem_singleton] at hx; subst hx; omega)
 replace hb4 := hb4.tr1 c6 (Ne.symm ne_rb_b4)
 refine en <| sr rfl <| mP rfl <| nc rfl <| fa T.fld49_1 rfl <| lI T.one3 rfl (hb7.cell rfl) <| Wp rfl <| st_gtr rfl rfl <| en <| x_cond rfl (fun h0 => ?_) (fun h0 => ?_)
 ·try simp only [nm, ne_eq] at h0
  exfalso; omega
 ·try simp only [nm, ne_eq] at h0
  refine x_skip <| then_n <| sr rfl <| mv (v := .func _ _ _) rfl ?_
  have hR1 : RdAt w5 rb tb (d + 1) Z := ⟨A, cap, hb7, hcap, hS⟩
  refine w_plain rfl (st_callBP (ags := [_]) rfl rfl hent rfl (hfr _ hR1 hmx ht) ?_ ?_)
  ·rintro _ w8 ⟨R9, e9, he9, hs9, rfl, c9⟩
   replace HC := HC.trans c9 q4
   refine then_p <| pp_panic ?_
   exact ⟨R9, e9, he9, hs9, rfl, HC⟩
  have szlC := HC.size
  have ltC_b4 := hb4.lt
  rintro _ w10 ⟨cC, RC, vsC, heC, hsC, hlC, rfl, hvC, ⟨A', cap', hb', hcap', hS'⟩, c11⟩
  obtain ⟨A1C, n1C, A2C, n2C, A3C, n3C, A4C, n4C, A5C, n5C, rfl, hAC, k1C, k2C, k3C, k4C, k5C⟩ := cm_open hvC
  replace hvC := cmE.mono hvC (D' := fun k => w5.heap.size ≤ k ∧ k < w10.heap.size) (fun k hk h => ⟨h, hk⟩)
  have szC : w10.heap.size ≤ w10.heap.size := Nat.le_refl _
  have szmC := c11.size
  replace HC := HC.trans c11 q4
  replace hb4 := hb4.tr1 c11 (Ne.symm ne_rb_b4)
  refine Wp rfl <| st_alloc T.zero30 ?_
  intro b5 w12 e13 c14 hb15
  have ge_b5 := gB e13 HC.size
  have ne_b4_b5 := nE e13 hb4.ne_size
  have ne_rb_b5 : Hid (rb ≠ b5) := by rw [e13]; exact hb'.ne_size
  have gq_szC_b5 : w10.heap.size ≤ b5 := by rw [e13]; exact szC
  replace HC := HC.then c14
  replace hb4 := hb4.tr0 c14
  replace hb' := hb'.tr0 c14
  replace hS' := hS'.tr0 c14
  replace hvC := Enc.chg hvC c14 q8
  replace szC := Nat.le_trans szC c14.size
  clear e13
  refine Wp rfl <| st_st (v := .agg ⟨[_, _, _, _, _, _, _, _, _]⟩) T.size30 rfl rfl rfl hb15 ?_
  intro w16 c17 hb18; simp only [setVs, setV] at hb18
  clear hb15
  replace HC := HC.then1 c17 ge_b5
  replace hb4 := hb4.tr1 c17 ne_b4_b5
  replace hb' := hb'.tr1 c17 ne_rb_b5
  replace hS' := hS'.tr c17 (by intro k hx hD; simp only [List.mem_singleton] at hx; subst hx; omega)
  replace hvC := Enc.chg hvC c17 q3
  replace szC := Nat.le_trans szC c17.size
  refine en <| sr rfl <| mP rfl <| nc rfl <| fa T.fld49_1 rfl <| lI T.one3 rfl (hb'.cell rfl) <| Wp rfl <| st_subn rfl rfl (by constructor <;> omega) <| nc rfl <| fa T.fld49_1 rfl <| Wp rfl <| st_store (v := .int _ _) T.size3 rfl rfl rfl hb' rfl (Nat.le_of_ble_eq_true rfl) q5 rfl ?_
  intro w19 c20 hb21; simp only [setVs, setV] at hb21
  clear hb'
  replace HC := HC.trans c20 q4
  replace hb4 := hb4.tr1 c20 (Ne.symm ne_rb_b4)
  replace hS' := hS'.tr c20 (by intro k hx hD; simp only [List.mem_singleton] at hx; subst hx; omega)
  replace hvC := Enc.chg hvC c20 q3
  replace szC := Nat.le_trans szC c20.size
  replace hb18 := hb18.tr1 c20 (Ne.symm ne_rb_b5)
  refine en <| sr rfl <| Wp rfl <| st_loadA (vs := [_, _, _, _, _, _, _, _, _]) T.agg30 rfl (hb18.cells (n := 9) (vs := [_, _, _, _, _, _, _, _, _]) rfl) rfl <| Wp rfl <| st_st (v := .agg ⟨[_, _, _, _, _, _, _, _, _]⟩) T.size30 rfl rfl rfl hb4 ?_
  intro w22 c23 hb24; simp only [setVs, setV] at hb24
  clear hb4
  replace HC := HC.then1 c23 ge_b4
  replace hS' := hS'.tr c23 (by intro k hx hD; simp only [List.mem_singleton] at hx; subst hx; omega)
  replace hvC := Enc.chg hvC c23 q3
  replace szC := Nat.le_trans szC c23.size
  replace hb21 := hb21.tr1 c23 ne_rb_b4
  refine en <| x_ret <| pp_ret <| ret_cellA (vs := [_, _, _, _, _, _, _, _, _]) rfl rfl T.agg30 (hb24.cells (n := 9) rfl) rfl ?_
  exact ⟨cC, RC, _, heC, hsC, hlC, rfl, cmE.mono hvC (fun k _ h => by have := h.1; show _ ≤ k; omega), ⟨_, _, (by have h7 := hb21; rw [show d + 1 - 1 = d by omega] at h7; exact h7), hcap', hS'⟩, HC⟩

theorem gwithin_deep {Z : List Tok} {rb tb : Nat} {d : Int} {w : World} (hg : GT Z) (hR : RdAt w rb tb d Z) (hq : QOk rb tb) (hmx : MaxT w) (ht : Tab w) {fr : FuncId} (hd64 : d = 64) : CallP Tryz.prog 78 #[.pointer (some ⟨rb, 0, none⟩), .func (.func fr) #[.pointer (some ⟨rb, 0, none⟩)] #[]] w (fun _ _ => False) (fun v w' => ErT (Rs.er Z 104 : Rs Cm) Z rb w w' v) := by
 refine callP_of_wp (args := [_, _]) Tryz.func78 rfl (Nat.le_of_ble_eq_true rfl) ?_
 have HC : Chg [rb] w w := .refl _
 have hrl := hR.lt hg
 have hq9 := hq
 obtain ⟨hq1, hq2, hq3⟩ := hq9
 have ht1 := ht.lt
 have hm1 := hmx.lt
 obtain ⟨A, cap, hb, hcap, hS⟩ := hR
 refine sr rfl <| Wp rfl <| st_alloc T.zero30 ?_
 intro b4 w1 e2 c3 hb4
 have ge_b4 := gB e2 HC.size
 replace HC := HC.then c3
 replace hb := hb.tr0 c3
 replace hS := hS.tr0 c3
 clear e2
 refine en <| x_seq <| sr rfl <| mP rfl <| nc rfl <| fa T.fld49_1 rfl <| lI T.one3 rfl (hb.cell rfl) <| Wp rfl <| st_addn rfl rfl (by constructor <;> omega) <| nc rfl <| fa T.fld49_1 rfl <| Wp rfl <| st_st (v := .int _ _) T.size3 rfl rfl rfl hb ?_
 intro w5 c6 hb7; simp only [setVs, setV] at hb7
 clear hb
 replace HC := HC.trans c6 q4
 replace hS := hS.tr c6 (by intro k hx hD; simp only [List.mem_singleton] at hx; subst hx; omega)
 refine en <| sr rfl <| mP rfl <| nc rfl <| fa T.fld49_1 rfl <| lI T.one3 rfl (hb7.cell rfl) <| Wp rfl <| st_gtr rfl rfl <| en <| x_cond rfl (fun h0 => ?_) (fun h0 => ?_)
 ·try simp only [nm, ne_eq] at h0
  refine x_region rfl <| mP rfl <| w_plain rfl (st_callP (ags := [_, _]) rfl rfl T.ent17 rfl (gfail_spec 104 hg (show RdAt _ rb tb (d + 1) Z from ⟨A, cap, hb7, hcap, hS⟩)) ?_ ?_)
  ·rintro _ w8 ⟨rfl, c9⟩
   replace HC := HC.then c9
   refine then_p <| pp_panic ?_
   exact ⟨Z, 104, rfl, .refl hg, rfl, HC⟩
  exact fun _ _ h9 => h9.elim
 ·try simp only [nm, ne_eq] at h0
  exfalso; omega

theorem gfunc_spec {Z : List Tok} {rb tb : Nat} {d : Int} {w : World} (hg : GT Z) (hz : GB Z) (hR : RdAt w rb tb d Z) (hq : QOk rb tb) (hmx : MaxT w) (ht : Tab w) {cw : List Tok → Rs Cm} (hcw : ∀ (Z : List Tok) (w : World), GT Z → GB Z → opensB Z = true → RdAt w rb tb d Z → MaxT w → Tab w → CallP Tryz.prog 78 #[.pointer (some ⟨rb, 0, none⟩), .func (.func 79) #[.pointer (some ⟨rb, 0, none⟩)] #[]] w (fun v w' => OkC (cw Z) Z rb tb d w w' v) (fun v w' => ErT (cw Z) Z rb w w' v)) (hk1 : (hd Z).kind = 1) (hk2 : (hd Z.tail).kind = 2) : CallP Tryz.prog 81 #[.pointer (some ⟨rb, 0, none⟩)] w (fun v w' => OkC (funcG cw Z) Z rb tb d w w' v) (fun v w' => ErT (funcG cw Z) Z rb w w' v) := by
 refine callP_of_wp (args := [_]) Tryz.func81 rfl (Nat.le_of_ble_eq_true rfl) ?_
 have HC : Chg [rb] w w := .refl _
 have hrl := hR.lt hg
 have hq9 := hq
 obtain ⟨hq1, hq2, hq3⟩ := hq9
 have ht1 := ht.lt
 have hm1 := hmx.lt
 have hzl := hz.1
 refine sr rfl <| Wp rfl <| st_alloc T.zero30 ?_
 intro b2 w1 e2 c3 hb4
 have ge_b2 := gB e2 HC.size
 replace HC := HC.then c3
 replace hR := hR.tr0 c3
 replace ht := ht.tr0 c3
 replace hmx := hmx.tr0 c3
 clear e2
 refine en <| sr rfl <| mP rfl <| Wp rfl <| st_call (ags := [_]) rfl rfl T.ent29 rfl (gnext_spec (Z := Z) hg hR hq) ?_
 rintro _ w5 ⟨rfl, hR, c6⟩
 replace HC := HC.trans c6 q4
 replace ht := ht.tr c6 q1
 replace hmx := hmx.tr c6 q1
 replace hb4 := hb4.tr1 c6 (by omega)
 refine Wp rfl <| st_field (v := S _) T.fone51_1 rfl rfl <| Wp rfl <| st_bld (ps := [(0, .const (.int .i64 14)), (1, .tmp 6)]) (vs := [.int _ _, S _, .bool _, .bool _, .slice _ _ _, .slice _ _ _, .slice _ _ _, .slice _ _ _, .slice _ _ _]) T.bld30 rfl <| Wp rfl <| st_alloc T.zero30 ?_
 intro b3 w7 e8 c9 hb10
 have ge_b3 := gB e8 HC.size
 have ne_b2_b3 := nE e8 hb4.ne_size
 replace HC := HC.then c9
 replace ht := ht.tr0 c9
 replace hmx := hmx.tr0 c9
 replace hb4 := hb4.tr0 c9
 replace hR := hR.tr0 c9
 clear e8
 refine Wp rfl <| st_st (v := .agg ⟨[_, _, _, _, _, _, _, _, _]⟩) T.size30 rfl rfl rfl hb10 ?_
 intro w11 c12 hb13; simp only [setVs, setV] at hb13
 clear hb10
 replace HC := HC.then1 c12 ge_b3
 replace ht := ht.tr c12 q1
 replace hmx := hmx.tr c12 q1
 replace hb4 := hb4.tr1 c12 ne_b2_b3
 replace hR := hR.tr c12 q2
 refine en <| x_seq ?_
 have hs1 := Suf.tail hg (by rw [hk1]; decide)
 have hg1 := hs1.good
 have hs2 := (Suf.tail hg1 (by rw [hk2]; decide)).trans hs1
 have hg2 := hs2.good
 refine x_region rfl <| mP rfl <| Wp rfl <| st_call (ags := [_]) rfl rfl T.ent29 rfl (gnext_spec (Z := Z.tail) hg1 hR hq) ?_
 rintro _ w14 ⟨rfl, hR, c15⟩
 replace HC := HC.trans c15 q4
 replace ht := ht.tr c15 q1
 replace hmx := hmx.tr c15 q1
 replace hb4 := hb4.tr1 c15 (by omega)
 replace hb13 := hb13.tr1 c15 (by omega)
 refine en <| sr rfl <| mP rfl <| w_plain rfl (st_callP (ags := [_, _, _]) rfl rfl T.ent98 rfl (gwant_spec (Z := Z.tail.tail) 2 [41] hg2 hR hq) ?_ ?_)
 ·rintro _ w16 ⟨hwP, rfl, c17⟩
  replace HC := HC.trans c17 q4
  refine then_p <| pp_panic ?_
  exact ⟨_, _, by simp only [funcG, want_er hwP, Rs.bind], hs2, rfl, HC⟩
 rintro _ w18 ⟨hwP, hR, c19⟩
 replace HC := HC.trans c19 q4
 replace ht := ht.tr c19 q1
 replace hmx := hmx.tr c19 q1
 replace hb4 := hb4.tr1 c19 (by omega)
 replace hb13 := hb13.tr1 c19 (by omega)
 refine en <| x_seq <| x_seq ?_
 have hs3 := (suf_isT hg2 hwP (by decide)).trans hs2
 have hg3 := hs3.good
 refine x_region rfl <| mP rfl <| Wp rfl <| st_call (ags := [_]) rfl rfl T.ent14 rfl (glines_spec (Z := Z.tail.tail.tail) hg3 hR hq) ?_
 rintro _ w20 ⟨hR, c21⟩
 replace HC := HC.trans c21 q4
 replace ht := ht.tr c21 q1
 replace hmx := hmx.tr c21 q1
 replace hb4 := hb4.tr1 c21 (by omega)
 replace hb13 := hb13.tr1 c21 (by omega)
 refine en <| x_seq ?_
 have hsL := lines_suf hg3
 have hsL2 := hsL.trans hs3
 have hgL := hsL.good
 have hzL := hsL2.gb hz
 refine x_region rfl <| mP rfl <| Wp rfl <| st_call (ags := [_]) rfl rfl T.ent77 rfl (gopens_spec (Z := linesG Z.tail.tail.tail) hgL hR ht) ?_
 rintro _ w22 ⟨rfl, c23⟩
 replace HC := HC.then c23
 replace ht := ht.tr0 c23
 replace hmx := hmx.tr0 c23
 replace hb4 := hb4.tr0 c23
 replace hb13 := hb13.tr0 c23
 replace hR := hR.tr0 c23
 refine Wp rfl <| st_not rfl <| en <| x_cond rfl (fun h0 => ?_) (fun h0 => ?_)
 ·try simp only [nm, ne_eq] at h0
  have hop : opensB (linesG Z.tail.tail.tail) = false := by first | assumption | simp_all
  refine x_region rfl <| mP rfl <| w_plain rfl (st_callP (ags := [_, _]) rfl rfl T.ent17 rfl (gfail_spec 101 hgL hR) ?_ ?_)
  ·rintro _ w24 ⟨rfl, c25⟩
   replace HC := HC.then c25
   refine then_p <| pp_panic ?_
   exact ⟨_, _, by simp only [funcG, want_ok hwP, hop, if_true, Rs.bind], hsL2, rfl, HC⟩
  exact fun _ _ h9 => h9.elim
 ·try simp only [nm, ne_eq] at h0
  have hop : opensB (linesG Z.tail.tail.tail) = true := by first | assumption | simp_all
  refine x_skip <| then_n <| sr rfl <| mP rfl <| mP rfl <| Wp rfl <| st_makeFunc ?_
  have ltW_b2 := hb4.lt
  have ltW_b3 := hb13.lt
  have szlW := HC.size
  refine w_plain rfl (st_callP (ags := [_, _]) rfl rfl T.ent78 rfl (hcw _ _ hgL hzL hop hR hmx ht) ?_ ?_)
  ·rintro _ w26 ⟨R9, e9, he9, hs9, rfl, c27⟩
   replace HC := HC.trans c27 q4
   refine then_p <| pp_panic ?_
   exact ⟨_, _, by simp only [funcG, want_ok hwP, hop, Bool.true_eq_false, if_false, he9, Rs.bind], hs9.trans hsL2, rfl, HC⟩
  rintro _ w28 ⟨cW, RW, vsW, heW, hsW, hlW, rfl, hvW, hR, c29⟩
  obtain ⟨A1W, n1W, A2W, n2W, A3W, n3W, A4W, n4W, A5W, n5W, rfl, hAW, k1W, k2W, k3W, k4W, k5W⟩ := cm_open hvW
  replace hvW := cmE.mono hvW (D' := (fun k => w22.heap.size ≤ k ∧ k < w28.heap.size)) (fun k hk h => ⟨h, hk⟩)
  have szW : w28.heap.size ≤ w28.heap.size := Nat.le_refl _
  have szmW := c29.size
  replace HC := HC.trans c29 q4
  replace hb4 := hb4.tr1 c29 (by omega)
  replace hb13 := hb13.tr1 c29 (by omega)
  refine Wp rfl <| st_lit (ps := [(0, .tmp 22)]) (vs := [.int _ _, S _, .bool _, .bool _, .slice _ _ _, .slice _ _ _, .slice _ _ _, .slice _ _ _, .slice _ _ _]) T.lit27 (by decide) rfl q6 rfl ?_
  intro b30 w31 e32 c33 hb34
  have ge_b30 := gB e32 HC.size
  have ne_b2_b30 := nE e32 hb4.ne_size
  have ne_b3_b30 := nE e32 hb13.ne_size
  have gq_szW_b30 : w28.heap.size ≤ b30 := by rw [e32]; exact szW
  replace HC := HC.then c33
  replace hb4 := hb4.tr0 c33
  replace hb13 := hb13.tr0 c33
  replace hR := hR.tr0 c33
  replace hvW := Enc.chg hvW c33 q8
  replace szW := Nat.le_trans szW c33.size
  clear e32
  refine fa T.fld30_7 rfl <| Wp rfl <| st_st (v := .slice _ _ _) T.size27 rfl rfl rfl hb13 ?_
  intro w35 c36 hb37; simp only [setVs, setV] at hb37
  clear hb13
  replace HC := HC.then1 c36 ge_b3
  replace hb4 := hb4.tr1 c36 ne_b2_b3
  replace hR := hR.tr c36 q2
  replace hvW := Enc.chg hvW c36 q3
  replace szW := Nat.le_trans szW c36.size
  replace hb34 := hb34.tr1 c36 (Ne.symm ne_b3_b30)
  refine en <| sr rfl <| Wp rfl <| st_loadA (vs := [_, _, _, _, _, _, _, _, _]) T.agg30 rfl (hb37.cells (n := 9) (vs := [_, _, _, _, _, _, _, _, _]) rfl) rfl <| Wp rfl <| st_st (v := .agg ⟨[_, _, _, _, _, _, _, _, _]⟩) T.size30 rfl rfl rfl hb4 ?_
  intro w38 c39 hb40; simp only [setVs, setV] at hb40
  clear hb4
  replace HC := HC.then1 c39 ge_b2
  replace hR := hR.tr c39 q2
  replace hvW := Enc.chg hvW c39 q3
  replace szW := Nat.le_trans szW c39.size
  replace hb34 := hb34.tr1 c39 (Ne.symm ne_b2_b30)
  refine en <| x_ret <| pp_ret <| ret_cellA (vs := [_, _, _, _, _, _, _, _, _]) rfl rfl T.agg30 (hb40.cells (n := 9) rfl) rfl ?_
  have oD : Own cmE 30 w38 (fun k => w.heap.size ≤ k ∧ k ≠ b2 ∧ k ≠ b3) (some ⟨b30, 0, none⟩) 1 [cW] := own_one hb34 ⟨by omega, (Ne.symm ne_b2_b30), (Ne.symm ne_b3_b30)⟩ hvW (fun k _ h => ⟨⟨by omega, by omega, by omega⟩, by omega⟩)
  exact ⟨.mk 14 (hd Z).text false false [] [] [] [cW] [], RW, _, by simp only [funcG, want_ok hwP, Rs.bind, hop, Bool.true_eq_false, if_false, heW], hsW.trans hsL2, by have := hsL2.len; omega, rfl, cm_shut (c := .mk 14 (hd Z).text false false [] [] [] [cW] []) ⟨.nil, .nil, .nil, oD.sl.mono (fun k _ h => h.1), .nil⟩ ⟨Nat.le_refl _, by decide⟩ ⟨Nat.le_refl _, by decide⟩ ⟨Nat.le_refl _, by decide⟩ oD.le ⟨Nat.le_refl _, by decide⟩, hR, HC⟩

theorem gcommand_spec {Z : List Tok} {rb tb : Nat} {d : Int} {w : World} (hg : GT Z) (hz : GB Z) (hR : RdAt w rb tb d Z) (hq : QOk rb tb) (hmx : MaxT w) (ht : Tab w) {cw : List Tok → Rs Cm} (hcw : ∀ (Z : List Tok) (w : World), GT Z → GB Z → opensB Z = true → RdAt w rb tb d Z → MaxT w → Tab w → CallP Tryz.prog 78 #[.pointer (some ⟨rb, 0, none⟩), .func (.func 79) #[.pointer (some ⟨rb, 0, none⟩)] #[]] w (fun v w' => OkC (cw Z) Z rb tb d w w' v) (fun v w' => ErT (cw Z) Z rb w w' v)) {fw : List Tok → Rs Cm} (hfw : ∀ (Z : List Tok) (w : World), GT Z → GB Z → (hd Z).kind = 1 → (hd Z.tail).kind = 2 → RdAt w rb tb d Z → MaxT w → Tab w → CallP Tryz.prog 78 #[.pointer (some ⟨rb, 0, none⟩), .func (.func 81) #[.pointer (some ⟨rb, 0, none⟩)] #[]] w (fun v w' => OkC (fw Z) Z rb tb d w w' v) (fun v w' => ErT (fw Z) Z rb w w' v)) : CallP Tryz.prog 64 #[.pointer (some ⟨rb, 0, none⟩)] w (fun v w' => OkC (commandG cw fw Z) Z rb tb d w w' v) (fun v w' => ErT (commandG cw fw Z) Z rb w w' v) := by
 refine callP_of_wp (args := [_]) Tryz.func64 rfl (Nat.le_of_ble_eq_true rfl) ?_
 have HC : Chg [rb] w w := .refl _
 have hrl := hR.lt hg
 have hq9 := hq
 obtain ⟨hq1, hq2, hq3⟩ := hq9
 have ht1 := ht.lt
 have hm1 := hmx.lt
 have hzl := hz.1
 refine sr rfl <| Wp rfl <| st_alloc T.zero30 ?_
 intro b2 w1 e2 c3 hb4
 have ge_b2 := gB e2 HC.size
 replace HC := HC.then c3
 replace hR := hR.tr0 c3
 replace ht := ht.tr0 c3
 replace hmx := hmx.tr0 c3
 clear e2
 refine en <| sr rfl <| mP rfl <| Wp rfl <| st_call (ags := [_]) rfl rfl T.ent15 rfl (gtok_spec (Z := Z) hg hR) ?_
 rintro _ w5 ⟨rfl, c6⟩
 replace HC := HC.then c6
 replace hR := hR.tr0 c6
 replace ht := ht.tr0 c6
 replace hmx := hmx.tr0 c6
 replace hb4 := hb4.tr0 c6
 refine Wp rfl <| st_alloc T.zero51 ?_
 intro b3 w7 e8 c9 hb10
 have ge_b3 := gB e8 HC.size
 have ne_b2_b3 := nE e8 hb4.ne_size
 replace HC := HC.then c9
 replace hR := hR.tr0 c9
 replace ht := ht.tr0 c9
 replace hmx := hmx.tr0 c9
 replace hb4 := hb4.tr0 c9
 clear e8
 refine Wp rfl <| st_st (v := .agg ⟨[_, _, _, _, _]⟩) T.size51 rfl rfl rfl hb10 ?_
 intro w11 c12 hb13; simp only [setVs, setV] at hb13
 clear hb10
 replace HC := HC.then1 c12 ge_b3
 replace hR := hR.tr c12 q2
 replace ht := ht.tr c12 q1
 replace hmx := hmx.tr c12 q1
 replace hb4 := hb4.tr1 c12 ne_b2_b3
 refine en <| x_seq <| x_block <| sr rfl <| mP rfl <| Wp rfl <| st_call (ags := [_]) rfl rfl T.ent77 rfl (gopens_spec hg hR ht) ?_
 rintro _ w14 ⟨rfl, c15⟩
 replace HC := HC.then c15
 replace hR := hR.tr0 c15
 replace ht := ht.tr0 c15
 replace hmx := hmx.tr0 c15
 replace hb4 := hb4.tr0 c15
 replace hb13 := hb13.tr0 c15
 refine aB rfl <| en <| x_cond rfl (fun h0 => ?_) (fun h0 => ?_)
 ·try simp only [nm, ne_eq] at h0
  have hop : opensB Z = true := by first | assumption | simp_all
  refine sr rfl <| mP rfl <| mP rfl <| Wp rfl <| st_makeFunc ?_
  have ltW_b2 := hb4.lt
  have ltW_b3 := hb13.lt
  have szlW := HC.size
  refine w_plain rfl (st_callP (ags := [_, _]) rfl rfl T.ent78 rfl (hcw _ _ hg hz hop hR hmx ht) ?_ ?_)
  ·rintro _ w16 ⟨R9, e9, he9, hs9, rfl, c17⟩
   replace HC := HC.trans c17 q4
   refine then_p <| block_p <| then_p <| pp_panic ?_
   exact ⟨_, _, by unfold commandG; rw [if_pos hop]; exact he9, hs9, rfl, HC⟩
  rintro _ w18 ⟨cW, RW, vsW, heW, hsW, hlW, rfl, hvW, hR, c19⟩
  obtain ⟨A1W, n1W, A2W, n2W, A3W, n3W, A4W, n4W, A5W, n5W, rfl, hAW, k1W, k2W, k3W, k4W, k5W⟩ := cm_open hvW
  replace hvW := cmE.mono hvW (D' := (fun k => w14.heap.size ≤ k ∧ k < w18.heap.size)) (fun k hk h => ⟨h, hk⟩)
  have szW : w18.heap.size ≤ w18.heap.size := Nat.le_refl _
  have szmW := c19.size
  replace HC := HC.trans c19 q4
  replace hb4 := hb4.tr1 c19 (by omega)
  refine Wp rfl <| st_st (v := .agg ⟨[_, _, _, _, _, _, _, _, _]⟩) T.size30 rfl rfl rfl hb4 ?_
  intro w20 c21 hb22; simp only [setVs, setV] at hb22
  clear hb4
  replace HC := HC.then1 c21 ge_b2
  replace hR := hR.tr c21 q2
  replace hvW := Enc.chg hvW c21 q3
  replace szW := Nat.le_trans szW c21.size
  refine en <| x_ret <| block_r <| then_r <| pp_ret <| ret_cellA (vs := [_, _, _, _, _, _, _, _, _]) rfl rfl T.agg30 (hb22.cells (n := 9) rfl) rfl ?_
  exact ⟨cW, RW, _, by unfold commandG; rw [if_pos hop]; exact heW, hsW, hlW, rfl, cmE.mono hvW (fun k _ h => by have := h.1; show _ ≤ k; omega), hR, HC⟩
 ·try simp only [nm, ne_eq] at h0
  have hop : opensB Z = false := by first | assumption | simp_all
  refine sr rfl <| fa T.fld51_0 rfl <| lI T.one3 rfl (hb13.cell rfl) <| Wp rfl <| st_eql rfl rfl <| mB rfl <| w_split (d := 17) rfl (fun g23 => ?_) (fun g23 => ?_)
  ·try simp only [nm, ne_eq] at g23
   refine w_yes 3 17 true <| st_fieldAddr T.fld51_1 rfl <| w_yes 3 17 true <| st_load1 (v := S _) T.one9 rfl (hb13.cell rfl) <| w_yes 3 17 true <| st_call (ags := [_]) rfl rfl T.ent40 rfl (Reserved_spec (hd Z).text _ ht) ?_
   rintro _ w24 ⟨rfl, c25⟩
   replace HC := HC.then c25
   replace hR := hR.tr0 c25
   replace ht := ht.tr0 c25
   replace hmx := hmx.tr0 c25
   replace hb4 := hb4.tr0 c25
   replace hb13 := hb13.tr0 c25
   refine pT rfl rfl <| aB rfl <| en <| x_cond rfl (fun h1 => ?_) (fun h1 => ?_)
   ·try simp only [nm, ne_eq] at h1
    have hrs : (hd Z).kind = 1 ∧ resB (hd Z).text = true := by constructor <;> first | assumption | simp_all
    refine x_region rfl <| mP rfl <| w_plain rfl (st_callP (ags := [_, _]) rfl rfl T.ent17 rfl (gfail_spec 101 hg hR) ?_ ?_)
    ·rintro _ w26 ⟨rfl, c27⟩
     replace HC := HC.then c27
     refine block_p <| then_p <| pp_panic ?_
     exact ⟨Z, 101, by unfold commandG; rw [if_neg (by rw [hop]; simp), if_pos hrs], .refl hg, rfl, HC⟩
    exact fun _ _ h9 => h9.elim
   ·try simp only [nm, ne_eq] at h1
    have hrs : ¬ ((hd Z).kind = 1 ∧ resB (hd Z).text = true) := by rintro ⟨q1, q2⟩; simp_all
    refine x_seq ?_
    have hRq := hR
    obtain ⟨Aq, capq, hbq, hcapq, hSq⟩ := hRq
    refine x_region rfl <| fa T.fld51_0 rfl <| lI T.one3 rfl (hb13.cell rfl) <| Wp rfl <| st_eql rfl rfl <| mB rfl <| w_split (d := 28) rfl (fun g28 => ?_) (fun g28 => ?_)
    ·try simp only [nm, ne_eq] at g28
     have hkq : (hd Z).kind = 1 := by first | assumption | simp_all
     have hgT := hg.tail (by rw [hkq]; decide)
     have hlT := tail_len hg
     have hpT := hgT.pos
     refine w_yes 3 28 true <| st_fieldAddr T.fld51_1 rfl <| w_yes 3 28 true <| st_load1 (v := S _) T.one9 rfl (hb13.cell rfl) <| w_yes 3 28 true <| st_call (ags := [_]) rfl rfl T.ent80 rfl (CName_spec (hd Z).text _) ?_
     rintro _ w29 ⟨rfl, c30⟩
     replace HC := HC.then c30
     replace hR := hR.tr0 c30
     replace ht := ht.tr0 c30
     replace hmx := hmx.tr0 c30
     replace hb4 := hb4.tr0 c30
     replace hb13 := hb13.tr0 c30
     replace hbq := hbq.tr0 c30
     replace hSq := hSq.tr0 c30
     refine pT rfl rfl <| mB rfl <| w_split (d := 33) rfl (fun g31 => ?_) (fun g31 => ?_)
     ·try simp only [nm, ne_eq] at g31
      refine w_yes 8 33 true <| st_move (v := .pointer _) rfl <| w_yes 8 33 true <| st_nilCheck rfl <| w_yes 8 33 true <| st_fieldAddr T.fld49_0 rfl <| w_yes 8 33 true <| st_load1 (v := .slice _ _ _) T.one41 rfl (hbq.cell rfl) ?_
      obtain ⟨lb36, _, vs35, hA32, hR34, hC33⟩ := hSq.at (i := 1) (x := (hd Z.tail)) (hd1_at hg hgT)
      obtain rfl : vs35 = [.int .i64 (hd Z.tail).kind, S (hd Z.tail).text, .int .i64 (hd Z.tail).at_, S (hd Z.tail).here, .bool (hd Z.tail).raw] := hR34
      refine w_yes 8 33 true <| st_indexAddr T.u41 T.size51 (congrArg (fun z => Value.slice z _ _) hA32) rfl (by decide) (by omega) <| w_yes 8 33 true <| st_fieldAddr T.fld51_0 rfl <| w_yes 8 33 true <| st_load1 (v := .int _ _) T.one3 rfl (hC33.at (j := 0) rfl) <| w_yes 8 33 true <| st_eql rfl rfl <| pT rfl rfl <| mB rfl <| w_split (d := 43) rfl (fun g37 => ?_) (fun g37 => ?_)
      ·try simp only [nm, ne_eq] at g37
       refine w_yes 18 43 true <| st_move (v := .pointer _) rfl <| w_yes 18 43 true <| st_nilCheck rfl <| w_yes 18 43 true <| st_fieldAddr T.fld49_0 rfl <| w_yes 18 43 true <| st_load1 (v := .slice _ _ _) T.one41 rfl (hbq.cell rfl) ?_
       obtain ⟨lb42, _, vs41, hA38, hR40, hC39⟩ := hSq.at (i := 1) (x := (hd Z.tail)) (hd1_at hg hgT)
       obtain rfl : vs41 = [.int .i64 (hd Z.tail).kind, S (hd Z.tail).text, .int .i64 (hd Z.tail).at_, S (hd Z.tail).here, .bool (hd Z.tail).raw] := hR40
       refine w_yes 18 43 true <| st_indexAddr T.u41 T.size51 (congrArg (fun z => Value.slice z _ _) hA38) rfl (by decide) (by omega) <| w_yes 18 43 true <| st_fieldAddr T.fld51_1 rfl <| w_yes 18 43 true <| st_load1 (v := S _) T.one9 rfl (hC39.at (j := 1) rfl) <| w_yes 18 43 true <| st_seql rfl rfl <| pT rfl rfl <| aB rfl <| en <| x_cond rfl (fun h2 => ?_) (fun h2 => ?_)
       ·try simp only [nm, ne_eq] at h2
        have hfn : (hd Z).kind = 1 ∧ nameV (hd Z).text = true ∧ (hd Z.tail).kind = 2 ∧ (hd Z.tail).text = [40] := by refine ⟨?_, ?_, ?_, ?_⟩ <;> first | assumption | simp_all
        refine sr rfl <| mP rfl <| mP rfl <| Wp rfl <| st_makeFunc ?_
        have ltW_b2 := hb4.lt
        have ltW_b3 := hb13.lt
        have szlW := HC.size
        refine w_plain rfl (st_callP (ags := [_, _]) rfl rfl T.ent78 rfl (hfw _ _ hg hz hfn.1 hfn.2.2.1 hR hmx ht) ?_ ?_)
        ·rintro _ w43 ⟨R9, e9, he9, hs9, rfl, c44⟩
         replace HC := HC.trans c44 q4
         refine then_p <| block_p <| then_p <| pp_panic ?_
         exact ⟨_, _, by unfold commandG; rw [if_neg (by rw [hop]; simp), if_neg hrs, if_pos hfn]; exact he9, hs9, rfl, HC⟩
        rintro _ w45 ⟨cW, RW, vsW, heW, hsW, hlW, rfl, hvW, hR, c46⟩
        obtain ⟨A1W, n1W, A2W, n2W, A3W, n3W, A4W, n4W, A5W, n5W, rfl, hAW, k1W, k2W, k3W, k4W, k5W⟩ := cm_open hvW
        replace hvW := cmE.mono hvW (D' := (fun k => w29.heap.size ≤ k ∧ k < w45.heap.size)) (fun k hk h => ⟨h, hk⟩)
        have szW : w45.heap.size ≤ w45.heap.size := Nat.le_refl _
        have szmW := c46.size
        replace HC := HC.trans c46 q4
        replace hb4 := hb4.tr1 c46 (by omega)
        refine Wp rfl <| st_st (v := .agg ⟨[_, _, _, _, _, _, _, _, _]⟩) T.size30 rfl rfl rfl hb4 ?_
        intro w47 c48 hb49; simp only [setVs, setV] at hb49
        clear hb4
        replace HC := HC.then1 c48 ge_b2
        replace hR := hR.tr c48 q2
        replace hvW := Enc.chg hvW c48 q3
        replace szW := Nat.le_trans szW c48.size
        refine en <| x_ret <| block_r <| then_r <| pp_ret <| ret_cellA (vs := [_, _, _, _, _, _, _, _, _]) rfl rfl T.agg30 (hb49.cells (n := 9) rfl) rfl ?_
        exact ⟨cW, RW, _, by unfold commandG; rw [if_neg (by rw [hop]; simp), if_neg hrs, if_pos hfn]; exact heW, hsW, hlW, rfl, cmE.mono hvW (fun k _ h => by have := h.1; show _ ≤ k; omega), hR, HC⟩
       ·try simp only [nm, ne_eq] at h2
        have hnf : ¬ ((hd Z).kind = 1 ∧ nameV (hd Z).text = true ∧ (hd Z.tail).kind = 2 ∧ (hd Z.tail).text = [40]) := by rintro ⟨q1, q2, q3, q4⟩; simp_all
        refine x_skip <| block_n <| then_n <| sr rfl <| mP rfl ?_
        have ltM_b2 := hb4.lt
        have ltM_b3 := hb13.lt
        have szlM := HC.size
        refine w_plain rfl (st_callP (ags := [_]) rfl rfl T.ent82 rfl (gsimple_spec hg hz hR hq hmx ht) ?_ ?_)
        ·rintro _ w50 ⟨R9, e9, he9, hs9, rfl, c51⟩
         replace HC := HC.trans c51 q4
         refine then_p <| pp_panic ?_
         exact ⟨_, _, by unfold commandG; rw [if_neg (by rw [hop]; simp), if_neg hrs, if_neg hnf]; exact he9, hs9, rfl, HC⟩
        rintro _ w52 ⟨cM, RM, vsM, heM, hsM, hlM, rfl, hvM, hR, c53⟩
        obtain ⟨A1M, n1M, A2M, n2M, A3M, n3M, A4M, n4M, A5M, n5M, rfl, hAM, k1M, k2M, k3M, k4M, k5M⟩ := cm_open hvM
        replace hvM := cmE.mono hvM (D' := (fun k => w29.heap.size ≤ k ∧ k < w52.heap.size)) (fun k hk h => ⟨h, hk⟩)
        have szM : w52.heap.size ≤ w52.heap.size := Nat.le_refl _
        have szmM := c53.size
        replace HC := HC.trans c53 q4
        replace hb4 := hb4.tr1 c53 (by omega)
        refine Wp rfl <| st_st (v := .agg ⟨[_, _, _, _, _, _, _, _, _]⟩) T.size30 rfl rfl rfl hb4 ?_
        intro w54 c55 hb56; simp only [setVs, setV] at hb56
        clear hb4
        replace HC := HC.then1 c55 ge_b2
        replace hR := hR.tr c55 q2
        replace hvM := Enc.chg hvM c55 q3
        replace szM := Nat.le_trans szM c55.size
        refine en <| x_ret <| pp_ret <| ret_cellA (vs := [_, _, _, _, _, _, _, _, _]) rfl rfl T.agg30 (hb56.cells (n := 9) rfl) rfl ?_
        exact ⟨cM, RM, _, by unfold commandG; rw [if_neg (by rw [hop]; simp), if_neg hrs, if_neg hnf]; exact heM, hsM, hlM, rfl, cmE.mono hvM (fun k _ h => by have := h.1; show _ ≤ k; omega), hR, HC⟩
      ·try simp only [nm, ne_eq] at g37
       iterate 8 refine w_no 18 43 true ?_
       refine pF rfl rfl <| aB rfl <| en <| x_cond (t := false) rfl (fun h2 => ?_) (fun h2 => ?_)
       · exact absurd h2 (by decide)
       have hnf : ¬ ((hd Z).kind = 1 ∧ nameV (hd Z).text = true ∧ (hd Z.tail).kind = 2 ∧ (hd Z.tail).text = [40]) := by rintro ⟨q1, q2, q3, q4⟩; simp_all
       refine x_skip <| block_n <| then_n <| sr rfl <| mP rfl ?_
       have ltM_b2 := hb4.lt
       have ltM_b3 := hb13.lt
       have szlM := HC.size
       refine w_plain rfl (st_callP (ags := [_]) rfl rfl T.ent82 rfl (gsimple_spec hg hz hR hq hmx ht) ?_ ?_)
       ·rintro _ w57 ⟨R9, e9, he9, hs9, rfl, c58⟩
        replace HC := HC.trans c58 q4
        refine then_p <| pp_panic ?_
        exact ⟨_, _, by unfold commandG; rw [if_neg (by rw [hop]; simp), if_neg hrs, if_neg hnf]; exact he9, hs9, rfl, HC⟩
       rintro _ w59 ⟨cM, RM, vsM, heM, hsM, hlM, rfl, hvM, hR, c60⟩
       obtain ⟨A1M, n1M, A2M, n2M, A3M, n3M, A4M, n4M, A5M, n5M, rfl, hAM, k1M, k2M, k3M, k4M, k5M⟩ := cm_open hvM
       replace hvM := cmE.mono hvM (D' := (fun k => w29.heap.size ≤ k ∧ k < w59.heap.size)) (fun k hk h => ⟨h, hk⟩)
       have szM : w59.heap.size ≤ w59.heap.size := Nat.le_refl _
       have szmM := c60.size
       replace HC := HC.trans c60 q4
       replace hb4 := hb4.tr1 c60 (by omega)
       refine Wp rfl <| st_st (v := .agg ⟨[_, _, _, _, _, _, _, _, _]⟩) T.size30 rfl rfl rfl hb4 ?_
       intro w61 c62 hb63; simp only [setVs, setV] at hb63
       clear hb4
       replace HC := HC.then1 c62 ge_b2
       replace hR := hR.tr c62 q2
       replace hvM := Enc.chg hvM c62 q3
       replace szM := Nat.le_trans szM c62.size
       refine en <| x_ret <| pp_ret <| ret_cellA (vs := [_, _, _, _, _, _, _, _, _]) rfl rfl T.agg30 (hb63.cells (n := 9) rfl) rfl ?_
       exact ⟨cM, RM, _, by unfold commandG; rw [if_neg (by rw [hop]; simp), if_neg hrs, if_neg hnf]; exact heM, hsM, hlM, rfl, cmE.mono hvM (fun k _ h => by have := h.1; show _ ≤ k; omega), hR, HC⟩
     ·try simp only [nm, ne_eq] at g31
      iterate 8 refine w_no 8 33 true ?_
      refine pF rfl rfl <| mB rfl ?_
      iterate 8 refine w_no 18 43 true ?_
      refine pF rfl rfl <| aB rfl <| en <| x_cond (t := false) rfl (fun h2 => ?_) (fun h2 => ?_)
      · exact absurd h2 (by decide)
      have hnf : ¬ ((hd Z).kind = 1 ∧ nameV (hd Z).text = true ∧ (hd Z.tail).kind = 2 ∧ (hd Z.tail).text = [40]) := by rintro ⟨q1, q2, q3, q4⟩; simp_all
      refine x_skip <| block_n <| then_n <| sr rfl <| mP rfl ?_
      have ltM_b2 := hb4.lt
      have ltM_b3 := hb13.lt
      have szlM := HC.size
      refine w_plain rfl (st_callP (ags := [_]) rfl rfl T.ent82 rfl (gsimple_spec hg hz hR hq hmx ht) ?_ ?_)
      ·rintro _ w64 ⟨R9, e9, he9, hs9, rfl, c65⟩
       replace HC := HC.trans c65 q4
       refine then_p <| pp_panic ?_
       exact ⟨_, _, by unfold commandG; rw [if_neg (by rw [hop]; simp), if_neg hrs, if_neg hnf]; exact he9, hs9, rfl, HC⟩
      rintro _ w66 ⟨cM, RM, vsM, heM, hsM, hlM, rfl, hvM, hR, c67⟩
      obtain ⟨A1M, n1M, A2M, n2M, A3M, n3M, A4M, n4M, A5M, n5M, rfl, hAM, k1M, k2M, k3M, k4M, k5M⟩ := cm_open hvM
      replace hvM := cmE.mono hvM (D' := (fun k => w29.heap.size ≤ k ∧ k < w66.heap.size)) (fun k hk h => ⟨h, hk⟩)
      have szM : w66.heap.size ≤ w66.heap.size := Nat.le_refl _
      have szmM := c67.size
      replace HC := HC.trans c67 q4
      replace hb4 := hb4.tr1 c67 (by omega)
      refine Wp rfl <| st_st (v := .agg ⟨[_, _, _, _, _, _, _, _, _]⟩) T.size30 rfl rfl rfl hb4 ?_
      intro w68 c69 hb70; simp only [setVs, setV] at hb70
      clear hb4
      replace HC := HC.then1 c69 ge_b2
      replace hR := hR.tr c69 q2
      replace hvM := Enc.chg hvM c69 q3
      replace szM := Nat.le_trans szM c69.size
      refine en <| x_ret <| pp_ret <| ret_cellA (vs := [_, _, _, _, _, _, _, _, _]) rfl rfl T.agg30 (hb70.cells (n := 9) rfl) rfl ?_
      exact ⟨cM, RM, _, by unfold commandG; rw [if_neg (by rw [hop]; simp), if_neg hrs, if_neg hnf]; exact heM, hsM, hlM, rfl, cmE.mono hvM (fun k _ h => by have := h.1; show _ ≤ k; omega), hR, HC⟩
    ·try simp only [nm, ne_eq] at g28
     iterate 3 refine w_no 3 28 true ?_
     refine pF rfl rfl <| mB rfl ?_
     iterate 8 refine w_no 8 33 true ?_
     refine pF rfl rfl <| mB rfl ?_
     iterate 8 refine w_no 18 43 true ?_
     refine pF rfl rfl <| aB rfl <| en <| x_cond (t := false) rfl (fun h2 => ?_) (fun h2 => ?_)
     · exact absurd h2 (by decide)
     have hnf : ¬ ((hd Z).kind = 1 ∧ nameV (hd Z).text = true ∧ (hd Z.tail).kind = 2 ∧ (hd Z.tail).text = [40]) := by rintro ⟨q1, q2, q3, q4⟩; simp_all
     refine x_skip <| block_n <| then_n <| sr rfl <| mP rfl ?_
     have ltM_b2 := hb4.lt
     have ltM_b3 := hb13.lt
     have szlM := HC.size
     refine w_plain rfl (st_callP (ags := [_]) rfl rfl T.ent82 rfl (gsimple_spec hg hz hR hq hmx ht) ?_ ?_)
     ·rintro _ w71 ⟨R9, e9, he9, hs9, rfl, c72⟩
      replace HC := HC.trans c72 q4
      refine then_p <| pp_panic ?_
      exact ⟨_, _, by unfold commandG; rw [if_neg (by rw [hop]; simp), if_neg hrs, if_neg hnf]; exact he9, hs9, rfl, HC⟩
     rintro _ w73 ⟨cM, RM, vsM, heM, hsM, hlM, rfl, hvM, hR, c74⟩
     obtain ⟨A1M, n1M, A2M, n2M, A3M, n3M, A4M, n4M, A5M, n5M, rfl, hAM, k1M, k2M, k3M, k4M, k5M⟩ := cm_open hvM
     replace hvM := cmE.mono hvM (D' := (fun k => w24.heap.size ≤ k ∧ k < w73.heap.size)) (fun k hk h => ⟨h, hk⟩)
     have szM : w73.heap.size ≤ w73.heap.size := Nat.le_refl _
     have szmM := c74.size
     replace HC := HC.trans c74 q4
     replace hb4 := hb4.tr1 c74 (by omega)
     refine Wp rfl <| st_st (v := .agg ⟨[_, _, _, _, _, _, _, _, _]⟩) T.size30 rfl rfl rfl hb4 ?_
     intro w75 c76 hb77; simp only [setVs, setV] at hb77
     clear hb4
     replace HC := HC.then1 c76 ge_b2
     replace hR := hR.tr c76 q2
     replace hvM := Enc.chg hvM c76 q3
     replace szM := Nat.le_trans szM c76.size
     refine en <| x_ret <| pp_ret <| ret_cellA (vs := [_, _, _, _, _, _, _, _, _]) rfl rfl T.agg30 (hb77.cells (n := 9) rfl) rfl ?_
     exact ⟨cM, RM, _, by unfold commandG; rw [if_neg (by rw [hop]; simp), if_neg hrs, if_neg hnf]; exact heM, hsM, hlM, rfl, cmE.mono hvM (fun k _ h => by have := h.1; show _ ≤ k; omega), hR, HC⟩
  ·try simp only [nm, ne_eq] at g23
   iterate 3 refine w_no 3 17 true ?_
   refine pF rfl rfl <| aB rfl <| en <| x_cond (t := false) rfl (fun h1 => ?_) (fun h1 => ?_)
   · exact absurd h1 (by decide)
   have hrs : ¬ ((hd Z).kind = 1 ∧ resB (hd Z).text = true) := by rintro ⟨q1, q2⟩; simp_all
   refine x_seq ?_
   have hRq := hR
   obtain ⟨Aq, capq, hbq, hcapq, hSq⟩ := hRq
   refine x_region rfl <| fa T.fld51_0 rfl <| lI T.one3 rfl (hb13.cell rfl) <| Wp rfl <| st_eql rfl rfl <| mB rfl <| w_split (d := 28) rfl (fun g78 => ?_) (fun g78 => ?_)
   ·try simp only [nm, ne_eq] at g78
    have hkq : (hd Z).kind = 1 := by first | assumption | simp_all
    have hgT := hg.tail (by rw [hkq]; decide)
    have hlT := tail_len hg
    have hpT := hgT.pos
    refine w_yes 3 28 true <| st_fieldAddr T.fld51_1 rfl <| w_yes 3 28 true <| st_load1 (v := S _) T.one9 rfl (hb13.cell rfl) <| w_yes 3 28 true <| st_call (ags := [_]) rfl rfl T.ent80 rfl (CName_spec (hd Z).text _) ?_
    rintro _ w79 ⟨rfl, c80⟩
    replace HC := HC.then c80
    replace hR := hR.tr0 c80
    replace ht := ht.tr0 c80
    replace hmx := hmx.tr0 c80
    replace hb4 := hb4.tr0 c80
    replace hb13 := hb13.tr0 c80
    replace hbq := hbq.tr0 c80
    replace hSq := hSq.tr0 c80
    refine pT rfl rfl <| mB rfl <| w_split (d := 33) rfl (fun g81 => ?_) (fun g81 => ?_)
    ·try simp only [nm, ne_eq] at g81
     refine w_yes 8 33 true <| st_move (v := .pointer _) rfl <| w_yes 8 33 true <| st_nilCheck rfl <| w_yes 8 33 true <| st_fieldAddr T.fld49_0 rfl <| w_yes 8 33 true <| st_load1 (v := .slice _ _ _) T.one41 rfl (hbq.cell rfl) ?_
     obtain ⟨lb86, _, vs85, hA82, hR84, hC83⟩ := hSq.at (i := 1) (x := (hd Z.tail)) (hd1_at hg hgT)
     obtain rfl : vs85 = [.int .i64 (hd Z.tail).kind, S (hd Z.tail).text, .int .i64 (hd Z.tail).at_, S (hd Z.tail).here, .bool (hd Z.tail).raw] := hR84
     refine w_yes 8 33 true <| st_indexAddr T.u41 T.size51 (congrArg (fun z => Value.slice z _ _) hA82) rfl (by decide) (by omega) <| w_yes 8 33 true <| st_fieldAddr T.fld51_0 rfl <| w_yes 8 33 true <| st_load1 (v := .int _ _) T.one3 rfl (hC83.at (j := 0) rfl) <| w_yes 8 33 true <| st_eql rfl rfl <| pT rfl rfl <| mB rfl <| w_split (d := 43) rfl (fun g87 => ?_) (fun g87 => ?_)
     ·try simp only [nm, ne_eq] at g87
      refine w_yes 18 43 true <| st_move (v := .pointer _) rfl <| w_yes 18 43 true <| st_nilCheck rfl <| w_yes 18 43 true <| st_fieldAddr T.fld49_0 rfl <| w_yes 18 43 true <| st_load1 (v := .slice _ _ _) T.one41 rfl (hbq.cell rfl) ?_
      obtain ⟨lb92, _, vs91, hA88, hR90, hC89⟩ := hSq.at (i := 1) (x := (hd Z.tail)) (hd1_at hg hgT)
      obtain rfl : vs91 = [.int .i64 (hd Z.tail).kind, S (hd Z.tail).text, .int .i64 (hd Z.tail).at_, S (hd Z.tail).here, .bool (hd Z.tail).raw] := hR90
      refine w_yes 18 43 true <| st_indexAddr T.u41 T.size51 (congrArg (fun z => Value.slice z _ _) hA88) rfl (by decide) (by omega) <| w_yes 18 43 true <| st_fieldAddr T.fld51_1 rfl <| w_yes 18 43 true <| st_load1 (v := S _) T.one9 rfl (hC89.at (j := 1) rfl) <| w_yes 18 43 true <| st_seql rfl rfl <| pT rfl rfl <| aB rfl <| en <| x_cond rfl (fun h2 => ?_) (fun h2 => ?_)
      ·try simp only [nm, ne_eq] at h2
       have hfn : (hd Z).kind = 1 ∧ nameV (hd Z).text = true ∧ (hd Z.tail).kind = 2 ∧ (hd Z.tail).text = [40] := by refine ⟨?_, ?_, ?_, ?_⟩ <;> first | assumption | simp_all
       refine sr rfl <| mP rfl <| mP rfl <| Wp rfl <| st_makeFunc ?_
       have ltW_b2 := hb4.lt
       have ltW_b3 := hb13.lt
       have szlW := HC.size
       refine w_plain rfl (st_callP (ags := [_, _]) rfl rfl T.ent78 rfl (hfw _ _ hg hz hfn.1 hfn.2.2.1 hR hmx ht) ?_ ?_)
       ·rintro _ w93 ⟨R9, e9, he9, hs9, rfl, c94⟩
        replace HC := HC.trans c94 q4
        refine then_p <| block_p <| then_p <| pp_panic ?_
        exact ⟨_, _, by unfold commandG; rw [if_neg (by rw [hop]; simp), if_neg hrs, if_pos hfn]; exact he9, hs9, rfl, HC⟩
       rintro _ w95 ⟨cW, RW, vsW, heW, hsW, hlW, rfl, hvW, hR, c96⟩
       obtain ⟨A1W, n1W, A2W, n2W, A3W, n3W, A4W, n4W, A5W, n5W, rfl, hAW, k1W, k2W, k3W, k4W, k5W⟩ := cm_open hvW
       replace hvW := cmE.mono hvW (D' := (fun k => w79.heap.size ≤ k ∧ k < w95.heap.size)) (fun k hk h => ⟨h, hk⟩)
       have szW : w95.heap.size ≤ w95.heap.size := Nat.le_refl _
       have szmW := c96.size
       replace HC := HC.trans c96 q4
       replace hb4 := hb4.tr1 c96 (by omega)
       refine Wp rfl <| st_st (v := .agg ⟨[_, _, _, _, _, _, _, _, _]⟩) T.size30 rfl rfl rfl hb4 ?_
       intro w97 c98 hb99; simp only [setVs, setV] at hb99
       clear hb4
       replace HC := HC.then1 c98 ge_b2
       replace hR := hR.tr c98 q2
       replace hvW := Enc.chg hvW c98 q3
       replace szW := Nat.le_trans szW c98.size
       refine en <| x_ret <| block_r <| then_r <| pp_ret <| ret_cellA (vs := [_, _, _, _, _, _, _, _, _]) rfl rfl T.agg30 (hb99.cells (n := 9) rfl) rfl ?_
       exact ⟨cW, RW, _, by unfold commandG; rw [if_neg (by rw [hop]; simp), if_neg hrs, if_pos hfn]; exact heW, hsW, hlW, rfl, cmE.mono hvW (fun k _ h => by have := h.1; show _ ≤ k; omega), hR, HC⟩
      ·try simp only [nm, ne_eq] at h2
       have hnf : ¬ ((hd Z).kind = 1 ∧ nameV (hd Z).text = true ∧ (hd Z.tail).kind = 2 ∧ (hd Z.tail).text = [40]) := by rintro ⟨q1, q2, q3, q4⟩; simp_all
       refine x_skip <| block_n <| then_n <| sr rfl <| mP rfl ?_
       have ltM_b2 := hb4.lt
       have ltM_b3 := hb13.lt
       have szlM := HC.size
       refine w_plain rfl (st_callP (ags := [_]) rfl rfl T.ent82 rfl (gsimple_spec hg hz hR hq hmx ht) ?_ ?_)
       ·rintro _ w100 ⟨R9, e9, he9, hs9, rfl, c101⟩
        replace HC := HC.trans c101 q4
        refine then_p <| pp_panic ?_
        exact ⟨_, _, by unfold commandG; rw [if_neg (by rw [hop]; simp), if_neg hrs, if_neg hnf]; exact he9, hs9, rfl, HC⟩
       rintro _ w102 ⟨cM, RM, vsM, heM, hsM, hlM, rfl, hvM, hR, c103⟩
       obtain ⟨A1M, n1M, A2M, n2M, A3M, n3M, A4M, n4M, A5M, n5M, rfl, hAM, k1M, k2M, k3M, k4M, k5M⟩ := cm_open hvM
       replace hvM := cmE.mono hvM (D' := (fun k => w79.heap.size ≤ k ∧ k < w102.heap.size)) (fun k hk h => ⟨h, hk⟩)
       have szM : w102.heap.size ≤ w102.heap.size := Nat.le_refl _
       have szmM := c103.size
       replace HC := HC.trans c103 q4
       replace hb4 := hb4.tr1 c103 (by omega)
       refine Wp rfl <| st_st (v := .agg ⟨[_, _, _, _, _, _, _, _, _]⟩) T.size30 rfl rfl rfl hb4 ?_
       intro w104 c105 hb106; simp only [setVs, setV] at hb106
       clear hb4
       replace HC := HC.then1 c105 ge_b2
       replace hR := hR.tr c105 q2
       replace hvM := Enc.chg hvM c105 q3
       replace szM := Nat.le_trans szM c105.size
       refine en <| x_ret <| pp_ret <| ret_cellA (vs := [_, _, _, _, _, _, _, _, _]) rfl rfl T.agg30 (hb106.cells (n := 9) rfl) rfl ?_
       exact ⟨cM, RM, _, by unfold commandG; rw [if_neg (by rw [hop]; simp), if_neg hrs, if_neg hnf]; exact heM, hsM, hlM, rfl, cmE.mono hvM (fun k _ h => by have := h.1; show _ ≤ k; omega), hR, HC⟩
     ·try simp only [nm, ne_eq] at g87
      iterate 8 refine w_no 18 43 true ?_
      refine pF rfl rfl <| aB rfl <| en <| x_cond (t := false) rfl (fun h2 => ?_) (fun h2 => ?_)
      · exact absurd h2 (by decide)
      have hnf : ¬ ((hd Z).kind = 1 ∧ nameV (hd Z).text = true ∧ (hd Z.tail).kind = 2 ∧ (hd Z.tail).text = [40]) := by rintro ⟨q1, q2, q3, q4⟩; simp_all
      refine x_skip <| block_n <| then_n <| sr rfl <| mP rfl ?_
      have ltM_b2 := hb4.lt
      have ltM_b3 := hb13.lt
      have szlM := HC.size
      refine w_plain rfl (st_callP (ags := [_]) rfl rfl T.ent82 rfl (gsimple_spec hg hz hR hq hmx ht) ?_ ?_)
      ·rintro _ w107 ⟨R9, e9, he9, hs9, rfl, c108⟩
       replace HC := HC.trans c108 q4
       refine then_p <| pp_panic ?_
       exact ⟨_, _, by unfold commandG; rw [if_neg (by rw [hop]; simp), if_neg hrs, if_neg hnf]; exact he9, hs9, rfl, HC⟩
      rintro _ w109 ⟨cM, RM, vsM, heM, hsM, hlM, rfl, hvM, hR, c110⟩
      obtain ⟨A1M, n1M, A2M, n2M, A3M, n3M, A4M, n4M, A5M, n5M, rfl, hAM, k1M, k2M, k3M, k4M, k5M⟩ := cm_open hvM
      replace hvM := cmE.mono hvM (D' := (fun k => w79.heap.size ≤ k ∧ k < w109.heap.size)) (fun k hk h => ⟨h, hk⟩)
      have szM : w109.heap.size ≤ w109.heap.size := Nat.le_refl _
      have szmM := c110.size
      replace HC := HC.trans c110 q4
      replace hb4 := hb4.tr1 c110 (by omega)
      refine Wp rfl <| st_st (v := .agg ⟨[_, _, _, _, _, _, _, _, _]⟩) T.size30 rfl rfl rfl hb4 ?_
      intro w111 c112 hb113; simp only [setVs, setV] at hb113
      clear hb4
      replace HC := HC.then1 c112 ge_b2
      replace hR := hR.tr c112 q2
      replace hvM := Enc.chg hvM c112 q3
      replace szM := Nat.le_trans szM c112.size
      refine en <| x_ret <| pp_ret <| ret_cellA (vs := [_, _, _, _, _, _, _, _, _]) rfl rfl T.agg30 (hb113.cells (n := 9) rfl) rfl ?_
      exact ⟨cM, RM, _, by unfold commandG; rw [if_neg (by rw [hop]; simp), if_neg hrs, if_neg hnf]; exact heM, hsM, hlM, rfl, cmE.mono hvM (fun k _ h => by have := h.1; show _ ≤ k; omega), hR, HC⟩
    ·try simp only [nm, ne_eq] at g81
     iterate 8 refine w_no 8 33 true ?_
     refine pF rfl rfl <| mB rfl ?_
     iterate 8 refine w_no 18 43 true ?_
     refine pF rfl rfl <| aB rfl <| en <| x_cond (t := false) rfl (fun h2 => ?_) (fun h2 => ?_)
     · exact absurd h2 (by decide)
     have hnf : ¬ ((hd Z).kind = 1 ∧ nameV (hd Z).text = true ∧ (hd Z.tail).kind = 2 ∧ (hd Z.tail).text = [40]) := by rintro ⟨q1, q2, q3, q4⟩; simp_all
     refine x_skip <| block_n <| then_n <| sr rfl <| mP rfl ?_
     have ltM_b2 := hb4.lt
     have ltM_b3 := hb13.lt
     have szlM := HC.size
     refine w_plain rfl (st_callP (ags := [_]) rfl rfl T.ent82 rfl (gsimple_spec hg hz hR hq hmx ht) ?_ ?_)
     ·rintro _ w114 ⟨R9, e9, he9, hs9, rfl, c115⟩
      replace HC := HC.trans c115 q4
      refine then_p <| pp_panic ?_
      exact ⟨_, _, by unfold commandG; rw [if_neg (by rw [hop]; simp), if_neg hrs, if_neg hnf]; exact he9, hs9, rfl, HC⟩
     rintro _ w116 ⟨cM, RM, vsM, heM, hsM, hlM, rfl, hvM, hR, c117⟩
     obtain ⟨A1M, n1M, A2M, n2M, A3M, n3M, A4M, n4M, A5M, n5M, rfl, hAM, k1M, k2M, k3M, k4M, k5M⟩ := cm_open hvM
     replace hvM := cmE.mono hvM (D' := (fun k => w79.heap.size ≤ k ∧ k < w116.heap.size)) (fun k hk h => ⟨h, hk⟩)
     have szM : w116.heap.size ≤ w116.heap.size := Nat.le_refl _
     have szmM := c117.size
     replace HC := HC.trans c117 q4
     replace hb4 := hb4.tr1 c117 (by omega)
     refine Wp rfl <| st_st (v := .agg ⟨[_, _, _, _, _, _, _, _, _]⟩) T.size30 rfl rfl rfl hb4 ?_
     intro w118 c119 hb120; simp only [setVs, setV] at hb120
     clear hb4
     replace HC := HC.then1 c119 ge_b2
     replace hR := hR.tr c119 q2
     replace hvM := Enc.chg hvM c119 q3
     replace szM := Nat.le_trans szM c119.size
     refine en <| x_ret <| pp_ret <| ret_cellA (vs := [_, _, _, _, _, _, _, _, _]) rfl rfl T.agg30 (hb120.cells (n := 9) rfl) rfl ?_
     exact ⟨cM, RM, _, by unfold commandG; rw [if_neg (by rw [hop]; simp), if_neg hrs, if_neg hnf]; exact heM, hsM, hlM, rfl, cmE.mono hvM (fun k _ h => by have := h.1; show _ ≤ k; omega), hR, HC⟩
   ·try simp only [nm, ne_eq] at g78
    iterate 3 refine w_no 3 28 true ?_
    refine pF rfl rfl <| mB rfl ?_
    iterate 8 refine w_no 8 33 true ?_
    refine pF rfl rfl <| mB rfl ?_
    iterate 8 refine w_no 18 43 true ?_
    refine pF rfl rfl <| aB rfl <| en <| x_cond (t := false) rfl (fun h2 => ?_) (fun h2 => ?_)
    · exact absurd h2 (by decide)
    have hnf : ¬ ((hd Z).kind = 1 ∧ nameV (hd Z).text = true ∧ (hd Z.tail).kind = 2 ∧ (hd Z.tail).text = [40]) := by rintro ⟨q1, q2, q3, q4⟩; simp_all
    refine x_skip <| block_n <| then_n <| sr rfl <| mP rfl ?_
    have ltM_b2 := hb4.lt
    have ltM_b3 := hb13.lt
    have szlM := HC.size
    refine w_plain rfl (st_callP (ags := [_]) rfl rfl T.ent82 rfl (gsimple_spec hg hz hR hq hmx ht) ?_ ?_)
    ·rintro _ w121 ⟨R9, e9, he9, hs9, rfl, c122⟩
     replace HC := HC.trans c122 q4
     refine then_p <| pp_panic ?_
     exact ⟨_, _, by unfold commandG; rw [if_neg (by rw [hop]; simp), if_neg hrs, if_neg hnf]; exact he9, hs9, rfl, HC⟩
    rintro _ w123 ⟨cM, RM, vsM, heM, hsM, hlM, rfl, hvM, hR, c124⟩
    obtain ⟨A1M, n1M, A2M, n2M, A3M, n3M, A4M, n4M, A5M, n5M, rfl, hAM, k1M, k2M, k3M, k4M, k5M⟩ := cm_open hvM
    replace hvM := cmE.mono hvM (D' := (fun k => w14.heap.size ≤ k ∧ k < w123.heap.size)) (fun k hk h => ⟨h, hk⟩)
    have szM : w123.heap.size ≤ w123.heap.size := Nat.le_refl _
    have szmM := c124.size
    replace HC := HC.trans c124 q4
    replace hb4 := hb4.tr1 c124 (by omega)
    refine Wp rfl <| st_st (v := .agg ⟨[_, _, _, _, _, _, _, _, _]⟩) T.size30 rfl rfl rfl hb4 ?_
    intro w125 c126 hb127; simp only [setVs, setV] at hb127
    clear hb4
    replace HC := HC.then1 c126 ge_b2
    replace hR := hR.tr c126 q2
    replace hvM := Enc.chg hvM c126 q3
    replace szM := Nat.le_trans szM c126.size
    refine en <| x_ret <| pp_ret <| ret_cellA (vs := [_, _, _, _, _, _, _, _, _]) rfl rfl T.agg30 (hb127.cells (n := 9) rfl) rfl ?_
    exact ⟨cM, RM, _, by unfold commandG; rw [if_neg (by rw [hop]; simp), if_neg hrs, if_neg hnf]; exact heM, hsM, hlM, rfl, cmE.mono hvM (fun k _ h => by have := h.1; show _ ≤ k; omega), hR, HC⟩

theorem gdeep {rb tb : Nat} (hq : QOk rb tb) : ∀ (m : Nat) (d : Int), d + (m : Int) = 64 → 0 ≤ d →
    (∀ (Z : List Tok) (w : World), GT Z → GB Z → opensB Z = true → RdAt w rb tb d Z → MaxT w → Tab w → CallP Tryz.prog 78 #[.pointer (some ⟨rb, 0, none⟩), .func (.func 79) #[.pointer (some ⟨rb, 0, none⟩)] #[]] w (fun v w' => OkC ((gramF m).1 Z) Z rb tb d w w' v) (fun v w' => ErT ((gramF m).1 Z) Z rb w w' v)) ∧
    (∀ (Z : List Tok) (w : World), GT Z → GB Z → (hd Z).kind = 1 → (hd Z.tail).kind = 2 → RdAt w rb tb d Z → MaxT w → Tab w → CallP Tryz.prog 78 #[.pointer (some ⟨rb, 0, none⟩), .func (.func 81) #[.pointer (some ⟨rb, 0, none⟩)] #[]] w (fun v w' => OkC ((gramF m).2 Z) Z rb tb d w w' v) (fun v w' => ErT ((gramF m).2 Z) Z rb w w' v))
  | 0, d, hd, h0 => ⟨fun Z w hg hz hop hR hmx ht => (gwithin_deep hg hR hq hmx ht (by omega)).mono (fun _ _ h => h.elim) (fun _ _ h => h), fun Z w hg hz h1 h2 hR hmx ht => (gwithin_deep hg hR hq hmx ht (by omega)).mono (fun _ _ h => h.elim) (fun _ _ h => h)⟩
  | m + 1, d, hd, h0 => by
    obtain ⟨ih1, ih2⟩ := gdeep hq m (d + 1) (by omega) (by omega)
    have hcom : ReadsC 64 (comG m) rb tb (d + 1) := fun Z w hg hz hR hq hmx ht => gcommand_spec hg hz hR hq hmx ht ih1 ih2
    exact ⟨fun Z w hg hz hop hR hmx ht => gwithin_ok (g := compG (comG m)) hg hR hq hmx ht T.ent79 ⟨h0, by omega⟩ fun w1 hR1 hmx1 ht1 => gcomp_spec hg hz hR1 hq hmx1 ht1 hcom (opens_kind hop),
      fun Z w hg hz h1 h2 hR hmx ht => gwithin_ok (g := funcG (gramF m).1) hg hR hq hmx ht T.ent81 ⟨h0, by omega⟩ fun w1 hR1 hmx1 ht1 => gfunc_spec hg hz hR1 hq hmx1 ht1 ih1 h1 h2⟩
theorem gcom {rb tb : Nat} (hq : QOk rb tb) : ReadsC 64 (comG 64) rb tb 0 := fun Z w hg hz hR hq hmx ht =>
  gcommand_spec hg hz hR hq hmx ht (gdeep hq 64 0 (by decide) (by decide)).1 (gdeep hq 64 0 (by decide) (by decide)).2

end Go.Proofs.YtghjmiggobpmoaaGreatDoor.K
set_option linter.unusedVariables false
set_option linter.unusedSimpArgs false
set_option autoImplicit false
set_option maxRecDepth 20000
namespace Go.Proofs.YtghjmiggobpmoaaGreatDoor.K
open Go Go.RowKit
theorem next_short {r : Bytes} (hb : r ≠ [] → byte r 0 ≠ 32 ∧ byte r 0 ≠ 9 ∧ byte r 0 ≠ 35) (i : Int) (he : (nextT r i).2.2 = 0) : (nextT r i).1.text.length ≤ r.length := by
  by_cases hr : r = []
  · unfold nextT; rw [if_pos hr]; exact Nat.zero_le _
  · rcases nextT_ok hr (hb hr) i with ⟨h, _⟩ | ⟨_, _, _, h2, h3, _⟩
    · exact absurd he h
    · rw [h3, List.length_take]; omega
theorem scan_few : ∀ (k : Nat) (r : Bytes) (i : Int) (out : List Tok) (ws : List (Nat × Bool)), r.length < k → r.length ≤ 16384 → (∀ x, x ∈ out.map skel → x.2.1.length ≤ 16384) →
    (scanF k r i out ws).2.2 = 0 → (∀ x, x ∈ (scanF k r i out ws).1.map skel → x.2.1.length ≤ 16384) ∧ (scanF k r i out ws).1.length ≤ out.length + r.length + 1
  | 0, _, _, _, _, h, _, _, _ => absurd h (Nat.not_lt_zero _)
  | k + 1, r, i, out, ws, hk, hl, ho, he => by
    have hbl := blankL_le r.length r
    simp only [scanF] at he ⊢
    have hbs := blankL_stop r.length r (Nat.le_refl _)
    rw [show blankL r.length r = blankV r from rfl] at hbl hbs
    have hsh := next_short (r := r.drop (blankV r)) (fun h => hbs.resolve_left h) (i + blankV r)
    have hlt : (r.drop (blankV r)).length = r.length - blankV r := by simp
    generalize hz : nextT (r.drop (blankV r)) (i + blankV r) = z at *
    split at he
    · exact absurd he (by assumption)
    rename_i h0
    rw [if_neg h0]
    have hsh := hsh (by simpa using h0)
    have ho2 : ∀ x, x ∈ (out ++ [z.1]).map skel → x.2.1.length ≤ 16384 := fun x hx => by
      rw [List.map_append] at hx
      rcases List.mem_append.1 hx with h | h
      · exact ho x h
      · rw [List.mem_singleton.1 h]; show z.1.text.length ≤ _; omega
    split at he
    · rename_i hk0
      rw [if_pos hk0]
      refine ⟨by rw [linesV_skel]; exact ho2, ?_⟩
      show (linesV _ _ _).1.length ≤ _
      rw [linesV_len]; simp only [List.length_append, List.length_cons, List.length_nil]; omega
    rename_i hk0
    rw [if_neg hk0]
    have hr : r.drop (blankV r) ≠ [] := fun e => by
      have h9 : (nextT (r.drop (blankV r)) (i + blankV r)).1.kind = 0 := by unfold nextT; rw [if_pos e]
      rw [hz] at h9; exact hk0 h9
    have hrp := List.length_pos_iff.2 hr
    have hn1 : 1 ≤ z.2.1 ∧ z.2.1 ≤ (r.drop (blankV r)).length := by
      rcases nextT_ok hr (hbs.resolve_left hr) (i + blankV r) with ⟨h, _⟩ | ⟨_, _, h1, h2, _⟩
      · rw [hz] at h; exact absurd (by simpa using h0) h
      · rw [hz] at h1 h2; exact ⟨h1, h2⟩
    split at he
    · rename_i hk3
      rw [if_pos hk3]
      have h7 := scan_few k (((r.drop (blankV r)).drop z.2.1).drop (linesV (out ++ [z.1]) (pushW out ws z.1) ((r.drop (blankV r)).drop z.2.1)).2) (i + blankV r + z.2.1 + (linesV (out ++ [z.1]) (pushW out ws z.1) ((r.drop (blankV r)).drop z.2.1)).2) (linesV (out ++ [z.1]) (pushW out ws z.1) ((r.drop (blankV r)).drop z.2.1)).1 [] (by simp only [List.length_drop] at hn1 ⊢; omega) (by simp only [List.length_drop] at hn1 ⊢; omega) (by rw [linesV_skel]; exact ho2) he
      refine ⟨h7.1, Nat.le_trans h7.2 ?_⟩
      rw [linesV_len]
      simp only [List.length_drop, List.length_append, List.length_cons, List.length_nil] at hn1 ⊢; omega
    · rename_i hk3
      rw [if_neg hk3]
      have h7 := scan_few k ((r.drop (blankV r)).drop z.2.1) (i + blankV r + z.2.1) (out ++ [z.1]) (pushW out ws z.1) (by simp only [List.length_drop] at hn1 ⊢; omega) (by simp only [List.length_drop] at hn1 ⊢; omega) ho2 he
      refine ⟨h7.1, Nat.le_trans h7.2 ?_⟩
      simp only [List.length_drop, List.length_append, List.length_cons, List.length_nil] at hn1 ⊢; omega
theorem tokens_few {s : Bytes} (he : (tokensV s).2.2 = 0) : (tokensV s).1.length ≤ 20000 ∧ ∀ t, t ∈ (tokensV s).1 → t.text.length ≤ 20000 := by
  unfold tokensV at he ⊢
  split at he
  · exact absurd he (by decide)
  · rename_i h
    rw [if_neg h]
    have h7 := scan_few (s.length + 1) s 0 [] [] (Nat.lt_succ_self _) (by omega) (fun x hx => by cases hx) he
    refine ⟨by have := h7.2; simp only [List.length_nil] at this; omega, fun t ht => ?_⟩
    have := h7.1 (skel t) (List.mem_map_of_mem ht)
    exact Nat.le_trans this (by omega)
theorem gramV_tok {s : Bytes} (h : (tokensV s).2.2 ≠ 0) : gramV s = (zCm, (tokensV s).2.1, (tokensV s).2.2) := by unfold gramV; rw [if_pos h]
theorem gramV_ok {s : Bytes} {c : Cm} {R : List Tok} (h : (tokensV s).2.2 = 0) (hg : gramG (tokensV s).1 = .ok c R) : gramV s = (c, 0, 0) := by unfold gramV; rw [if_neg (by rw [h]; simp), hg]
theorem gramV_er {s : Bytes} {R : List Tok} {e : Int} (h : (tokensV s).2.2 = 0) (hg : gramG (tokensV s).1 = .er R e) : gramV s = (zCm, (hd R).at_, e) := by unfold gramV; rw [if_neg (by rw [h]; simp), hg]
theorem gramG_zero {T : List Tok} (h : (hd (linesG T)).kind = 0) : gramG T = .ok zCm (linesG T) := by unfold gramG; rw [if_pos h]; show (if _ then _ else _) = _; rw [if_pos h]
theorem gramG_ok {T R : List Tok} {c : Cm} (h : (hd (linesG T)).kind ≠ 0) (hl : listG (comG 64) (linesG T) = .ok c R) (hk : (hd R).kind = 0) : gramG T = .ok c R := by unfold gramG; rw [if_neg h, hl]; show (if _ then _ else _) = _; rw [if_pos hk]
theorem gramG_end {T R : List Tok} {c : Cm} (h : (hd (linesG T)).kind ≠ 0) (hl : listG (comG 64) (linesG T) = .ok c R) (hk : (hd R).kind ≠ 0) : gramG T = .er R 101 := by unfold gramG; rw [if_neg h, hl]; show (if _ then _ else _) = _; rw [if_neg hk]
theorem gramG_er {T R : List Tok} {e : Int} (h : (hd (linesG T)).kind ≠ 0) (hl : listG (comG 64) (linesG T) = .er R e) : gramG T = .er R e := by unfold gramG; rw [if_neg h, hl]; rfl
end Go.Proofs.YtghjmiggobpmoaaGreatDoor.K
