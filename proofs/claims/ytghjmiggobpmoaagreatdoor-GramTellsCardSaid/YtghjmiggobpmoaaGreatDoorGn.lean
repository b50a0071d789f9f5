import Derived.Test.YtghjmiggobpmoaaGreatDoorTok
import Derived.Test.YtghjmiggobpmoaaGreatDoorGramQ
set_option linter.unusedVariables false
set_option linter.unusedSimpArgs false
set_option autoImplicit false
set_option maxRecDepth 20000
namespace Go.Proofs.YtghjmiggobpmoaaGreatDoor.K
open Go Go.Proofs Go.RowKit

theorem sl_block {α : Type} {sz : Nat} {f : α → List Value} {h1 h2 h3} {w : World} {D : Nat → Prop} {A : Option Addr} {xs : List α} (h : Sl (Enc.flat sz f h1 h2 h3) w D A xs) (hne : xs ≠ []) : ∃ tb, D tb ∧ tb < w.heap.size ∧ Sl (Enc.flat sz f h1 h2 h3) w (fun k => k = tb) A xs := by
  rcases h with h | ⟨b, o, q1, q2, q3, q4⟩
  · exact absurd h hne
  · exact ⟨b, q3, q2, .inr ⟨b, o, q1, q2, rfl, q4⟩⟩
def ParsC (w w' : World) (r : Cm × Int × Int) (v : Value) : Prop := ∃ vs, v = .tuple ⟨[.agg ⟨vs⟩, .int .i64 r.2.1, .int .i64 r.2.2]⟩ ∧ cmE.R w' (fun k => w.heap.size ≤ k) r.1 vs ∧ Chg [] w w'
def PlR (s : Bytes) : Prop := (tokensV s).2.2 = 0 → (gramV s).2.2 ≠ 0 → ∃ t, t ∈ (tokensV s).1 ∧ (gramV s).2.1 = t.at_
theorem zero_R {w : World} {D : Nat → Prop} : cmE.R w D zCm [.int .i64 0, S [], .bool false, .bool false, .slice none 0 0, .slice none 0 0, .slice none 0 0, .slice none 0 0, .slice none 0 0] := cm_shut (c := zCm) ⟨.nil, .nil, .nil, .nil, .nil⟩ ⟨Nat.le_refl _, by decide⟩ ⟨Nat.le_refl _, by decide⟩ ⟨Nat.le_refl _, by decide⟩ ⟨Nat.le_refl _, by decide⟩ ⟨Nat.le_refl _, by decide⟩

theorem gP1_ret {b2 b3 b4 : Nat} (w : World) : CallsDIn Fence.wide 0 Tryz.prog 13 #[.pointer (some ⟨b2, 0, none⟩), .pointer (some ⟨b3, 0, none⟩), .pointer (some ⟨b4, 0, none⟩)] .returning w fun e u w' => (∃ v, e = .returned v ∧ Chg [] w w') ∧ u = .returning := by
 refine callsD_recover (args := [_, _, _]) Tryz.func13 rfl ⟨rfl, rfl, rfl⟩ ⟨rfl, rfl, rfl⟩ ⟨rfl, rfl⟩ (Nat.le_of_ble_eq_true rfl) (.inl ⟨rfl, rfl, rfl⟩) ?_
 have HC : Chg [] w w := .refl _
 refine sr rfl <| mv (v := .nilIface) rfl <| Wp rfl <| st_ineq0 T.if20 rfl <| en <| x_cond (t := false) rfl (fun h0 => ?_) (fun h0 => ?_)
 · exact absurd h0 (by decide)
 refine x_skip <| ret_none_n rfl ?_
 exact HC

theorem gP1_pan {b2 b3 b4 : Nat} {R : List Tok} {e : Int} {x0 x1 x2 x3 x4 x5 x6 x7 x8 y z : Value} (w : World) (hy2 : Blk w b2 [x0, x1, x2, x3, x4, x5, x6, x7, x8] 30) (hy3 : Blk w b3 [y] 3) (hy4 : Blk w b4 [z] 31) (h23 : b2 ≠ b3) (h24 : b2 ≠ b4) (h34 : b3 ≠ b4) : CallsDIn Fence.wide 0 Tryz.prog 13 #[.pointer (some ⟨b2, 0, none⟩), .pointer (some ⟨b3, 0, none⟩), .pointer (some ⟨b4, 0, none⟩)] (.panicking (pn (wrongV R e))) w fun en u w' => (∃ v, en = .returned v ∧ Blk w' b2 [.int .i64 0, S [], .bool false, .bool false, .slice none 0 0, .slice none 0 0, .slice none 0 0, .slice none 0 0, .slice none 0 0] 30 ∧ Blk w' b3 [.int .i64 (hd R).at_] 3 ∧ Blk w' b4 [.int .i64 e] 31 ∧ Chg [b2, b3, b4] w w') ∧ u = .panicking [{ v := wrongV R e, recovered := true }] := by
 have hne23 := h23; have hne24 := h24; have hne34 := h34
 refine callsD_recover (args := [_, _, _]) Tryz.func13 rfl ⟨rfl, rfl, rfl⟩ ⟨rfl, rfl, rfl⟩ ⟨rfl, rfl⟩ (Nat.le_of_ble_eq_true rfl) (.inr ⟨_, rfl, rfl, rfl⟩) ?_
 have HC : Chg [b2, b3, b4] w w := .refl _
 refine sr rfl <| mv (v := .iface _ _) rfl <| Wp rfl <| st_ineq T.if20 rfl <| en <| x_cond (t := true) rfl (fun h0 => ?_) (fun h0 => ?_)
 rotate_left
 · exact absurd h0 (by decide)
 refine sr rfl <| mv (v := .iface _ _) rfl <| Wp rfl <| st_assert (v := .agg ⟨[.int _ _, .int _ _]⟩) T.ux45 rfl rfl rfl <| mv (v := .tuple ⟨[_, _]⟩) rfl <| Wp rfl <| st_extract (vs := [_, _]) (v := .agg ⟨[.int _ _, .int _ _]⟩) rfl rfl <| Wp rfl <| st_extract (vs := [_, _]) (v := .bool _) rfl rfl <| Wp rfl <| st_alloc T.zero45 ?_
 intro bw w1 e2 c3 hb4
 have ge_bw := gB e2 HC.size
 have ne_b2_bw := nF e2 hy2.ne_size
 have ne_b3_bw := nF e2 hy3.ne_size
 have ne_b4_bw := nF e2 hy4.ne_size
 replace HC := HC.then c3
 replace hy2 := hy2.tr0 c3
 replace hy3 := hy3.tr0 c3
 replace hy4 := hy4.tr0 c3
 clear e2
 refine Wp rfl <| st_st (v := .agg ⟨[_, _]⟩) T.size45 rfl rfl rfl hb4 ?_
 intro w5 c6 hb7; simp only [setVs, setV] at hb7
 clear hb4
 replace HC := HC.then1 c6 ge_bw
 replace hy2 := hy2.tr1 c6 ne_b2_bw
 replace hy3 := hy3.tr1 c6 ne_b3_bw
 replace hy4 := hy4.tr1 c6 ne_b4_bw
 refine aB rfl <| en <| x_seq <| sr rfl <| mB rfl <| Wp rfl <| st_not rfl <| en <| x_cond rfl (fun h1 => ?_) (fun h1 => ?_)
 ·try simp only [nm, ne_eq] at h1
  exact absurd h1 (by simp)
 ·try simp only [nm, ne_eq] at h1
  refine x_skip <| then_n <| x_draw [(0, 0), (1, 0), (2, 0), (3, 0), (4, 0), (5, 1), (6, 1), (7, 2)] T.mixed rfl rfl rfl (fun W => W.heap[b4]? = w5.heap[b4]? ∧ W.heap[bw]? = w5.heap[bw]? ∧ True) ⟨rfl, rfl, trivial⟩ ?_
  have o10 := hy4
  have o11 := hb7
  have c9 := Chg.drew w5
  generalize World.drew w5 = w8 at c9 ⊢
  replace HC := HC.then c9
  replace hy2 := hy2.tr0 c9
  replace hy3 := hy3.tr0 c9
  replace hy4 := hy4.tr0 c9
  replace hb7 := hb7.tr0 c9
  refine sq_q rfl (fun W hT => r_bld (ps := []) (vs := [.int _ _, S _, .bool _, .bool _, .slice _ _ _, .slice _ _ _, .slice _ _ _, .slice _ _ _, .slice _ _ _]) T.bld30 rfl) <| sq_q rfl (fun W hT => r_fieldAddr T.fld45_0 rfl) <| sq_q rfl (fun W hT => r_load1 (v := .int _ _) T.one3 rfl (Blk.cell (show Blk W bw _ _ from hT.2.1.trans o11) rfl)) <| sq_q rfl (fun W hT => r_fieldAddr T.fld45_1 rfl) <| sq_q rfl (fun W hT => r_load1 (v := .int _ _) T.one31 rfl (Blk.cell (show Blk W bw _ _ from hT.2.1.trans o11) rfl)) <| sq_store1 rfl T.size30 (v := .agg ⟨[.int _ _, S _, .bool _, .bool _, .slice _ _ _, .slice _ _ _, .slice _ _ _, .slice _ _ _, .slice _ _ _]⟩) rfl rfl rfl hy2 rfl (Nat.le_of_ble_eq_true rfl) q5 rfl ?_
  intro w12 c13 hb14; simp only [setVs, setV] at hb14
  clear hy2
  replace HC := HC.trans c13 q4
  replace hy3 := hy3.tr1 c13 (by omega)
  replace hy4 := hy4.tr1 c13 (by omega)
  replace hb7 := hb7.tr1 c13 (Ne.symm ne_b2_bw)
  refine ⟨_, fun _ h => h, ⟨(Eq.trans hy4 o10.symm), (Eq.trans hb7 o11.symm), trivial⟩, ?_⟩
  refine sq_store1 rfl T.size3 (v := .int _ _) rfl rfl rfl hy3 rfl (Nat.le_of_ble_eq_true rfl) q5 rfl ?_
  intro w15 c16 hb17; simp only [setVs, setV] at hb17
  clear hy3
  replace HC := HC.trans c16 q4
  replace hy4 := hy4.tr1 c16 (by omega)
  replace hb7 := hb7.tr1 c16 (Ne.symm ne_b3_bw)
  replace hb14 := hb14.tr1 c16 (by omega)
  refine ⟨_, fun _ h => h, ⟨(Eq.trans hy4 o10.symm), (Eq.trans hb7 o11.symm), trivial⟩, ?_⟩
  refine sq_store2 rfl T.size31 (v := .int _ _) rfl rfl rfl hy4 rfl (Nat.le_of_ble_eq_true rfl) q5 rfl ?_
  intro w18 c19 hb20; simp only [setVs, setV] at hb20
  clear hy4
  replace HC := HC.trans c19 q4
  replace hb14 := hb14.tr1 c19 (by omega)
  replace hb17 := hb17.tr1 c19 (by omega)
  clear o10
  clear o11
  refine sq_nil <| ret_none_n rfl ?_
  exact ⟨hb14, hb17, hb20, HC⟩

theorem gParse_spec (s : Bytes) (w : World) (hs : s.length < 4294967281) (hmx : MaxT w) (ht : Tab w) : CallR Tryz.prog 7 #[S s] w fun v w' => ParsC w w' (gramV s) v ∧ PlR s := by
 refine callR_of_wpD (args := [_]) Tryz.func7 rfl (Nat.le_of_ble_eq_true rfl) ?_
 have HC : Chg [] w w := .refl _
 have ht1 := ht.lt
 have hm1 := hmx.lt
 refine sr rfl <| Wp rfl <| st_alloc T.zero30 ?_
 intro b2 w1 e2 c3 hb4
 have ge_b2 := gB e2 HC.size
 replace HC := HC.then c3
 replace ht := ht.tr0 c3
 replace hmx := hmx.tr0 c3
 clear e2
 refine Wp rfl <| st_alloc T.zero3 ?_
 intro b3 w5 e6 c7 hb8
 have ge_b3 := gB e6 HC.size
 have ne_b2_b3 := nF e6 hb4.ne_size
 replace HC := HC.then c7
 replace ht := ht.tr0 c7
 replace hmx := hmx.tr0 c7
 replace hb4 := hb4.tr0 c7
 clear e6
 refine Wp rfl <| st_alloc T.zero31 ?_
 intro b4 w9 e10 c11 hb12
 have ge_b4 := gB e10 HC.size
 have ne_b2_b4 := nF e10 hb4.ne_size
 have ne_b3_b4 := nF e10 hb8.ne_size
 replace HC := HC.then c11
 replace ht := ht.tr0 c11
 replace hmx := hmx.tr0 c11
 replace hb4 := hb4.tr0 c11
 replace hb8 := hb8.tr0 c11
 clear e10
 refine en <| sr rfl <| mS rfl ?_
 have ltk_b2 := hb4.lt
 have ltk_b3 := hb8.lt
 have ltk_b4 := hb12.lt
 have szk := HC.size
 refine Wp rfl <| st_call (ags := [_]) rfl rfl T.ent12 rfl (Tokens_spec s _ hs hmx ht) ?_
 rintro _ w13 ⟨At, capt, rfl, hct, hSt, c14⟩
 have szt : w9.heap.size ≤ w13.heap.size := c14.size
 replace HC := HC.then c14
 replace ht := ht.tr0 c14
 replace hmx := hmx.tr0 c14
 replace hb4 := hb4.tr0 c14
 replace hb8 := hb8.tr0 c14
 replace hb12 := hb12.tr0 c14
 refine mv (v := .tuple ⟨[_, _, _]⟩) rfl <| Wp rfl <| st_extract (vs := [_, _, _]) (v := .slice _ _ _) rfl rfl <| Wp rfl <| st_extract (vs := [_, _, _]) (v := .int _ _) rfl rfl <| Wp rfl <| st_extract (vs := [_, _, _]) (v := .int _ _) rfl rfl <| aL rfl <| Wp rfl <| st_st (v := .int _ _) T.size3 rfl rfl rfl hb8 ?_
 intro w15 c16 hb17; simp only [setVs, setV] at hb17
 clear hb8
 replace HC := HC.then1 c16 ge_b3
 replace ht := ht.tr c16 q1
 replace hmx := hmx.tr c16 q1
 replace hb4 := hb4.tr1 c16 ne_b2_b3
 replace hb12 := hb12.tr1 c16 (Ne.symm ne_b3_b4)
 replace hSt := hSt.tr c16 (by intro k hx hD; simp only [List.mem_singleton] at hx; subst hx; omega)
 refine Wp rfl <| st_st (v := .int _ _) T.size31 rfl rfl rfl hb12 ?_
 intro w18 c19 hb20; simp only [setVs, setV] at hb20
 clear hb12
 replace HC := HC.then1 c19 ge_b4
 replace ht := ht.tr c19 q1
 replace hmx := hmx.tr c19 q1
 replace hb4 := hb4.tr1 c19 ne_b2_b4
 replace hSt := hSt.tr c19 (by intro k hx hD; simp only [List.mem_singleton] at hx; subst hx; omega)
 replace hb17 := hb17.tr1 c19 ne_b3_b4
 refine en <| x_seq <| sr rfl <| lI T.one31 rfl (hb20.cell rfl) <| Wp rfl <| st_neq rfl rfl <| en <| x_cond rfl (fun h0 => ?_) (fun h0 => ?_)
 ·try simp only [nm, ne_eq] at h0
  have hte : (tokensV s).2.2 ≠ 0 := by first | assumption | simp_all
  refine x_seq <| x_open [0, 1, 2] (.bar 3 [1, 2] [] (.bar 4 [2] [] (.bar 5 [] [] (.stop)))) T.mixed rfl rfl (fun W => W.heap[b2]? = w18.heap[b2]? ∧ W.heap[b3]? = w18.heap[b3]? ∧ W.heap[b4]? = w18.heap[b4]? ∧ True) ⟨rfl, rfl, rfl, trivial⟩ ?_
  have o23 := hb4
  have o24 := hb17
  have o25 := hb20
  have c22 := Chg.drew w18
  generalize World.drew w18 = w21 at c22 ⊢
  replace HC := HC.then c22
  replace hb4 := hb4.tr0 c22
  replace hb17 := hb17.tr0 c22
  replace hb20 := hb20.tr0 c22
  refine sq_q rfl (fun W hT => r_bld (ps := []) (vs := [.int _ _, S _, .bool _, .bool _, .slice _ _ _, .slice _ _ _, .slice _ _ _, .slice _ _ _, .slice _ _ _]) T.bld30 rfl) <| sq_q rfl (fun W hT => r_load1 (v := .int _ _) T.one3 rfl (Blk.cell (show Blk W b3 _ _ from hT.2.1.trans o24) rfl)) <| sq_q rfl (fun W hT => r_load1 (v := .int _ _) T.one31 rfl (Blk.cell (show Blk W b4 _ _ from hT.2.2.1.trans o25) rfl)) <| sq_nil ?_
  have o26 := hb17
  have o27 := hb20
  refine tr_bar (fun W => W.heap[b3]? = w21.heap[b3]? ∧ W.heap[b4]? = w21.heap[b4]? ∧ True) ⟨rfl, rfl, trivial⟩ ?_ ?_
  · exact xq_yes rfl rfl (fun W hT => r_load1 (v := .int _ _) T.one3 rfl (Blk.cell (show Blk W b3 _ _ from hT.1.trans o26) rfl)) (fun k hk => by cases hk; rfl) <| xq_yes rfl rfl (fun W hT => r_load1 (v := .int _ _) T.one31 rfl (Blk.cell (show Blk W b4 _ _ from hT.2.1.trans o27) rfl)) (fun k hk => by cases hk; rfl) <| xq_nil
  refine sq_store1 rfl T.size30 (v := .agg ⟨[.int _ _, S _, .bool _, .bool _, .slice _ _ _, .slice _ _ _, .slice _ _ _, .slice _ _ _, .slice _ _ _]⟩) rfl rfl rfl hb4 rfl (Nat.le_of_ble_eq_true rfl) q5 rfl ?_
  intro w28 c29 hb30; simp only [setVs, setV] at hb30
  clear hb4
  replace HC := HC.then1 c29 ge_b2
  replace hb17 := hb17.tr1 c29 (Ne.symm ne_b2_b3)
  replace hb20 := hb20.tr1 c29 (Ne.symm ne_b2_b4)
  refine ext_T (b := b2) ⟨(Eq.trans hb17 o26.symm), (Eq.trans hb20 o27.symm), trivial⟩ ?_
  have o31 := hb30
  refine sq_nil ?_
  have o32 := hb20
  have o33 := hb30
  refine tr_bar (fun W => W.heap[b4]? = w28.heap[b4]? ∧ W.heap[b2]? = w28.heap[b2]? ∧ True) ⟨rfl, rfl, trivial⟩ ?_ ?_
  · exact xq_yes rfl rfl (fun W hT => r_load1 (v := .int _ _) T.one31 rfl (Blk.cell (show Blk W b4 _ _ from hT.1.trans o32) rfl)) (fun k hk => by cases hk; rfl) <| xq_nil
  refine sq_store1 rfl T.size3 (v := .int _ _) rfl rfl rfl hb17 rfl (Nat.le_of_ble_eq_true rfl) q5 rfl ?_
  intro w34 c35 hb36; simp only [setVs, setV] at hb36
  clear hb17
  replace HC := HC.then1 c35 ge_b3
  replace hb20 := hb20.tr1 c35 (Ne.symm ne_b3_b4)
  replace hb30 := hb30.tr1 c35 ne_b2_b3
  refine ext_T (b := b3) ⟨(Eq.trans hb20 o32.symm), (Eq.trans hb30 o33.symm), trivial⟩ ?_
  have o37 := hb36
  refine sq_nil ?_
  have o38 := hb30
  have o39 := hb36
  refine tr_bar (fun W => W.heap[b2]? = w34.heap[b2]? ∧ W.heap[b3]? = w34.heap[b3]? ∧ True) ⟨rfl, rfl, trivial⟩ ?_ ?_
  · exact xq_nil
  refine sq_store1 rfl T.size31 (v := .int _ _) rfl rfl rfl hb20 rfl (Nat.le_of_ble_eq_true rfl) q5 rfl ?_
  intro w40 c41 hb42; simp only [setVs, setV] at hb42
  clear hb20
  replace HC := HC.then1 c41 ge_b4
  replace hb30 := hb30.tr1 c41 ne_b2_b4
  replace hb36 := hb36.tr1 c41 ne_b3_b4
  refine ext_T (b := b4) ⟨(Eq.trans hb30 o38.symm), (Eq.trans hb36 o39.symm), trivial⟩ ?_
  have o43 := hb42
  refine sq_nil ?_
  clear o38
  clear o39
  clear o43
  refine tr_stop <| then_n <| x_ret <| then_r <| d_ret0 <| ret_many (vs := [.agg ⟨[_, _, _, _, _, _, _, _, _]⟩, .int _ _, .int _ _]) rfl ⟨⟨_, _, rfl, run_loadVarA T.agg30 (hb30.cells (n := 9) rfl) rfl⟩, ⟨⟨_, _, rfl, run_loadVar1 T.one3 (hb36.cell rfl)⟩, ⟨⟨_, _, rfl, run_loadVar1 T.one31 (hb42.cell rfl)⟩, trivial⟩⟩⟩ (Nat.le_of_ble_eq_true rfl) ?_
  have hv9 := gramV_tok hte
  have hpl : PlR s := fun h _ => absurd h hte
  refine ⟨?_, hpl⟩
  rw [hv9]
  exact ⟨_, rfl, zero_R, HC⟩
 ·try simp only [nm, ne_eq] at h0
  have hte : (tokensV s).2.2 = 0 := by first | assumption | simp_all
  have hg := tokens_good hte
  have hz : GB (tokensV s).1 := tokens_few hte
  refine x_skip <| then_n <| sr rfl <| Wp rfl <| st_makeFunc <| Wp rfl <| st_defer (cap := #[.pointer (some ⟨b2, 0, none⟩), .pointer (some ⟨b3, 0, none⟩), .pointer (some ⟨b4, 0, none⟩)]) rfl rfl rfl <| en <| x_seq ?_
  obtain ⟨tb, htb, htl, hSb⟩ := sl_block hSt hg.ne
  refine x_region rfl <| mL rfl <| Wp rfl <| st_bld (ps := [(0, .tmp 19)]) (vs := [.slice _ _ _, .int _ _]) T.bld49 rfl <| Wp rfl <| st_box (v := .agg ⟨[.slice _ _ _, .int _ _]⟩) (vs := [_, _]) rfl rfl ?_
  intro rb w44 e45 c46 hb47
  have ge_rb : w.heap.size ≤ rb := by rw [e45]; exact HC.size
  have ne_b2_rb := nF e45 hb4.ne_size
  have ne_b3_rb := nF e45 hb17.ne_size
  have ne_b4_rb := nF e45 hb20.ne_size
  have nt_rb : tb < rb := by rw [e45]; exact htl
  replace HC := HC.then c46
  replace ht := ht.tr0 c46
  replace hmx := hmx.tr0 c46
  replace hb4 := hb4.tr0 c46
  replace hb17 := hb17.tr0 c46
  replace hb20 := hb20.tr0 c46
  replace hSb := hSb.tr0 c46
  replace htl := Nat.lt_of_lt_of_le htl c46.size
  clear e45
  refine aP rfl <| en <| x_seq <| x_seq ?_
  have hR : RdAt w44 rb tb 0 (tokensV s).1 := ⟨At, capt, hb47, ⟨hct, trivial⟩, hSb⟩
  have hq : QOk rb tb := ⟨by omega, by omega, by omega⟩
  have hrl := hR.lt hg
  refine x_region rfl <| mP rfl <| Wp rfl <| st_call (ags := [_]) rfl rfl T.ent14 rfl (glines_spec (Z := (tokensV s).1) hg hR hq) ?_
  rintro _ w48 ⟨hR, c49⟩
  replace HC := HC.then1 c49 ge_rb
  replace ht := ht.tr c49 q1
  replace hmx := hmx.tr c49 q1
  replace hb4 := hb4.tr1 c49 ne_b2_rb
  replace hb17 := hb17.tr1 c49 ne_b3_rb
  replace hb20 := hb20.tr1 c49 ne_b4_rb
  replace htl := Nat.lt_of_lt_of_le htl c49.size
  refine en <| x_seq ?_
  have hsL := lines_suf hg
  have hgL := hsL.good
  have hzL := hsL.gb hz
  refine x_region rfl <| mP rfl <| Wp rfl <| st_call (ags := [_]) rfl rfl T.ent15 rfl (gtok_spec (Z := (linesG (tokensV s).1)) hgL hR) ?_
  rintro _ w50 ⟨rfl, c51⟩
  replace HC := HC.then c51
  replace ht := ht.tr0 c51
  replace hmx := hmx.tr0 c51
  replace hb4 := hb4.tr0 c51
  replace hb17 := hb17.tr0 c51
  replace hb20 := hb20.tr0 c51
  replace htl := Nat.lt_of_lt_of_le htl c51.size
  replace hR := hR.tr0 c51
  refine Wp rfl <| st_field (v := .int _ _) T.fone51_0 rfl rfl <| Wp rfl <| st_neq rfl rfl <| en <| x_cond rfl (fun h1 => ?_) (fun h1 => ?_)
  ·try simp only [nm, ne_eq] at h1
   have hk0 : (hd (linesG (tokensV s).1)).kind ≠ 0 := by first | assumption | simp_all
   have hsL1 := hsL
   refine x_region rfl <| mP rfl ?_
   have ltM_b2 := hb4.lt
   have ltM_b3 := hb17.lt
   have ltM_b4 := hb20.lt
   have szlM := HC.size
   refine w_plain rfl (st_callP (ags := [_]) rfl rfl T.ent16 rfl (glist_spec hgL hzL hR hq hmx ht (gcom hq)) ?_ ?_)
   ·rintro _ w52 ⟨R9, e9, he9, hs9, rfl, c53⟩
    replace HC := HC.then1 c53 ge_rb
    replace hb4 := hb4.tr1 c53 ne_b2_rb
    replace hb17 := hb17.tr1 c53 ne_b3_rb
    replace hb20 := hb20.tr1 c53 ne_b4_rb
    replace htl := Nat.lt_of_lt_of_le htl c53.size
    refine then_p <| d_panic (xs := #[.pointer (some ⟨b2, 0, none⟩), .pointer (some ⟨b3, 0, none⟩), .pointer (some ⟨b4, 0, none⟩)]) T.ent13 (by simp) <| CallsDIn.mono (gP1_pan _ hb4 hb17 hb20 ne_b2_b3 ne_b2_b4 ne_b3_b4) ?_
    rintro _ _ w54 ⟨⟨v9, rfl, hq2, hq3_, hq4, c55⟩, rfl⟩
    refine ⟨⟨v9, rfl⟩, rfl, ?_⟩
    replace HC := HC.trans c55 (by intro x hx; simp only [List.mem_cons, List.mem_nil_iff, or_false] at hx; rcases hx with h1 | h1 | h1 <;> first | (left; simp [h1]; done) | (right; rw [h1]; omega))
    refine ret_many (vs := [.agg ⟨[_, _, _, _, _, _, _, _, _]⟩, .int _ _, .int _ _]) rfl ⟨⟨_, _, rfl, run_loadVarA T.agg30 (hq2.cells (n := 9) rfl) rfl⟩, ⟨⟨_, _, rfl, run_loadVar1 T.one3 (hq3_.cell rfl)⟩, ⟨⟨_, _, rfl, run_loadVar1 T.one31 (hq4.cell rfl)⟩, trivial⟩⟩⟩ (Nat.le_of_ble_eq_true rfl) ?_
    have hv9 := gramV_er hte (gramG_er hk0 he9)
    have hpl : PlR s := fun _ _ => ⟨hd R9, (hs9.trans hsL).suf.subset (hd_mem hs9.good), by rw [hv9]⟩
    refine ⟨?_, hpl⟩
    rw [hv9]
    exact ⟨_, rfl, zero_R, HC⟩
   rintro _ w56 ⟨cM, RL, vsM, heM, hsM, hlM, rfl, hvM, hR, c57⟩
   obtain ⟨A1M, n1M, A2M, n2M, A3M, n3M, A4M, n4M, A5M, n5M, rfl, hAM, k1M, k2M, k3M, k4M, k5M⟩ := cm_open hvM
   replace hvM := cmE.mono hvM (D' := (fun k => w50.heap.size ≤ k ∧ k < w56.heap.size)) (fun k hk h => ⟨h, hk⟩)
   have szM : w56.heap.size ≤ w56.heap.size := Nat.le_refl _
   have szmM := c57.size
   replace HC := HC.then1 c57 ge_rb
   replace hb4 := hb4.tr1 c57 ne_b2_rb
   replace hb17 := hb17.tr1 c57 ne_b3_rb
   replace hb20 := hb20.tr1 c57 ne_b4_rb
   replace htl := Nat.lt_of_lt_of_le htl c57.size
   refine Wp rfl <| st_st (v := .agg ⟨[_, _, _, _, _, _, _, _, _]⟩) T.size30 rfl rfl rfl hb4 ?_
   intro w58 c59 hb60; simp only [setVs, setV] at hb60
   clear hb4
   replace HC := HC.then1 c59 ge_b2
   replace hb17 := hb17.tr1 c59 (Ne.symm ne_b2_b3)
   replace hb20 := hb20.tr1 c59 (Ne.symm ne_b2_b4)
   replace htl := Nat.lt_of_lt_of_le htl c59.size
   replace hR := hR.tr c59 q2
   replace hvM := Enc.chg hvM c59 q3
   replace szM := Nat.le_trans szM c59.size
   refine en <| x_seq <| x_seq ?_
   have hgY := hsM.good
   refine x_region rfl <| mP rfl <| Wp rfl <| st_call (ags := [_]) rfl rfl T.ent15 rfl (gtok_spec (Z := RL) hgY hR) ?_
   rintro _ w61 ⟨rfl, c62⟩
   replace HC := HC.then c62
   replace hb17 := hb17.tr0 c62
   replace hb20 := hb20.tr0 c62
   replace htl := Nat.lt_of_lt_of_le htl c62.size
   replace hR := hR.tr0 c62
   replace hvM := Enc.chg hvM c62 q8
   replace szM := Nat.le_trans szM c62.size
   replace hb60 := hb60.tr0 c62
   refine Wp rfl <| st_field (v := .int _ _) T.fone51_0 rfl rfl <| Wp rfl <| st_neq rfl rfl <| en <| x_cond rfl (fun h2 => ?_) (fun h2 => ?_)
   ·try simp only [nm, ne_eq] at h2
    have hk2 : (hd RL).kind ≠ 0 := by first | assumption | simp_all
    refine x_region rfl <| mP rfl <| w_plain rfl (st_callP (ags := [_, _]) rfl rfl T.ent17 rfl (gfail_spec 101 hgY hR) ?_ ?_)
    ·rintro _ w63 ⟨rfl, c64⟩
     replace HC := HC.then c64
     replace hb17 := hb17.tr0 c64
     replace hb20 := hb20.tr0 c64
     replace htl := Nat.lt_of_lt_of_le htl c64.size
     replace szM := Nat.le_trans szM c64.size
     replace hb60 := hb60.tr0 c64
     refine then_p <| d_panic (xs := #[.pointer (some ⟨b2, 0, none⟩), .pointer (some ⟨b3, 0, none⟩), .pointer (some ⟨b4, 0, none⟩)]) T.ent13 (by simp) <| CallsDIn.mono (gP1_pan _ hb60 hb17 hb20 ne_b2_b3 ne_b2_b4 ne_b3_b4) ?_
     rintro _ _ w65 ⟨⟨v9, rfl, hq2, hq3_, hq4, c66⟩, rfl⟩
     refine ⟨⟨v9, rfl⟩, rfl, ?_⟩
     replace HC := HC.trans c66 (by intro x hx; simp only [List.mem_cons, List.mem_nil_iff, or_false] at hx; rcases hx with h1 | h1 | h1 <;> first | (left; simp [h1]; done) | (right; rw [h1]; omega))
     refine ret_many (vs := [.agg ⟨[_, _, _, _, _, _, _, _, _]⟩, .int _ _, .int _ _]) rfl ⟨⟨_, _, rfl, run_loadVarA T.agg30 (hq2.cells (n := 9) rfl) rfl⟩, ⟨⟨_, _, rfl, run_loadVar1 T.one3 (hq3_.cell rfl)⟩, ⟨⟨_, _, rfl, run_loadVar1 T.one31 (hq4.cell rfl)⟩, trivial⟩⟩⟩ (Nat.le_of_ble_eq_true rfl) ?_
     have hv9 := gramV_er hte (gramG_end hk0 heM hk2)
     have hpl : PlR s := fun _ _ => ⟨hd RL, (hsM.trans hsL).suf.subset (hd_mem hsM.good), by rw [hv9]⟩
     refine ⟨?_, hpl⟩
     rw [hv9]
     exact ⟨_, rfl, zero_R, HC⟩
    exact fun _ _ h9 => h9.elim
   ·try simp only [nm, ne_eq] at h2
    have hk2 : (hd RL).kind = 0 := by first | assumption | simp_all
    refine x_skip <| then_n <| sr rfl <| Wp rfl <| st_loadA (vs := [_, _, _, _, _, _, _, _, _]) T.agg30 rfl (hb60.cells (n := 9) (vs := [_, _, _, _, _, _, _, _, _]) rfl) rfl <| Wp rfl <| st_st (v := .agg ⟨[_, _, _, _, _, _, _, _, _]⟩) T.size30 rfl rfl rfl hb60 ?_
    intro w67 c68 hb69; simp only [setVs, setV] at hb69
    clear hb60
    replace HC := HC.then1 c68 ge_b2
    replace hb17 := hb17.tr1 c68 (Ne.symm ne_b2_b3)
    replace hb20 := hb20.tr1 c68 (Ne.symm ne_b2_b4)
    replace htl := Nat.lt_of_lt_of_le htl c68.size
    replace hvM := Enc.chg hvM c68 q3
    replace szM := Nat.le_trans szM c68.size
    refine Wp rfl <| st_st (v := .int _ _) T.size3 rfl rfl rfl hb17 ?_
    intro w70 c71 hb72; simp only [setVs, setV] at hb72
    clear hb17
    replace HC := HC.then1 c71 ge_b3
    replace hb20 := hb20.tr1 c71 (Ne.symm ne_b3_b4)
    replace htl := Nat.lt_of_lt_of_le htl c71.size
    replace hvM := Enc.chg hvM c71 q3
    replace szM := Nat.le_trans szM c71.size
    replace hb69 := hb69.tr1 c71 ne_b2_b3
    refine Wp rfl <| st_st (v := .int _ _) T.size31 rfl rfl rfl hb20 ?_
    intro w73 c74 hb75; simp only [setVs, setV] at hb75
    clear hb20
    replace HC := HC.then1 c74 ge_b4
    replace htl := Nat.lt_of_lt_of_le htl c74.size
    replace hvM := Enc.chg hvM c74 q3
    replace szM := Nat.le_trans szM c74.size
    replace hb69 := hb69.tr1 c74 ne_b2_b4
    replace hb72 := hb72.tr1 c74 ne_b3_b4
    refine en <| x_ret <| d_ret (xs := #[.pointer (some ⟨b2, 0, none⟩), .pointer (some ⟨b3, 0, none⟩), .pointer (some ⟨b4, 0, none⟩)]) T.ent13 (by simp) <| CallsDIn.mono (gP1_ret _) ?_
    rintro _ _ w76 ⟨⟨v9, rfl, c77⟩, rfl⟩
    refine ⟨⟨v9, rfl⟩, rfl, ?_⟩
    replace HC := HC.then c77
    replace htl := Nat.lt_of_lt_of_le htl c77.size
    replace hvM := Enc.chg hvM c77 q8
    replace szM := Nat.le_trans szM c77.size
    replace hb69 := hb69.tr0 c77
    replace hb72 := hb72.tr0 c77
    replace hb75 := hb75.tr0 c77
    refine ret_many (vs := [.agg ⟨[_, _, _, _, _, _, _, _, _]⟩, .int _ _, .int _ _]) rfl ⟨⟨_, _, rfl, run_loadVarA T.agg30 (hb69.cells (n := 9) rfl) rfl⟩, ⟨⟨_, _, rfl, run_loadVar1 T.one3 (hb72.cell rfl)⟩, ⟨⟨_, _, rfl, run_loadVar1 T.one31 (hb75.cell rfl)⟩, trivial⟩⟩⟩ (Nat.le_of_ble_eq_true rfl) ?_
    have hv9 := gramV_ok hte (gramG_ok hk0 heM hk2)
    have hpl : PlR s := fun _ h => absurd (by rw [hv9]) h
    refine ⟨?_, hpl⟩
    rw [hv9]
    exact ⟨_, rfl, cmE.mono hvM (fun k _ h => by have := h.1; show _ ≤ k; omega), HC⟩
  ·try simp only [nm, ne_eq] at h1
   have hk0 : (hd (linesG (tokensV s).1)).kind = 0 := by first | assumption | simp_all
   refine x_skip <| then_n <| x_seq <| x_seq ?_
   have hgY := hgL
   refine x_region rfl <| mP rfl <| Wp rfl <| st_call (ags := [_]) rfl rfl T.ent15 rfl (gtok_spec (Z := (linesG (tokensV s).1)) hgY hR) ?_
   rintro _ w78 ⟨rfl, c79⟩
   replace HC := HC.then c79
   replace hb4 := hb4.tr0 c79
   replace hb17 := hb17.tr0 c79
   replace hb20 := hb20.tr0 c79
   replace htl := Nat.lt_of_lt_of_le htl c79.size
   refine Wp rfl <| st_field (v := .int _ _) T.fone51_0 rfl rfl <| Wp rfl <| st_neq rfl rfl <| en <| x_cond rfl (fun h2 => ?_) (fun h2 => ?_)
   ·try simp only [nm, ne_eq] at h2
    exact absurd hk0 h2
   ·try simp only [nm, ne_eq] at h2
    refine x_skip <| then_n <| sr rfl <| Wp rfl <| st_loadA (vs := [_, _, _, _, _, _, _, _, _]) T.agg30 rfl (hb4.cells (n := 9) (vs := [_, _, _, _, _, _, _, _, _]) rfl) rfl <| Wp rfl <| st_st (v := .agg ⟨[_, _, _, _, _, _, _, _, _]⟩) T.size30 rfl rfl rfl hb4 ?_
    intro w80 c81 hb82; simp only [setVs, setV] at hb82
    clear hb4
    replace HC := HC.then1 c81 ge_b2
    replace hb17 := hb17.tr1 c81 (Ne.symm ne_b2_b3)
    replace hb20 := hb20.tr1 c81 (Ne.symm ne_b2_b4)
    replace htl := Nat.lt_of_lt_of_le htl c81.size
    refine Wp rfl <| st_st (v := .int _ _) T.size3 rfl rfl rfl hb17 ?_
    intro w83 c84 hb85; simp only [setVs, setV] at hb85
    clear hb17
    replace HC := HC.then1 c84 ge_b3
    replace hb20 := hb20.tr1 c84 (Ne.symm ne_b3_b4)
    replace htl := Nat.lt_of_lt_of_le htl c84.size
    replace hb82 := hb82.tr1 c84 ne_b2_b3
    refine Wp rfl <| st_st (v := .int _ _) T.size31 rfl rfl rfl hb20 ?_
    intro w86 c87 hb88; simp only [setVs, setV] at hb88
    clear hb20
    replace HC := HC.then1 c87 ge_b4
    replace htl := Nat.lt_of_lt_of_le htl c87.size
    replace hb82 := hb82.tr1 c87 ne_b2_b4
    replace hb85 := hb85.tr1 c87 ne_b3_b4
    refine en <| x_ret <| d_ret (xs := #[.pointer (some ⟨b2, 0, none⟩), .pointer (some ⟨b3, 0, none⟩), .pointer (some ⟨b4, 0, none⟩)]) T.ent13 (by simp) <| CallsDIn.mono (gP1_ret _) ?_
    rintro _ _ w89 ⟨⟨v9, rfl, c90⟩, rfl⟩
    refine ⟨⟨v9, rfl⟩, rfl, ?_⟩
    replace HC := HC.then c90
    replace htl := Nat.lt_of_lt_of_le htl c90.size
    replace hb82 := hb82.tr0 c90
    replace hb85 := hb85.tr0 c90
    replace hb88 := hb88.tr0 c90
    refine ret_many (vs := [.agg ⟨[_, _, _, _, _, _, _, _, _]⟩, .int _ _, .int _ _]) rfl ⟨⟨_, _, rfl, run_loadVarA T.agg30 (hb82.cells (n := 9) rfl) rfl⟩, ⟨⟨_, _, rfl, run_loadVar1 T.one3 (hb85.cell rfl)⟩, ⟨⟨_, _, rfl, run_loadVar1 T.one31 (hb88.cell rfl)⟩, trivial⟩⟩⟩ (Nat.le_of_ble_eq_true rfl) ?_
    have hv9 := gramV_ok hte (gramG_zero hk0)
    have hpl : PlR s := fun _ h => absurd (by rw [hv9]) h
    refine ⟨?_, hpl⟩
    rw [hv9]
    exact ⟨_, rfl, zero_R, HC⟩

end Go.Proofs.YtghjmiggobpmoaaGreatDoor.K
set_option linter.unusedVariables false
set_option linter.unusedSimpArgs false
set_option autoImplicit false
set_option maxRecDepth 20000
namespace Go.Proofs.YtghjmiggobpmoaaGreatDoor.K
open Go Go.Proofs Go.RowKit

theorem take_same {α : Type} {a b : List α} {i : Nat} {x y : α} (h : a.take i = b.take i) (hx : a[i]? = some x) (hy : b[i]? = some y) (he : x = y) : a.take (i + 1) = b.take (i + 1) := by
  rw [List.take_add_one, List.take_add_one, h, hx, hy, he]
def EqT {α : Type} (a b : α) (w w' : World) (v : Value) : Prop := ∃ r : Bool, v = .bool r ∧ (r = true ↔ a = b) ∧ Chg [] w w'
theorem eq_no {α : Type} {a b : α} (h : a ≠ b) : (false = true ↔ a = b) := ⟨(fun h => by cases h), fun e => absurd e h⟩
theorem eq_yes {α : Type} {a b : α} (h : a = b) : (true = true ↔ a = b) := ⟨fun _ => h, fun _ => rfl⟩
theorem get_ne {α : Type} {a b : List α} {i : Nat} {x y : α} (hx : a[i]? = some x) (hy : b[i]? = some y) (h : x ≠ y) : a ≠ b := fun e => by subst e; exact h (Option.some.inj (hx.symm.trans hy))
theorem Cm.ext {a b : Cm} : a = b ↔ a.kind = b.kind ∧ a.name = b.name ∧ a.bang = b.bang ∧ a.inn = b.inn ∧ a.asg = b.asg ∧ a.words = b.words ∧ a.rds = b.rds ∧ a.kids = b.kids ∧ a.items = b.items := by
  cases a; cases b; simp only [Cm.mk.injEq, kind, name, bang, inn, asg, words, rds, kids, items]
theorem kid_size {a k : Cm} (h : k ∈ a.kids) : SizeOf.sizeOf k < SizeOf.sizeOf a := by
  cases a with
  | mk q1 q2 q3 q4 q5 q6 q7 kids items =>
    have h1 := List.sizeOf_lt_of_mem (show k ∈ kids from h)
    simp only [Cm.mk.sizeOf_spec]; omega
theorem item_size {a k : Cm} {y : List Bytes × List Cm} (hy : y ∈ a.items) (h : k ∈ y.2) : SizeOf.sizeOf k < SizeOf.sizeOf a := by
  cases a with
  | mk q1 q2 q3 q4 q5 q6 q7 kids items =>
    have h1 := List.sizeOf_lt_of_mem (show y ∈ items from hy)
    have h2 := List.sizeOf_lt_of_mem h
    obtain ⟨p, l⟩ := y
    simp only [Cm.mk.sizeOf_spec, Prod.mk.sizeOf_spec] at *; omega

theorem eqPair_spec {a b : List (Bytes × Bytes)} {Aa Ab : Option Addr} {capa capb : Nat} {D D2 : Nat → Prop} {w : World} (ha : Sl pairE2 w D Aa a) (hb : Sl pairE2 w D2 Ab b) (hla : a.length ≤ 9223372036854775807) : CallR Tryz.prog 20 #[.slice Aa a.length capa, .slice Ab b.length capb] w fun v w' => EqT a b w w' v := by
 refine callR_of_wp (args := [_, _]) Tryz.func20 rfl (Nat.le_of_ble_eq_true rfl) ?_
 have HC : Chg [] w w := .refl _
 refine sr rfl <| aB rfl <| en <| x_seq <| sr rfl <| mL rfl <| Wp rfl <| st_len (ct := #[25]) (by rw [show ((#[25] : Array TypeId)[0]?).bind Tryz.prog.underlying = some (.slice 56) from T.u25]; rfl) rfl <| mL rfl <| Wp rfl <| st_len (ct := #[25]) (by rw [show ((#[25] : Array TypeId)[0]?).bind Tryz.prog.underlying = some (.slice 56) from T.u25]; rfl) rfl <| Wp rfl <| st_neq rfl rfl <| en <| x_cond rfl (fun h0 => ?_) (fun h0 => ?_)
 ·try simp only [nm, ne_eq] at h0
  refine sr rfl <| aB rfl <| en <| x_ret <| then_r <| ret_tmp (v := .bool _) rfl rfl ?_
  exact ⟨_, rfl, eq_no (fun e => h0 (by rw [e])), HC⟩
 ·try simp only [nm, ne_eq] at h0
  have hll : a.length = b.length := by omega
  refine x_skip <| then_n <| x_seq <| sr rfl <| mL rfl <| Wp rfl <| st_len (ct := #[25]) (by rw [show ((#[25] : Array TypeId)[0]?).bind Tryz.prog.underlying = some (.slice 56) from T.u25]; rfl) rfl <| mI rfl <| en <| x_block <| x_loop (ι := Nat) [4, 5, 13, 14, 15, 16, 17, 18, 19, 20, 21, 22, 23, 24, 25] (fun i => [(13, .int .i64 (i : Int))]) (fun i W => (i ≤ a.length ∧ a.take i = b.take i) ∧ (Chg [] w W) ∧ (Sl pairE2 W D Aa a) ∧ (Sl pairE2 W D2 Ab b)) (fun i => a.length - i) 0 ?_ ?_ ?_
  · exact ⟨rfl, trivial⟩
  ·refine ⟨?_, HC, ha, hb⟩
   exact ⟨Nat.zero_le _, rfl⟩
  intro i G2 w1 ⟨⟨hi, ht⟩, HC, ha, hb⟩
  change wp _ _ _ _ _ (upds (over _ _ G2) [(13, .int .i64 (i : Int))]) _ _
  refine sr rfl <| Wp rfl <| st_lss rfl rfl <| en <| x_seq <| x_cond rfl (fun h1 => ?_) (fun h1 => ?_)
  ·try simp only [nm, ne_eq] at h1
   refine x_skip <| then_n <| x_seq <| x_block <| sr rfl <| mI rfl <| aI rfl <| en <| x_seq ?_
   obtain ⟨x3, hx4⟩ : ∃ zz, a[i]? = some zz := ⟨_, List.getElem?_eq_getElem (by omega)⟩
   obtain ⟨lb9, _, vs8, hA5, hR7, hC6⟩ := ha.at hx4
   obtain rfl : vs8 = [S x3.1, S x3.2] := hR7
   obtain ⟨x10, hx11⟩ : ∃ zz, b[i]? = some zz := ⟨_, List.getElem?_eq_getElem (by omega)⟩
   obtain ⟨lb16, _, vs15, hA12, hR14, hC13⟩ := hb.at hx11
   obtain rfl : vs15 = [S x10.1, S x10.2] := hR14
   refine x_draw [(0, 0), (1, 0), (2, 0), (3, 0), (4, 0), (5, 0), (6, 0), (7, 0), (8, 0)] T.mixed rfl rfl rfl (fun W => W.heap[lb9]? = w1.heap[lb9]? ∧ W.heap[lb16]? = w1.heap[lb16]? ∧ True) ⟨rfl, rfl, trivial⟩ ?_
   have c18 := Chg.drew w1
   generalize World.drew w1 = w17 at c18 ⊢
   have ht_lb9 : lb9 < w17.heap.size ∧ w17.heap[lb9]? = w1.heap[lb9]? := ⟨Nat.lt_of_lt_of_le hC6.lt c18.size, c18.block lb9 hC6.lt (by simp)⟩
   have ht_lb16 : lb16 < w17.heap.size ∧ w17.heap[lb16]? = w1.heap[lb16]? := ⟨Nat.lt_of_lt_of_le hC13.lt c18.size, c18.block lb16 hC13.lt (by simp)⟩
   replace HC := HC.then c18
   replace ha := ha.tr0 c18
   replace hb := hb.tr0 c18
   refine sq_q rfl (fun W hT => r_move (v := .slice _ _ _) rfl) <| sq_q rfl (fun W hT => r_move (v := .int _ _) rfl) <| sq_q rfl (fun W hT => r_indexAddr T.u25 T.size56 (congrArg (fun z => Value.slice z _ _) hA5) rfl (by omega) (by omega)) <| sq_q rfl (fun W hT => r_loadA (vs := [_, _]) T.agg56 rfl (Cells.tr hC6 hT.1) rfl) <| sq_q rfl (fun W hT => r_move (v := .slice _ _ _) rfl) <| sq_q rfl (fun W hT => r_move (v := .int _ _) rfl) <| sq_q rfl (fun W hT => r_indexAddr T.u25 T.size56 (congrArg (fun z => Value.slice z _ _) hA12) rfl (by omega) (by omega)) <| sq_q rfl (fun W hT => r_loadA (vs := [_, _]) T.agg56 rfl (Cells.tr hC13 hT.2.1) rfl) <| sq_q rfl (fun W hT => r_aneq (va := [_, _]) (vb := [_, _]) T.eq56 rfl rfl rfl) <| sq_nil <| then_n <| x_cond rfl (fun h2 => ?_) (fun h2 => ?_)
   ·try simp only [nm, ne_eq] at h2
    have hxn : x3 ≠ x10 := by intro e; rw [e] at h2; simp at h2
    refine sr rfl <| aB rfl <| en <| x_ret <| block_r <| then_r <| then_r <| block_r <| then_r <| ret_tmp (v := .bool _) rfl rfl ?_
    exact ⟨_, rfl, eq_no (get_ne hx4 hx11 hxn), HC⟩
   ·try simp only [nm, ne_eq] at h2
    have hxy : x3 = x10 := by cases x3; cases x10; simp_all
    refine x_skip <| block_n <| then_n <| x_region rfl <| Wp rfl <| st_addn rfl rfl (by constructor <;> omega) <| mI rfl <| en <| ⟨i + 1, ?_, ?_, rfl, ⟨rfl, trivial⟩, ?_⟩
    ·refine ⟨?_, HC, ha, hb⟩
     exact ⟨by omega, take_same ht hx4 hx11 hxy⟩
    ·show a.length - (i + 1) < a.length - i; omega
    exact q9
  ·try simp only [nm, ne_eq] at h1
   refine x_exit <| then_x <| then_x <| block_x <| then_n <| sr rfl <| aB rfl <| en <| x_ret <| ret_tmp (v := .bool _) rfl rfl ?_
   exact ⟨_, rfl, eq_yes (by rw [List.take_of_length_le (by omega), List.take_of_length_le (by omega)] at ht; exact ht), HC⟩

theorem eqStr_spec {a b : List Bytes} {Aa Ab : Option Addr} {capa capb : Nat} {D D2 : Nat → Prop} {w : World} (ha : Sl sE w D Aa a) (hb : Sl sE w D2 Ab b) (hla : a.length ≤ 9223372036854775807) : CallR Tryz.prog 21 #[.slice Aa a.length capa, .slice Ab b.length capb] w fun v w' => EqT a b w w' v := by
 refine callR_of_wp (args := [_, _]) Tryz.func21 rfl (Nat.le_of_ble_eq_true rfl) ?_
 have HC : Chg [] w w := .refl _
 refine sr rfl <| aB rfl <| en <| x_seq <| sr rfl <| mL rfl <| Wp rfl <| st_len (ct := #[23]) (by rw [show ((#[23] : Array TypeId)[0]?).bind Tryz.prog.underlying = some (.slice 9) from T.u23]; rfl) rfl <| mL rfl <| Wp rfl <| st_len (ct := #[23]) (by rw [show ((#[23] : Array TypeId)[0]?).bind Tryz.prog.underlying = some (.slice 9) from T.u23]; rfl) rfl <| Wp rfl <| st_neq rfl rfl <| en <| x_cond rfl (fun h0 => ?_) (fun h0 => ?_)
 ·try simp only [nm, ne_eq] at h0
  refine sr rfl <| aB rfl <| en <| x_ret <| then_r <| ret_tmp (v := .bool _) rfl rfl ?_
  exact ⟨_, rfl, eq_no (fun e => h0 (by rw [e])), HC⟩
 ·try simp only [nm, ne_eq] at h0
  have hll : a.length = b.length := by omega
  refine x_skip <| then_n <| x_seq <| sr rfl <| mL rfl <| Wp rfl <| st_len (ct := #[23]) (by rw [show ((#[23] : Array TypeId)[0]?).bind Tryz.prog.underlying = some (.slice 9) from T.u23]; rfl) rfl <| mI rfl <| en <| x_block <| x_loop (ι := Nat) [4, 5, 13, 14, 15, 16, 17, 18, 19, 20, 21, 22, 23, 24, 25] (fun i => [(13, .int .i64 (i : Int))]) (fun i W => (i ≤ a.length ∧ a.take i = b.take i) ∧ (Chg [] w W) ∧ (Sl sE W D Aa a) ∧ (Sl sE W D2 Ab b)) (fun i => a.length - i) 0 ?_ ?_ ?_
  · exact ⟨rfl, trivial⟩
  ·refine ⟨?_, HC, ha, hb⟩
   exact ⟨Nat.zero_le _, rfl⟩
  intro i G2 w1 ⟨⟨hi, ht⟩, HC, ha, hb⟩
  change wp _ _ _ _ _ (upds (over _ _ G2) [(13, .int .i64 (i : Int))]) _ _
  refine sr rfl <| Wp rfl <| st_lss rfl rfl <| en <| x_seq <| x_cond rfl (fun h1 => ?_) (fun h1 => ?_)
  ·try simp only [nm, ne_eq] at h1
   refine x_skip <| then_n <| x_seq <| x_block <| sr rfl <| mI rfl <| aI rfl <| en <| x_seq ?_
   obtain ⟨x3, hx4⟩ : ∃ zz, a[i]? = some zz := ⟨_, List.getElem?_eq_getElem (by omega)⟩
   obtain ⟨lb9, _, vs8, hA5, hR7, hC6⟩ := ha.at hx4
   obtain rfl : vs8 = [S x3] := hR7
   obtain ⟨x10, hx11⟩ : ∃ zz, b[i]? = some zz := ⟨_, List.getElem?_eq_getElem (by omega)⟩
   obtain ⟨lb16, _, vs15, hA12, hR14, hC13⟩ := hb.at hx11
   obtain rfl : vs15 = [S x10] := hR14
   refine x_draw [(0, 0), (1, 0), (2, 0), (3, 0), (4, 0), (5, 0), (6, 0), (7, 0), (8, 0)] T.mixed rfl rfl rfl (fun W => W.heap[lb9]? = w1.heap[lb9]? ∧ W.heap[lb16]? = w1.heap[lb16]? ∧ True) ⟨rfl, rfl, trivial⟩ ?_
   have c18 := Chg.drew w1
   generalize World.drew w1 = w17 at c18 ⊢
   have ht_lb9 : lb9 < w17.heap.size ∧ w17.heap[lb9]? = w1.heap[lb9]? := ⟨Nat.lt_of_lt_of_le hC6.lt c18.size, c18.block lb9 hC6.lt (by simp)⟩
   have ht_lb16 : lb16 < w17.heap.size ∧ w17.heap[lb16]? = w1.heap[lb16]? := ⟨Nat.lt_of_lt_of_le hC13.lt c18.size, c18.block lb16 hC13.lt (by simp)⟩
   replace HC := HC.then c18
   replace ha := ha.tr0 c18
   replace hb := hb.tr0 c18
   refine sq_q rfl (fun W hT => r_move (v := .slice _ _ _) rfl) <| sq_q rfl (fun W hT => r_move (v := .int _ _) rfl) <| sq_q rfl (fun W hT => r_indexAddr T.u23 T.size9 (congrArg (fun z => Value.slice z _ _) hA5) rfl (by omega) (by omega)) <| sq_q rfl (fun W hT => r_load1 (v := S _) T.one9 rfl (Cells.at (j := 0) (Cells.tr hC6 hT.1) rfl)) <| sq_q rfl (fun W hT => r_move (v := .slice _ _ _) rfl) <| sq_q rfl (fun W hT => r_move (v := .int _ _) rfl) <| sq_q rfl (fun W hT => r_indexAddr T.u23 T.size9 (congrArg (fun z => Value.slice z _ _) hA12) rfl (by omega) (by omega)) <| sq_q rfl (fun W hT => r_load1 (v := S _) T.one9 rfl (Cells.at (j := 0) (Cells.tr hC13 hT.2.1) rfl)) <| sq_q rfl (fun W hT => r_sneq rfl rfl) <| sq_nil <| then_n <| x_cond rfl (fun h2 => ?_) (fun h2 => ?_)
   ·try simp only [nm, ne_eq] at h2
    have hxn : x3 ≠ x10 := by intro e; rw [e] at h2; simp at h2
    refine sr rfl <| aB rfl <| en <| x_ret <| block_r <| then_r <| then_r <| block_r <| then_r <| ret_tmp (v := .bool _) rfl rfl ?_
    exact ⟨_, rfl, eq_no (get_ne hx4 hx11 hxn), HC⟩
   ·try simp only [nm, ne_eq] at h2
    have hxy : x3 = x10 := by simp_all
    refine x_skip <| block_n <| then_n <| x_region rfl <| Wp rfl <| st_addn rfl rfl (by constructor <;> omega) <| mI rfl <| en <| ⟨i + 1, ?_, ?_, rfl, ⟨rfl, trivial⟩, ?_⟩
    ·refine ⟨?_, HC, ha, hb⟩
     exact ⟨by omega, take_same ht hx4 hx11 hxy⟩
    ·show a.length - (i + 1) < a.length - i; omega
    exact q9
  ·try simp only [nm, ne_eq] at h1
   refine x_exit <| then_x <| then_x <| block_x <| then_n <| sr rfl <| aB rfl <| en <| x_ret <| ret_tmp (v := .bool _) rfl rfl ?_
   exact ⟨_, rfl, eq_yes (by rw [List.take_of_length_le (by omega), List.take_of_length_le (by omega)] at ht; exact ht), HC⟩

theorem eqRdr_spec {a b : List Rdr} {Aa Ab : Option Addr} {capa capb : Nat} {D D2 : Nat → Prop} {w : World} (ha : Sl rdrE w D Aa a) (hb : Sl rdrE w D2 Ab b) (hla : a.length ≤ 9223372036854775807) : CallR Tryz.prog 22 #[.slice Aa a.length capa, .slice Ab b.length capb] w fun v w' => EqT a b w w' v := by
 refine callR_of_wp (args := [_, _]) Tryz.func22 rfl (Nat.le_of_ble_eq_true rfl) ?_
 have HC : Chg [] w w := .refl _
 refine sr rfl <| aB rfl <| en <| x_seq <| sr rfl <| mL rfl <| Wp rfl <| st_len (ct := #[26]) (by rw [show ((#[26] : Array TypeId)[0]?).bind Tryz.prog.underlying = some (.slice 40) from T.u26]; rfl) rfl <| mL rfl <| Wp rfl <| st_len (ct := #[26]) (by rw [show ((#[26] : Array TypeId)[0]?).bind Tryz.prog.underlying = some (.slice 40) from T.u26]; rfl) rfl <| Wp rfl <| st_neq rfl rfl <| en <| x_cond rfl (fun h0 => ?_) (fun h0 => ?_)
 ·try simp only [nm, ne_eq] at h0
  refine sr rfl <| aB rfl <| en <| x_ret <| then_r <| ret_tmp (v := .bool _) rfl rfl ?_
  exact ⟨_, rfl, eq_no (fun e => h0 (by rw [e])), HC⟩
 ·try simp only [nm, ne_eq] at h0
  have hll : a.length = b.length := by omega
  refine x_skip <| then_n <| x_seq <| sr rfl <| mL rfl <| Wp rfl <| st_len (ct := #[26]) (by rw [show ((#[26] : Array TypeId)[0]?).bind Tryz.prog.underlying = some (.slice 40) from T.u26]; rfl) rfl <| mI rfl <| en <| x_block <| x_loop (ι := Nat) [4, 5, 13, 14, 15, 16, 17, 18, 19, 20, 21, 22, 23, 24, 25] (fun i => [(13, .int .i64 (i : Int))]) (fun i W => (i ≤ a.length ∧ a.take i = b.take i) ∧ (Chg [] w W) ∧ (Sl rdrE W D Aa a) ∧ (Sl rdrE W D2 Ab b)) (fun i => a.length - i) 0 ?_ ?_ ?_
  · exact ⟨rfl, trivial⟩
  ·refine ⟨?_, HC, ha, hb⟩
   exact ⟨Nat.zero_le _, rfl⟩
  intro i G2 w1 ⟨⟨hi, ht⟩, HC, ha, hb⟩
  change wp _ _ _ _ _ (upds (over _ _ G2) [(13, .int .i64 (i : Int))]) _ _
  refine sr rfl <| Wp rfl <| st_lss rfl rfl <| en <| x_seq <| x_cond rfl (fun h1 => ?_) (fun h1 => ?_)
  ·try simp only [nm, ne_eq] at h1
   refine x_skip <| then_n <| x_seq <| x_block <| sr rfl <| mI rfl <| aI rfl <| en <| x_seq ?_
   obtain ⟨x3, hx4⟩ : ∃ zz, a[i]? = some zz := ⟨_, List.getElem?_eq_getElem (by omega)⟩
   obtain ⟨lb9, _, vs8, hA5, hR7, hC6⟩ := ha.at hx4
   obtain rfl : vs8 = [.int .i64 x3.fd, S x3.op, S x3.word, S x3.here, .bool x3.raw] := hR7
   obtain ⟨x10, hx11⟩ : ∃ zz, b[i]? = some zz := ⟨_, List.getElem?_eq_getElem (by omega)⟩
   obtain ⟨lb16, _, vs15, hA12, hR14, hC13⟩ := hb.at hx11
   obtain rfl : vs15 = [.int .i64 x10.fd, S x10.op, S x10.word, S x10.here, .bool x10.raw] := hR14
   refine x_draw [(0, 0), (1, 0), (2, 0), (3, 0), (4, 0), (5, 0), (6, 0), (7, 0), (8, 0)] T.mixed rfl rfl rfl (fun W => W.heap[lb9]? = w1.heap[lb9]? ∧ W.heap[lb16]? = w1.heap[lb16]? ∧ True) ⟨rfl, rfl, trivial⟩ ?_
   have c18 := Chg.drew w1
   generalize World.drew w1 = w17 at c18 ⊢
   have ht_lb9 : lb9 < w17.heap.size ∧ w17.heap[lb9]? = w1.heap[lb9]? := ⟨Nat.lt_of_lt_of_le hC6.lt c18.size, c18.block lb9 hC6.lt (by simp)⟩
   have ht_lb16 : lb16 < w17.heap.size ∧ w17.heap[lb16]? = w1.heap[lb16]? := ⟨Nat.lt_of_lt_of_le hC13.lt c18.size, c18.block lb16 hC13.lt (by simp)⟩
   replace HC := HC.then c18
   replace ha := ha.tr0 c18
   replace hb := hb.tr0 c18
   refine sq_q rfl (fun W hT => r_move (v := .slice _ _ _) rfl) <| sq_q rfl (fun W hT => r_move (v := .int _ _) rfl) <| sq_q rfl (fun W hT => r_indexAddr T.u26 T.size40 (congrArg (fun z => Value.slice z _ _) hA5) rfl (by omega) (by omega)) <| sq_q rfl (fun W hT => r_loadA (vs := [_, _, _, _, _]) T.agg40 rfl (Cells.tr hC6 hT.1) rfl) <| sq_q rfl (fun W hT => r_move (v := .slice _ _ _) rfl) <| sq_q rfl (fun W hT => r_move (v := .int _ _) rfl) <| sq_q rfl (fun W hT => r_indexAddr T.u26 T.size40 (congrArg (fun z => Value.slice z _ _) hA12) rfl (by omega) (by omega)) <| sq_q rfl (fun W hT => r_loadA (vs := [_, _, _, _, _]) T.agg40 rfl (Cells.tr hC13 hT.2.1) rfl) <| sq_q rfl (fun W hT => r_aneq (va := [_, _, _, _, _]) (vb := [_, _, _, _, _]) T.eq40 rfl rfl rfl) <| sq_nil <| then_n <| x_cond rfl (fun h2 => ?_) (fun h2 => ?_)
   ·try simp only [nm, ne_eq] at h2
    have hxn : x3 ≠ x10 := by intro e; rw [e] at h2; simp at h2
    refine sr rfl <| aB rfl <| en <| x_ret <| block_r <| then_r <| then_r <| block_r <| then_r <| ret_tmp (v := .bool _) rfl rfl ?_
    exact ⟨_, rfl, eq_no (get_ne hx4 hx11 hxn), HC⟩
   ·try simp only [nm, ne_eq] at h2
    have hxy : x3 = x10 := by cases x3; cases x10; simp_all
    refine x_skip <| block_n <| then_n <| x_region rfl <| Wp rfl <| st_addn rfl rfl (by constructor <;> omega) <| mI rfl <| en <| ⟨i + 1, ?_, ?_, rfl, ⟨rfl, trivial⟩, ?_⟩
    ·refine ⟨?_, HC, ha, hb⟩
     exact ⟨by omega, take_same ht hx4 hx11 hxy⟩
    ·show a.length - (i + 1) < a.length - i; omega
    exact q9
  ·try simp only [nm, ne_eq] at h1
   refine x_exit <| then_x <| then_x <| block_x <| then_n <| sr rfl <| aB rfl <| en <| x_ret <| ret_tmp (v := .bool _) rfl rfl ?_
   exact ⟨_, rfl, eq_yes (by rw [List.take_of_length_le (by omega), List.take_of_length_le (by omega)] at ht; exact ht), HC⟩

theorem eqfC_spec {k : FuncId} {caps : Array Value} {a b : List Cm} {Aa Ab : Option Addr} {capa capb : Nat} {D D2 : Nat → Prop} {w : World} (ha : Sl cmE w D Aa a) (hb : Sl cmE w D2 Ab b) (hla : a.length ≤ 9223372036854775807) (hent : ∀ args (w : World), (callFunc k args).run Tryz.prog w = .ok (.enter k args) w) (hp : ∀ x, x ∈ a → ∀ (y : Cm) (vx vy : List Value) (W : World) {D1 D2 : Nat → Prop}, cmE.R W D1 x vx → cmE.R W D2 y vy → CallR Tryz.prog k ⟨.agg ⟨vx⟩ :: .agg ⟨vy⟩ :: caps.toList⟩ W fun v w' => EqT x y W w' v) : CallR Tryz.prog 23 #[.slice Aa a.length capa, .slice Ab b.length capb, .func (.func k) #[] caps] w fun v w' => EqT a b w w' v := by
 refine callR_of_wp (args := [_, _, _]) Tryz.func23 rfl (Nat.le_of_ble_eq_true rfl) ?_
 have HC : Chg [] w w := .refl _
 replace ha := ha.mono (D' := (fun k => k < w.heap.size)) (fun k hk _ => hk)
 replace hb := hb.mono (D' := (fun k => k < w.heap.size)) (fun k hk _ => hk)
 refine sr rfl <| aB rfl <| en <| x_seq <| sr rfl <| mL rfl <| Wp rfl <| st_len (ct := #[27]) (by rw [show ((#[27] : Array TypeId)[0]?).bind Tryz.prog.underlying = some (.slice 30) from T.u27]; rfl) rfl <| mL rfl <| Wp rfl <| st_len (ct := #[27]) (by rw [show ((#[27] : Array TypeId)[0]?).bind Tryz.prog.underlying = some (.slice 30) from T.u27]; rfl) rfl <| Wp rfl <| st_neq rfl rfl <| en <| x_cond rfl (fun h0 => ?_) (fun h0 => ?_)
 ·try simp only [nm, ne_eq] at h0
  refine sr rfl <| aB rfl <| en <| x_ret <| then_r <| ret_tmp (v := .bool _) rfl rfl ?_
  exact ⟨_, rfl, eq_no (fun e => h0 (by rw [e])), HC⟩
 ·try simp only [nm, ne_eq] at h0
  have hll : a.length = b.length := by omega
  refine x_skip <| then_n <| x_seq <| sr rfl <| mL rfl <| Wp rfl <| st_len (ct := #[27]) (by rw [show ((#[27] : Array TypeId)[0]?).bind Tryz.prog.underlying = some (.slice 30) from T.u27]; rfl) rfl <| mI rfl <| en <| x_block <| x_loop (ι := Nat) [6, 7, 8, 9, 17, 18, 19, 20, 21, 22, 23, 24, 25, 26, 27, 28, 29, 30, 31] (fun i => [(17, .int .i64 (i : Int))]) (fun i W => (i ≤ a.length ∧ a.take i = b.take i) ∧ (Chg [] w W) ∧ (Sl cmE W (fun k => k < w.heap.size) Aa a) ∧ (Sl cmE W (fun k => k < w.heap.size) Ab b)) (fun i => a.length - i) 0 ?_ ?_ ?_
  · exact ⟨rfl, trivial⟩
  ·refine ⟨?_, HC, ha, hb⟩
   exact ⟨Nat.zero_le _, rfl⟩
  intro i G2 w1 ⟨⟨hi, ht⟩, HC, ha, hb⟩
  change wp _ _ _ _ _ (upds (over _ _ G2) [(17, .int .i64 (i : Int))]) _ _
  refine sr rfl <| Wp rfl <| st_lss rfl rfl <| en <| x_seq <| x_cond rfl (fun h1 => ?_) (fun h1 => ?_)
  ·try simp only [nm, ne_eq] at h1
   refine x_skip <| then_n <| x_seq <| x_block <| sr rfl <| mI rfl ?_
   obtain ⟨x3, hx4⟩ : ∃ zz, a[i]? = some zz := ⟨_, List.getElem?_eq_getElem (by omega)⟩
   obtain ⟨lb9, _, vs8, hA5, hR7, hC6⟩ := ha.at hx4
   have hvU := hR7
   obtain ⟨A1U, n1U, A2U, n2U, A3U, n3U, A4U, n4U, A5U, n5U, rfl, hAU, k1U, k2U, k3U, k4U, k5U⟩ := cm_open hR7
   refine Wp rfl <| st_indexAddr T.u27 T.size30 (congrArg (fun z => Value.slice z _ _) hA5) rfl (by omega) (by omega) <| Wp rfl <| st_loadA (vs := [_, _, _, _, _, _, _, _, _]) T.agg30 rfl hC6 rfl <| Wp rfl <| st_alloc T.zero30 ?_
   intro b8 w10 e11 c12 hb13
   have ge_b8 := gB e11 HC.size
   replace HC := HC.then c12
   replace ha := ha.tr0 c12
   replace hb := hb.tr0 c12
   replace hvU := Enc.chg hvU c12 q8
   clear e11
   refine aI rfl <| Wp rfl <| st_st (v := .agg ⟨[_, _, _, _, _, _, _, _, _]⟩) T.size30 rfl rfl rfl hb13 ?_
   intro w14 c15 hb16; simp only [setVs, setV] at hb16
   clear hb13
   replace HC := HC.then1 c15 ge_b8
   replace ha := ha.tr c15 (by intro k hx hD; have hD : k < _ := hD; simp only [List.mem_cons, List.mem_nil_iff, or_false] at hx; omega)
   replace hb := hb.tr c15 (by intro k hx hD; have hD : k < _ := hD; simp only [List.mem_cons, List.mem_nil_iff, or_false] at hx; omega)
   replace hvU := Enc.chg hvU c15 (by intro k hx hD; have hD : k < _ := hD; simp only [List.mem_cons, List.mem_nil_iff, or_false] at hx; omega)
   refine en <| sr rfl <| mL rfl <| mI rfl ?_
   obtain ⟨x17, hx18⟩ : ∃ zz, b[i]? = some zz := ⟨_, List.getElem?_eq_getElem (by omega)⟩
   obtain ⟨lb23, _, vs22, hA19, hR21, hC20⟩ := hb.at hx18
   have hvV := hR21
   obtain ⟨A1V, n1V, A2V, n2V, A3V, n3V, A4V, n4V, A5V, n5V, rfl, hAV, k1V, k2V, k3V, k4V, k5V⟩ := cm_open hR21
   refine Wp rfl <| st_indexAddr T.u27 T.size30 (congrArg (fun z => Value.slice z _ _) hA19) rfl (by omega) (by omega) <| Wp rfl <| st_loadA (vs := [_, _, _, _, _, _, _, _, _]) T.agg30 rfl hC20 rfl <| Wp rfl <| st_alloc T.zero30 ?_
   intro b9 w24 e25 c26 hb27
   have ge_b9 := gB e25 HC.size
   have ne_b8_b9 := nF e25 hb16.ne_size
   replace HC := HC.then c26
   replace ha := ha.tr0 c26
   replace hb := hb.tr0 c26
   replace hvU := Enc.chg hvU c26 q8
   replace hb16 := hb16.tr0 c26
   replace hvV := Enc.chg hvV c26 q8
   clear e25
   refine Wp rfl <| st_st (v := .agg ⟨[_, _, _, _, _, _, _, _, _]⟩) T.size30 rfl rfl rfl hb27 ?_
   intro w28 c29 hb30; simp only [setVs, setV] at hb30
   clear hb27
   replace HC := HC.then1 c29 ge_b9
   replace ha := ha.tr c29 (by intro k hx hD; have hD : k < _ := hD; simp only [List.mem_cons, List.mem_nil_iff, or_false] at hx; omega)
   replace hb := hb.tr c29 (by intro k hx hD; have hD : k < _ := hD; simp only [List.mem_cons, List.mem_nil_iff, or_false] at hx; omega)
   replace hvU := Enc.chg hvU c29 (by intro k hx hD; have hD : k < _ := hD; simp only [List.mem_cons, List.mem_nil_iff, or_false] at hx; omega)
   replace hb16 := hb16.tr1 c29 ne_b8_b9
   replace hvV := Enc.chg hvV c29 (by intro k hx hD; have hD : k < _ := hD; simp only [List.mem_cons, List.mem_nil_iff, or_false] at hx; omega)
   refine en <| sr rfl <| mv (v := .func _ _ _) rfl <| Wp rfl <| st_loadA (vs := [_, _, _, _, _, _, _, _, _]) T.agg30 rfl (hb16.cells (n := 9) (vs := [_, _, _, _, _, _, _, _, _]) rfl) rfl <| Wp rfl <| st_loadA (vs := [_, _, _, _, _, _, _, _, _]) T.agg30 rfl (hb30.cells (n := 9) (vs := [_, _, _, _, _, _, _, _, _]) rfl) rfl <| Wp rfl <| st_call (f := k) (cap := caps) (ags := .agg _ :: .agg _ :: caps.toList) rfl rfl hent rfl (hp _ (List.mem_of_getElem? hx4) _ _ _ _ hvU hvV) ?_
   rintro _ w31 ⟨r, rfl, hr, c32⟩
   replace HC := HC.then c32
   replace ha := ha.tr0 c32
   replace hb := hb.tr0 c32
   refine Wp rfl <| st_not rfl <| en <| x_cond rfl (fun h2 => ?_) (fun h2 => ?_)
   ·try simp only [nm, ne_eq] at h2
    refine sr rfl <| aB rfl <| en <| x_ret <| block_r <| then_r <| then_r <| block_r <| then_r <| ret_tmp (v := .bool _) rfl rfl ?_
    exact ⟨_, rfl, eq_no (get_ne hx4 hx18 (fun e => by have h7 := hr.2 e; simp_all)), HC⟩
   ·try simp only [nm, ne_eq] at h2
    have hxy : x3 = x17 := hr.1 (by first | assumption | simp_all)
    refine x_skip <| block_n <| then_n <| x_region rfl <| Wp rfl <| st_addn rfl rfl (by constructor <;> omega) <| mI rfl <| en <| ⟨i + 1, ?_, ?_, rfl, ⟨rfl, trivial⟩, ?_⟩
    ·refine ⟨?_, HC, ha, hb⟩
     exact ⟨by omega, take_same ht hx4 hx18 hxy⟩
    ·show a.length - (i + 1) < a.length - i; omega
    exact q9
  ·try simp only [nm, ne_eq] at h1
   refine x_exit <| then_x <| then_x <| block_x <| then_n <| sr rfl <| aB rfl <| en <| x_ret <| ret_tmp (v := .bool _) rfl rfl ?_
   exact ⟨_, rfl, eq_yes (by rw [List.take_of_length_le (by omega), List.take_of_length_le (by omega)] at ht; exact ht), HC⟩

theorem eqfI_spec {k : FuncId} {caps : Array Value} {a b : List (List Bytes × List Cm)} {Aa Ab : Option Addr} {capa capb : Nat} {D D2 : Nat → Prop} {w : World} (ha : Sl itE w D Aa a) (hb : Sl itE w D2 Ab b) (hla : a.length ≤ 9223372036854775807) (hent : ∀ args (w : World), (callFunc k args).run Tryz.prog w = .ok (.enter k args) w) (hp : ∀ x, x ∈ a → ∀ (y : (List Bytes × List Cm)) (vx vy : List Value) (W : World) {D1 D2 : Nat → Prop}, itE.R W D1 x vx → itE.R W D2 y vy → CallR Tryz.prog k ⟨.agg ⟨vx⟩ :: .agg ⟨vy⟩ :: caps.toList⟩ W fun v w' => EqT x y W w' v) : CallR Tryz.prog 24 #[.slice Aa a.length capa, .slice Ab b.length capb, .func (.func k) #[] caps] w fun v w' => EqT a b w w' v := by
 refine callR_of_wp (args := [_, _, _]) Tryz.func24 rfl (Nat.le_of_ble_eq_true rfl) ?_
 have HC : Chg [] w w := .refl _
 replace ha := ha.mono (D' := (fun k => k < w.heap.size)) (fun k hk _ => hk)
 replace hb := hb.mono (D' := (fun k => k < w.heap.size)) (fun k hk _ => hk)
 refine sr rfl <| aB rfl <| en <| x_seq <| sr rfl <| mL rfl <| Wp rfl <| st_len (ct := #[28]) (by rw [show ((#[28] : Array TypeId)[0]?).bind Tryz.prog.underlying = some (.slice 59) from T.u28]; rfl) rfl <| mL rfl <| Wp rfl <| st_len (ct := #[28]) (by rw [show ((#[28] : Array TypeId)[0]?).bind Tryz.prog.underlying = some (.slice 59) from T.u28]; rfl) rfl <| Wp rfl <| st_neq rfl rfl <| en <| x_cond rfl (fun h0 => ?_) (fun h0 => ?_)
 ·try simp only [nm, ne_eq] at h0
  refine sr rfl <| aB rfl <| en <| x_ret <| then_r <| ret_tmp (v := .bool _) rfl rfl ?_
  exact ⟨_, rfl, eq_no (fun e => h0 (by rw [e])), HC⟩
 ·try simp only [nm, ne_eq] at h0
  have hll : a.length = b.length := by omega
  refine x_skip <| then_n <| x_seq <| sr rfl <| mL rfl <| Wp rfl <| st_len (ct := #[28]) (by rw [show ((#[28] : Array TypeId)[0]?).bind Tryz.prog.underlying = some (.slice 59) from T.u28]; rfl) rfl <| mI rfl <| en <| x_block <| x_loop (ι := Nat) [6, 7, 8, 9, 17, 18, 19, 20, 21, 22, 23, 24, 25, 26, 27, 28, 29, 30, 31] (fun i => [(17, .int .i64 (i : Int))]) (fun i W => (i ≤ a.length ∧ a.take i = b.take i) ∧ (Chg [] w W) ∧ (Sl itE W (fun k => k < w.heap.size) Aa a) ∧ (Sl itE W (fun k => k < w.heap.size) Ab b)) (fun i => a.length - i) 0 ?_ ?_ ?_
  · exact ⟨rfl, trivial⟩
  ·refine ⟨?_, HC, ha, hb⟩
   exact ⟨Nat.zero_le _, rfl⟩
  intro i G2 w1 ⟨⟨hi, ht⟩, HC, ha, hb⟩
  change wp _ _ _ _ _ (upds (over _ _ G2) [(17, .int .i64 (i : Int))]) _ _
  refine sr rfl <| Wp rfl <| st_lss rfl rfl <| en <| x_seq <| x_cond rfl (fun h1 => ?_) (fun h1 => ?_)
  ·try simp only [nm, ne_eq] at h1
   refine x_skip <| then_n <| x_seq <| x_block <| sr rfl <| mI rfl ?_
   obtain ⟨x3, hx4⟩ : ∃ zz, a[i]? = some zz := ⟨_, List.getElem?_eq_getElem (by omega)⟩
   obtain ⟨lb9, _, vs8, hA5, hR7, hC6⟩ := ha.at hx4
   have hvU := hR7
   obtain ⟨_, _, rfl, ⟨I1U, m1U, rfl, k1U, k2U, hI1U⟩, ⟨I2U, m2U, rfl, k3U, k4U, hI2U⟩⟩ := hR7
   refine Wp rfl <| st_indexAddr T.u28 T.size59 (congrArg (fun z => Value.slice z _ _) hA5) rfl (by omega) (by omega) <| Wp rfl <| st_loadA (vs := [_, _]) T.agg59 rfl hC6 rfl <| Wp rfl <| st_alloc T.zero59 ?_
   intro b8 w10 e11 c12 hb13
   have ge_b8 := gB e11 HC.size
   replace HC := HC.then c12
   replace ha := ha.tr0 c12
   replace hb := hb.tr0 c12
   replace hvU := Enc.chg hvU c12 q8
   clear e11
   refine aI rfl <| Wp rfl <| st_st (v := .agg ⟨[_, _]⟩) T.size59 rfl rfl rfl hb13 ?_
   intro w14 c15 hb16; simp only [setVs, setV] at hb16
   clear hb13
   replace HC := HC.then1 c15 ge_b8
   replace ha := ha.tr c15 (by intro k hx hD; have hD : k < _ := hD; simp only [List.mem_cons, List.mem_nil_iff, or_false] at hx; omega)
   replace hb := hb.tr c15 (by intro k hx hD; have hD : k < _ := hD; simp only [List.mem_cons, List.mem_nil_iff, or_false] at hx; omega)
   replace hvU := Enc.chg hvU c15 (by intro k hx hD; have hD : k < _ := hD; simp only [List.mem_cons, List.mem_nil_iff, or_false] at hx; omega)
   refine en <| sr rfl <| mL rfl <| mI rfl ?_
   obtain ⟨x17, hx18⟩ : ∃ zz, b[i]? = some zz := ⟨_, List.getElem?_eq_getElem (by omega)⟩
   obtain ⟨lb23, _, vs22, hA19, hR21, hC20⟩ := hb.at hx18
   have hvV := hR21
   obtain ⟨_, _, rfl, ⟨I1V, m1V, rfl, k1V, k2V, hI1V⟩, ⟨I2V, m2V, rfl, k3V, k4V, hI2V⟩⟩ := hR21
   refine Wp rfl <| st_indexAddr T.u28 T.size59 (congrArg (fun z => Value.slice z _ _) hA19) rfl (by omega) (by omega) <| Wp rfl <| st_loadA (vs := [_, _]) T.agg59 rfl hC20 rfl <| Wp rfl <| st_alloc T.zero59 ?_
   intro b9 w24 e25 c26 hb27
   have ge_b9 := gB e25 HC.size
   have ne_b8_b9 := nF e25 hb16.ne_size
   replace HC := HC.then c26
   replace ha := ha.tr0 c26
   replace hb := hb.tr0 c26
   replace hvU := Enc.chg hvU c26 q8
   replace hb16 := hb16.tr0 c26
   replace hvV := Enc.chg hvV c26 q8
   clear e25
   refine Wp rfl <| st_st (v := .agg ⟨[_, _]⟩) T.size59 rfl rfl rfl hb27 ?_
   intro w28 c29 hb30; simp only [setVs, setV] at hb30
   clear hb27
   replace HC := HC.then1 c29 ge_b9
   replace ha := ha.tr c29 (by intro k hx hD; have hD : k < _ := hD; simp only [List.mem_cons, List.mem_nil_iff, or_false] at hx; omega)
   replace hb := hb.tr c29 (by intro k hx hD; have hD : k < _ := hD; simp only [List.mem_cons, List.mem_nil_iff, or_false] at hx; omega)
   replace hvU := Enc.chg hvU c29 (by intro k hx hD; have hD : k < _ := hD; simp only [List.mem_cons, List.mem_nil_iff, or_false] at hx; omega)
   replace hb16 := hb16.tr1 c29 ne_b8_b9
   replace hvV := Enc.chg hvV c29 (by intro k hx hD; have hD : k < _ := hD; simp only [List.mem_cons, List.mem_nil_iff, or_false] at hx; omega)
   refine en <| sr rfl <| mv (v := .func _ _ _) rfl <| Wp rfl <| st_loadA (vs := [_, _]) T.agg59 rfl (hb16.cells (n := 2) (vs := [_, _]) rfl) rfl <| Wp rfl <| st_loadA (vs := [_, _]) T.agg59 rfl (hb30.cells (n := 2) (vs := [_, _]) rfl) rfl <| Wp rfl <| st_call (f := k) (cap := caps) (ags := .agg _ :: .agg _ :: caps.toList) rfl rfl hent rfl (hp _ (List.mem_of_getElem? hx4) _ _ _ _ hvU hvV) ?_
   rintro _ w31 ⟨r, rfl, hr, c32⟩
   replace HC := HC.then c32
   replace ha := ha.tr0 c32
   replace hb := hb.tr0 c32
   refine Wp rfl <| st_not rfl <| en <| x_cond rfl (fun h2 => ?_) (fun h2 => ?_)
   ·try simp only [nm, ne_eq] at h2
    refine sr rfl <| aB rfl <| en <| x_ret <| block_r <| then_r <| then_r <| block_r <| then_r <| ret_tmp (v := .bool _) rfl rfl ?_
    exact ⟨_, rfl, eq_no (get_ne hx4 hx18 (fun e => by have h7 := hr.2 e; simp_all)), HC⟩
   ·try simp only [nm, ne_eq] at h2
    have hxy : x3 = x17 := hr.1 (by first | assumption | simp_all)
    refine x_skip <| block_n <| then_n <| x_region rfl <| Wp rfl <| st_addn rfl rfl (by constructor <;> omega) <| mI rfl <| en <| ⟨i + 1, ?_, ?_, rfl, ⟨rfl, trivial⟩, ?_⟩
    ·refine ⟨?_, HC, ha, hb⟩
     exact ⟨by omega, take_same ht hx4 hx18 hxy⟩
    ·show a.length - (i + 1) < a.length - i; omega
    exact q9
  ·try simp only [nm, ne_eq] at h1
   refine x_exit <| then_x <| then_x <| block_x <| then_n <| sr rfl <| aB rfl <| en <| x_ret <| ret_tmp (v := .bool _) rfl rfl ?_
   exact ⟨_, rfl, eq_yes (by rw [List.take_of_length_le (by omega), List.take_of_length_le (by omega)] at ht; exact ht), HC⟩

end Go.Proofs.YtghjmiggobpmoaaGreatDoor.K
