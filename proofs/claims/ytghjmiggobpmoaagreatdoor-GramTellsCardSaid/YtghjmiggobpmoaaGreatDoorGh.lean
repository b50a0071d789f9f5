import Derived.Test.YtghjmiggobpmoaaGreatDoorTok
import Derived.Test.YtghjmiggobpmoaaGreatDoorGg
set_option linter.unusedVariables false
set_option linter.unusedSimpArgs false
set_option autoImplicit false
set_option maxRecDepth 20000
namespace Go.Proofs.YtghjmiggobpmoaaGreatDoor.K
open Go Go.Proofs Go.RowKit

theorem want_ok {k : Int} {s : Bytes} {Y : List Tok} (h : isT k [s] Y = true) : wantG k s Y = .ok () Y.tail := by unfold wantG; rw [if_pos h]
theorem want_er {k : Int} {s : Bytes} {Y : List Tok} (h : isT k [s] Y = false) : wantG k s Y = .er Y 101 := by unfold wantG; rw [if_neg (by rw [h]; simp)]
theorem suf_isT {k : Int} {l : List Bytes} {Y : List Tok} (hg : GT Y) (h : isT k l Y = true) (hk : k ≠ 0) : Suf Y.tail Y := .tail hg (by rw [(isT_tail h).1]; exact hk)
def OkN (g : Rs Cm) (Z : List Tok) (rb tb : Nat) (d : Int) (w w' : World) (v : Value) : Prop := ∃ c R A1 c1 A2 c2 A4 c4 A5 c5, g = .ok c R ∧ Suf R Z ∧ R.length < Z.length ∧ c.rds = [] ∧ v = .agg ⟨cmC c A1 c1 A2 c2 none 0 A4 c4 A5 c5⟩ ∧ cmE.R w' (fun k => w.heap.size ≤ k) c (cmC c A1 c1 A2 c2 none 0 A4 c4 A5 c5) ∧ RdAt w' rb tb d R ∧ Chg [rb] w w'
theorem OkN.toC {g : Rs Cm} {Z : List Tok} {rb tb : Nat} {d : Int} {w w' : World} {v : Value} (h : OkN g Z rb tb d w w' v) : OkC g Z rb tb d w w' v := by
  obtain ⟨c, R, A1, c1, A2, c2, A4, c4, A5, c5, h1, h2, h3, h4, h5, h6, h7, h8⟩ := h
  have h9 : cmC c A1 c1 A2 c2 none 0 A4 c4 A5 c5 = cmC c A1 c1 A2 c2 none 0 A4 c4 A5 c5 := rfl
  exact ⟨c, R, _, h1, h2, h3, h5, h6, h7, h8⟩
theorem CallP.imp2 {P : Program} {f : FuncId} {args : Array Value} {w : World} {Φ Ψ Φ' : Value → World → Prop} (h : CallP P f args w Φ Ψ) (h1 : ∀ v w', Φ v w' → Φ' v w') : CallP P f args w Φ' Ψ := h.mono h1 (fun _ _ h => h)

theorem gdo_spec {Z : List Tok} {rb tb : Nat} {d : Int} {w : World} (hg : GT Z) (hz : GB Z) (hR : RdAt w rb tb d Z) (hq : QOk rb tb) (hmx : MaxT w) (ht : Tab w) {com : List Tok → Rs Cm} (hcom : ReadsC 64 com rb tb d) : CallP Tryz.prog 100 #[.pointer (some ⟨rb, 0, none⟩)] w (fun v w' => OkC (doG com Z) Z rb tb d w w' v) (fun v w' => ErT (doG com Z) Z rb w w' v) := by
 refine callP_of_wp (args := [_]) Tryz.func100 rfl (Nat.le_of_ble_eq_true rfl) ?_
 have HC : Chg [rb] w w := .refl _
 have hrl := hR.lt hg
 have hq9 := hq
 obtain ⟨hq1, hq2, hq3⟩ := hq9
 have ht1 := ht.lt
 have hm1 := hmx.lt
 have hzl := hz.1
 refine sr rfl <| Wp rfl <| st_alloc T.zero30 ?_
 intro b2 w1 e2 c3 hb4
 have ge_b2 := gB e2 HC.size
 replace HC := HC.then c3
 replace hR := hR.tr0 c3
 replace ht := ht.tr0 c3
 replace hmx := hmx.tr0 c3
 clear e2
 refine en <| sr rfl <| mP rfl <| w_plain rfl (st_callP (ags := [_, _, _]) rfl rfl T.ent98 rfl (gwant_spec (Z := Z) 1 [100, 111] hg hR hq) ?_ ?_)
 ·rintro _ w5 ⟨hwA, rfl, c6⟩
  replace HC := HC.trans c6 q4
  refine then_p <| pp_panic ?_
  exact ⟨_, _, by simp only [doG, want_er hwA, Rs.bind], .refl hg, rfl, HC⟩
 rintro _ w7 ⟨hwA, hR, c8⟩
 replace HC := HC.trans c8 q4
 replace ht := ht.tr c8 q1
 replace hmx := hmx.tr c8 q1
 replace hb4 := hb4.tr1 c8 (by omega)
 refine en <| x_seq ?_
 have hsA := suf_isT hg hwA (by decide)
 have hgA := hsA.good
 have hzA := hsA.gb hz
 have hlA := tail_len hg
 refine x_region rfl <| mP rfl ?_
 have ltB_b2 := hb4.lt
 have szlB := HC.size
 refine w_plain rfl (st_callP (ags := [_]) rfl rfl T.ent97 rfl (gbody_spec hgA hzA hR hq hmx ht hcom) ?_ ?_)
 ·rintro _ w9 ⟨R9, e9, he9, hs9, rfl, c10⟩
  replace HC := HC.trans c10 q4
  refine then_p <| pp_panic ?_
  exact ⟨_, _, by simp only [doG, want_ok hwA, he9, Rs.bind], hs9.trans hsA, rfl, HC⟩
 rintro _ w11 ⟨cB, RB, vsB, heB, hsB, hlB, rfl, hvB, hR, c12⟩
 obtain ⟨A1B, n1B, A2B, n2B, A3B, n3B, A4B, n4B, A5B, n5B, rfl, hAB, k1B, k2B, k3B, k4B, k5B⟩ := cm_open hvB
 replace hvB := cmE.mono hvB (D' := (fun k => w7.heap.size ≤ k ∧ k < w11.heap.size)) (fun k hk h => ⟨h, hk⟩)
 have szB : w11.heap.size ≤ w11.heap.size := Nat.le_refl _
 have szmB := c12.size
 replace HC := HC.trans c12 q4
 replace hb4 := hb4.tr1 c12 (by omega)
 refine Wp rfl <| st_alloc T.zero30 ?_
 intro b3 w13 e14 c15 hb16
 have ge_b3 := gB e14 HC.size
 have ne_b2_b3 := nE e14 hb4.ne_size
 have gq_szB_b3 : w11.heap.size ≤ b3 := by rw [e14]; exact szB
 replace HC := HC.then c15
 replace hb4 := hb4.tr0 c15
 replace hR := hR.tr0 c15
 replace hvB := Enc.chg hvB c15 q8
 replace szB := Nat.le_trans szB c15.size
 clear e14
 refine Wp rfl <| st_st (v := .agg ⟨[_, _, _, _, _, _, _, _, _]⟩) T.size30 rfl rfl rfl hb16 ?_
 intro w17 c18 hb19; simp only [setVs, setV] at hb19
 clear hb16
 replace HC := HC.then1 c18 ge_b3
 replace hb4 := hb4.tr1 c18 ne_b2_b3
 replace hR := hR.tr c18 q2
 replace hvB := Enc.chg hvB c18 q3
 replace szB := Nat.le_trans szB c18.size
 refine en <| x_seq ?_
 have hgB := hsB.good
 refine x_region rfl <| mP rfl <| w_plain rfl (st_callP (ags := [_, _, _]) rfl rfl T.ent98 rfl (gwant_spec (Z := RB) 1 [100, 111, 110, 101] hgB hR hq) ?_ ?_)
 ·rintro _ w20 ⟨hwC, rfl, c21⟩
  replace HC := HC.trans c21 q4
  replace szB := Nat.le_trans szB c21.size
  refine then_p <| pp_panic ?_
  exact ⟨_, _, by simp only [doG, want_ok hwA, heB, want_er hwC, Rs.bind], hsB.trans hsA, rfl, HC⟩
 rintro _ w22 ⟨hwC, hR, c23⟩
 replace HC := HC.trans c23 q4
 replace hb4 := hb4.tr1 c23 (by omega)
 replace hvB := Enc.chg hvB c23 q3
 replace szB := Nat.le_trans szB c23.size
 replace hb19 := hb19.tr1 c23 (by omega)
 refine en <| x_seq ?_
 have hsC := suf_isT hgB hwC (by decide)
 refine x_region rfl <| Wp rfl <| st_loadA (vs := [_, _, _, _, _, _, _, _, _]) T.agg30 rfl (hb19.cells (n := 9) (vs := [_, _, _, _, _, _, _, _, _]) rfl) rfl <| Wp rfl <| st_st (v := .agg ⟨[_, _, _, _, _, _, _, _, _]⟩) T.size30 rfl rfl rfl hb4 ?_
 intro w24 c25 hb26; simp only [setVs, setV] at hb26
 clear hb4
 replace HC := HC.then1 c25 ge_b2
 replace hvB := Enc.chg hvB c25 q3
 replace szB := Nat.le_trans szB c25.size
 replace hR := hR.tr c25 q2
 refine en <| x_ret <| pp_ret <| ret_cellA (vs := [_, _, _, _, _, _, _, _, _]) rfl rfl T.agg30 (hb26.cells (n := 9) rfl) rfl ?_
 exact ⟨cB, RB.tail, _, by simp only [doG, want_ok hwA, heB, want_ok hwC, Rs.bind], hsC.trans (hsB.trans hsA), by have := tail_len hgB; omega, rfl, cmE.mono hvB (fun k _ h => by have := h.1; show _ ≤ k; omega), hR, HC⟩

set_option maxHeartbeats 1600000 in
theorem gbranch_step {Z : List Tok} {rb tb : Nat} {d : Int} {w : World} (hg : GT Z) (hz : GB Z) (hR : RdAt w rb tb d Z) (hq : QOk rb tb) (hmx : MaxT w) (ht : Tab w) {com : List Tok → Rs Cm} (hcom : ReadsC 64 com rb tb d) {n : Nat} (hrec : ∀ (Z : List Tok) (w : World), Z.length ≤ n → GT Z → GB Z → RdAt w rb tb d Z → MaxT w → Tab w → CallP Tryz.prog 99 #[.pointer (some ⟨rb, 0, none⟩)] w (fun v w' => OkN (branchG com n Z) Z rb tb d w w' v) (fun v w' => ErT (branchG com n Z) Z rb w w' v)) (hnZ : Z.length ≤ n + 1) : CallP Tryz.prog 99 #[.pointer (some ⟨rb, 0, none⟩)] w (fun v w' => OkN (branchG com (n + 1) Z) Z rb tb d w w' v) (fun v w' => ErT (branchG com (n + 1) Z) Z rb w w' v) := by
 refine callP_of_wp (args := [_]) Tryz.func99 rfl (Nat.le_of_ble_eq_true rfl) ?_
 have HC : Chg [rb] w w := .refl _
 have hrl := hR.lt hg
 have hq9 := hq
 obtain ⟨hq1, hq2, hq3⟩ := hq9
 have ht1 := ht.lt
 have hm1 := hmx.lt
 have hzl := hz.1
 refine sr rfl <| Wp rfl <| st_alloc T.zero30 ?_
 intro b2 w1 e2 c3 hb4
 have ge_b2 := gB e2 HC.size
 replace HC := HC.then c3
 replace hR := hR.tr0 c3
 replace ht := ht.tr0 c3
 replace hmx := hmx.tr0 c3
 clear e2
 refine en <| sr rfl <| mP rfl ?_
 have ltA_b2 := hb4.lt
 have szlA := HC.size
 refine w_plain rfl (st_callP (ags := [_]) rfl rfl T.ent97 rfl (gbody_spec hg hz hR hq hmx ht hcom) ?_ ?_)
 ·rintro _ w5 ⟨R9, e9, he9, hs9, rfl, c6⟩
  replace HC := HC.trans c6 q4
  refine then_p <| pp_panic ?_
  exact ⟨_, _, by simp only [branchG, he9, Rs.bind], hs9, rfl, HC⟩
 rintro _ w7 ⟨cA, RA, vsA, heA, hsA, hlA, rfl, hvA, hR, c8⟩
 obtain ⟨A1A, n1A, A2A, n2A, A3A, n3A, A4A, n4A, A5A, n5A, rfl, hAA, k1A, k2A, k3A, k4A, k5A⟩ := cm_open hvA
 replace hvA := cmE.mono hvA (D' := (fun k => w1.heap.size ≤ k ∧ k < w7.heap.size)) (fun k hk h => ⟨h, hk⟩)
 have szA : w7.heap.size ≤ w7.heap.size := Nat.le_refl _
 have szmA := c8.size
 replace HC := HC.trans c8 q4
 replace ht := ht.tr c8 q1
 replace hmx := hmx.tr c8 q1
 replace hb4 := hb4.tr1 c8 (by omega)
 refine Wp rfl <| st_lit (ps := [(0, .tmp 5)]) (vs := [.int _ _, S _, .bool _, .bool _, .slice _ _ _, .slice _ _ _, .slice _ _ _, .slice _ _ _, .slice _ _ _]) T.lit27 (by decide) rfl q6 rfl ?_
 intro b9 w10 e11 c12 hb13
 have ge_b9 := gB e11 HC.size
 have ne_b2_b9 := nE e11 hb4.ne_size
 have gq_szA_b9 : w7.heap.size ≤ b9 := by rw [e11]; exact szA
 replace HC := HC.then c12
 replace ht := ht.tr0 c12
 replace hmx := hmx.tr0 c12
 replace hb4 := hb4.tr0 c12
 replace hR := hR.tr0 c12
 replace hvA := Enc.chg hvA c12 q8
 replace szA := Nat.le_trans szA c12.size
 clear e11
 refine Wp rfl <| st_bld (ps := [(0, .const (.int .i64 9)), (7, .tmp 6)]) (vs := [.int _ _, S _, .bool _, .bool _, .slice _ _ _, .slice _ _ _, .slice _ _ _, .slice _ _ _, .slice _ _ _]) T.bld30 rfl <| Wp rfl <| st_alloc T.zero30 ?_
 intro b3 w14 e15 c16 hb17
 have ge_b3 := gB e15 HC.size
 have ne_b2_b3 := nE e15 hb4.ne_size
 have ne_b9_b3 := nE e15 hb13.ne_size
 have gq_szA_b3 : w7.heap.size ≤ b3 := by rw [e15]; exact szA
 replace HC := HC.then c16
 replace ht := ht.tr0 c16
 replace hmx := hmx.tr0 c16
 replace hb4 := hb4.tr0 c16
 replace hR := hR.tr0 c16
 replace hvA := Enc.chg hvA c16 q8
 replace szA := Nat.le_trans szA c16.size
 replace hb13 := hb13.tr0 c16
 clear e15
 refine Wp rfl <| st_st (v := .agg ⟨[_, _, _, _, _, _, _, _, _]⟩) T.size30 rfl rfl rfl hb17 ?_
 intro w18 c19 hb20; simp only [setVs, setV] at hb20
 clear hb17
 replace HC := HC.then1 c19 ge_b3
 replace ht := ht.tr c19 q1
 replace hmx := hmx.tr c19 q1
 replace hb4 := hb4.tr1 c19 ne_b2_b3
 replace hR := hR.tr c19 q2
 replace hvA := Enc.chg hvA c19 q3
 replace szA := Nat.le_trans szA c19.size
 replace hb13 := hb13.tr1 c19 ne_b9_b3
 refine en <| x_seq ?_
 have oK : Own cmE 30 w18 (fun k => w.heap.size ≤ k ∧ k ≠ b2 ∧ k ≠ b3) (some ⟨b9, 0, none⟩) 1 [cA] := own_one hb13 ⟨by omega, (Ne.symm ne_b2_b9), ne_b9_b3⟩ hvA (fun k _ h => ⟨⟨by omega, by omega, by omega⟩, by omega⟩)
 have hgA := hsA.good
 have hzA := hsA.gb hz
 refine x_region rfl <| mP rfl <| w_plain rfl (st_callP (ags := [_, _, _]) rfl rfl T.ent98 rfl (gwant_spec (Z := RA) 1 [116, 104, 101, 110] hgA hR hq) ?_ ?_)
 ·rintro _ w21 ⟨hwT, rfl, c22⟩
  replace HC := HC.trans c22 q4
  replace szA := Nat.le_trans szA c22.size
  refine then_p <| pp_panic ?_
  exact ⟨_, _, by simp only [branchG, heA, want_er hwT, Rs.bind], hsA, rfl, HC⟩
 rintro _ w23 ⟨hwT, hR, c24⟩
 replace HC := HC.trans c24 q4
 replace ht := ht.tr c24 q1
 replace hmx := hmx.tr c24 q1
 replace hb4 := hb4.tr1 c24 (by omega)
 replace szA := Nat.le_trans szA c24.size
 replace hb20 := hb20.tr1 c24 (by omega)
 replace oK := oK.tr c24 q3
 refine en <| x_seq ?_
 have hsT := suf_isT hgA hwT (by decide)
 have hgT := hsT.good
 have hzT := hsT.gb hzA
 have hlT := tail_len hgA
 refine x_draw [(0, 0), (1, 0), (2, 0), (3, 1), (4, 1), (5, 1), (6, 0), (7, 2)] T.mixed rfl rfl rfl (fun W => W.heap[b2]? = w23.heap[b2]? ∧ W.heap[b3]? = w23.heap[b3]? ∧ True) ⟨rfl, rfl, trivial⟩ ?_
 have o27 := hb4
 have o28 := hb20
 have c26 := Chg.drew w23
 generalize World.drew w23 = w25 at c26 ⊢
 replace HC := HC.then c26
 replace ht := ht.tr0 c26
 replace hmx := hmx.tr0 c26
 replace hb4 := hb4.tr0 c26
 replace szA := Nat.le_trans szA c26.size
 replace hb20 := hb20.tr0 c26
 replace oK := oK.tr0 c26
 replace hR := hR.tr0 c26
 refine sq_q rfl (fun W hT => r_fieldAddr T.fld30_7 rfl) <| sq_q rfl (fun W hT => r_load1 (v := .slice _ _ _) T.one27 rfl (Blk.cell (show Blk W b3 _ _ from hT.2.1.trans o28) rfl)) <| sq_q rfl (fun W hT => r_move (v := .pointer _) rfl) ?_
 have ltB_b2 := hb4.lt
 have ltB_b3 := hb20.lt
 have olB_oK := oK.lt
 have szlB := HC.size
 refine sq_callP1 rfl (r_call (ags := [_]) rfl rfl T.ent97 rfl) (gbody_spec hgT hzT hR hq hmx ht hcom) ?_ ?_
 ·rintro _ w29 ⟨R9, e9, he9, hs9, rfl, c30⟩
  replace HC := HC.trans c30 q4
  replace szA := Nat.le_trans szA c30.size
  intro E9
  refine then_p <| pp_panic ?_
  exact ⟨_, _, by simp only [branchG, heA, want_ok hwT, he9, Rs.bind], hs9.trans (hsT.trans hsA), rfl, HC⟩
 rintro _ w31 ⟨cB, RB, vsB, heB, hsB, hlB, rfl, hvB, hR, c32⟩
 obtain ⟨A1B, n1B, A2B, n2B, A3B, n3B, A4B, n4B, A5B, n5B, rfl, hAB, k1B, k2B, k3B, k4B, k5B⟩ := cm_open hvB
 replace hvB := cmE.mono hvB (D' := (fun k => w25.heap.size ≤ k ∧ k < w31.heap.size)) (fun k hk h => ⟨h, hk⟩)
 have szB : w31.heap.size ≤ w31.heap.size := Nat.le_refl _
 have szmB := c32.size
 replace HC := HC.trans c32 q4
 replace ht := ht.tr c32 q1
 replace hmx := hmx.tr c32 q1
 replace hb4 := hb4.tr1 c32 (by omega)
 replace szA := Nat.le_trans szA c32.size
 replace hb20 := hb20.tr1 c32 (by omega)
 replace oK := oK.tr c32 q3
 refine ⟨_, fun _ h => h, ⟨(Eq.trans hb4 o27.symm), (Eq.trans hb20 o28.symm), trivial⟩, ?_⟩
 refine sq_lit1 (ps := [(0, .tmp 13)]) (vs := [.int _ _, S _, .bool _, .bool _, .slice _ _ _, .slice _ _ _, .slice _ _ _, .slice _ _ _, .slice _ _ _]) rfl T.lit27 (by decide) rfl q6 rfl ?_
 intro b33 w34 e35 c36 hb37
 have ge_b33 := gB e35 HC.size
 have gq_szA_b33 : w7.heap.size ≤ b33 := by rw [e35]; exact szA
 have na_Kb33 : b33 ∉ ob ((some ⟨b9, 0, none⟩)) := oK.fresh (by rw [e35]; exact Nat.le_refl _)
 have gq_szB_b33 : w31.heap.size ≤ b33 := by rw [e35]; exact szB
 replace HC := HC.then c36
 replace ht := ht.tr0 c36
 replace hmx := hmx.tr0 c36
 replace hb4 := hb4.tr0 c36
 replace szA := Nat.le_trans szA c36.size
 replace hb20 := hb20.tr0 c36
 replace oK := oK.tr0 c36
 replace hR := hR.tr0 c36
 replace hvB := Enc.chg hvB c36 q8
 replace szB := Nat.le_trans szB c36.size
 clear e35
 refine ext_T (b := b33) ⟨(Eq.trans hb4 o27.symm), (Eq.trans hb20 o28.symm), trivial⟩ ?_
 have o38 := hb37
 have hszA := HC.size
 refine sq_append1 (c := cmE) (D2 := (fun k => w25.heap.size ≤ k ∧ k < w31.heap.size)) (xs := [cA]) (ys := [cB]) rfl T.slice27 rfl rfl oK rfl rfl (one_elem hvB (hb37.cells (n := 9) rfl)) (fun k _ h => ⟨⟨by omega, by omega, by omega⟩, fun hk => by have h8 := olB_oK k hk; omega⟩) (fun k hk => (by have h7 := HC.size; have h8 := hb4.lt; have h9 := hb20.lt; exact ⟨by omega, by omega, by omega⟩)) q7 q7 ?_
 intro A39 cap40 w41 ho42 c43 hg44
 replace HC := HC.trans c43 (fun k hk => .inr ((oK.inD k hk).1))
 replace ht := ht.tr c43 (fun hx => by first | (have h1 := (oK.inD _ hx).1; omega) | (have h1 : w.heap.size ≤ 0 := oK.inD _ hx; omega))
 replace hmx := hmx.tr c43 (by intro hx; have hD := oK.inD _ hx; omega)
 replace hb4 := hb4.tr c43 (fun hx => by first | (have h1 := oK.inD _ hx; omega) | exact na_Kb2 hx | exact hav _ hx (by simp))
 replace szA := Nat.le_trans szA c43.size
 replace hb20 := hb20.tr c43 (fun hx => by first | (have h1 := oK.inD _ hx; omega) | exact na_Kb3 hx | exact hav _ hx (by simp))
 replace hR := hR.tr c43 (by intro k hk; have hD := oK.inD k hk; omega)
 replace szB := Nat.le_trans szB c43.size
 replace hb37 := hb37.tr c43 (fun hx => by first | (have h1 := oK.inD _ hx; omega) | exact na_Kb33 hx | exact hav _ hx (by simp))
 refine ⟨_, fun _ h => h, ⟨(Eq.trans hb37 o38.symm), ⟨(Eq.trans hb4 o27.symm), (Eq.trans hb20 o28.symm), trivial⟩⟩, ?_⟩
 refine sq_q rfl (fun W hT => r_fieldAddr T.fld30_7 rfl) <| sq_store2 rfl T.size27 (v := .slice _ _ _) rfl rfl rfl hb20 rfl (Nat.le_of_ble_eq_true rfl) q5 rfl ?_
 intro w45 c46 hb47; simp only [setVs, setV] at hb47
 clear hb20
 replace HC := HC.then1 c46 ge_b3
 replace ht := ht.tr c46 q1
 replace hmx := hmx.tr c46 q1
 replace hb4 := hb4.tr1 c46 ne_b2_b3
 replace szA := Nat.le_trans szA c46.size
 replace ho42 := ho42.tr c46 q3
 replace hR := hR.tr c46 q2
 replace szB := Nat.le_trans szB c46.size
 clear o27
 clear o28
 clear o38
 refine sq_nil <| then_n <| x_seq <| x_seq ?_
 have hgB := hsB.good
 have hsB2 := hsB.trans (hsT.trans hsA)
 have hzB := hsB2.gb hz
 refine x_region rfl <| mP rfl <| Wp rfl <| st_lit (ps := [(0, .const (S [101, 108, 105, 102]))]) (vs := [S _]) T.lit23 (by decide) rfl q6 rfl ?_
 intro b48 w49 e50 c51 hb52
 have ge_b48 := gB e50 HC.size
 have gq_szA_b48 : w7.heap.size ≤ b48 := by rw [e50]; exact szA
 have na_Kb48 : b48 ∉ ob (A39) := ho42.fresh (by rw [e50]; exact Nat.le_refl _)
 have gq_szB_b48 : w31.heap.size ≤ b48 := by rw [e50]; exact szB
 replace HC := HC.then c51
 replace ht := ht.tr0 c51
 replace hmx := hmx.tr0 c51
 replace hb4 := hb4.tr0 c51
 replace szA := Nat.le_trans szA c51.size
 replace ho42 := ho42.tr0 c51
 replace hR := hR.tr0 c51
 replace szB := Nat.le_trans szB c51.size
 replace hb47 := hb47.tr0 c51
 clear e50
 refine Wp rfl <| st_call (ags := [_, _, _]) rfl rfl T.ent63 rfl (gtake_spec (Z := RB) (l := [[101, 108, 105, 102]]) 1 hgB hR hq (sl_str [[101, 108, 105, 102]] hb52) (by simp)) ?_
 rintro _ w53 ⟨rfl, hR, c54⟩
 replace HC := HC.trans c54 q4
 replace ht := ht.tr c54 q1
 replace hmx := hmx.tr c54 q1
 replace hb4 := hb4.tr1 c54 (by omega)
 replace szA := Nat.le_trans szA c54.size
 replace ho42 := ho42.tr c54 q3
 replace szB := Nat.le_trans szB c54.size
 replace hb47 := hb47.tr1 c54 (by omega)
 refine en <| x_cond rfl (fun h0 => ?_) (fun h0 => ?_)
 ·try simp only [nm, ne_eq] at h0
  have hel : isT 1 [[101, 108, 105, 102]] RB = true := by first | assumption | simp_all
  rw [if_pos hel] at hR
  have hsE := suf_isT hgB hel (by decide)
  have hgE := hsE.good
  have hzE := hsE.gb hzB
  have hlE := tail_len hgB
  refine x_seq <| x_draw [(0, 0), (1, 0), (2, 0), (3, 1), (4, 1), (5, 1), (6, 0), (7, 2)] T.mixed rfl rfl rfl (fun W => W.heap[b2]? = w53.heap[b2]? ∧ W.heap[b3]? = w53.heap[b3]? ∧ True) ⟨rfl, rfl, trivial⟩ ?_
  have o57 := hb4
  have o58 := hb47
  have c56 := Chg.drew w53
  generalize World.drew w53 = w55 at c56 ⊢
  replace HC := HC.then c56
  replace ht := ht.tr0 c56
  replace hmx := hmx.tr0 c56
  replace hb4 := hb4.tr0 c56
  replace szA := Nat.le_trans szA c56.size
  replace ho42 := ho42.tr0 c56
  replace szB := Nat.le_trans szB c56.size
  replace hb47 := hb47.tr0 c56
  replace hR := hR.tr0 c56
  refine sq_q rfl (fun W hT => r_fieldAddr T.fld30_7 rfl) <| sq_q rfl (fun W hT => r_load1 (v := .slice _ _ _) T.one27 rfl (Blk.cell (show Blk W b3 _ _ from hT.2.1.trans o58) rfl)) <| sq_q rfl (fun W hT => r_move (v := .pointer _) rfl) ?_
  have ltC_b2 := hb4.lt
  have ltC_b3 := hb47.lt
  have olC_oK := ho42.lt
  have szlC := HC.size
  refine sq_callP1 rfl (r_call (ags := [_]) rfl rfl T.ent99 rfl) ((hrec _ _ (by omega) hgE hzE hR hmx ht).imp2 (fun _ _ h => h.toC)) ?_ ?_
  ·rintro _ w59 ⟨R9, e9, he9, hs9, rfl, c60⟩
   replace HC := HC.trans c60 q4
   replace szA := Nat.le_trans szA c60.size
   replace szB := Nat.le_trans szB c60.size
   intro E9
   refine then_p <| then_p <| pp_panic ?_
   exact ⟨_, _, by simp only [branchG, heA, want_ok hwT, heB, if_pos hel, he9, Rs.bind], (hs9.trans hsE).trans hsB2, rfl, HC⟩
  rintro _ w61 ⟨cC, RC, vsC, heC, hsC, hlC, rfl, hvC, hR, c62⟩
  obtain ⟨A1C, n1C, A2C, n2C, A3C, n3C, A4C, n4C, A5C, n5C, rfl, hAC, k1C, k2C, k3C, k4C, k5C⟩ := cm_open hvC
  replace hvC := cmE.mono hvC (D' := (fun k => w55.heap.size ≤ k ∧ k < w61.heap.size)) (fun k hk h => ⟨h, hk⟩)
  have szC : w61.heap.size ≤ w61.heap.size := Nat.le_refl _
  have szmC := c62.size
  replace HC := HC.trans c62 q4
  replace hb4 := hb4.tr1 c62 (by omega)
  replace szA := Nat.le_trans szA c62.size
  replace ho42 := ho42.tr c62 q3
  replace szB := Nat.le_trans szB c62.size
  replace hb47 := hb47.tr1 c62 (by omega)
  refine ⟨_, fun _ h => h, ⟨(Eq.trans hb4 o57.symm), (Eq.trans hb47 o58.symm), trivial⟩, ?_⟩
  refine sq_lit1 (ps := [(0, .tmp 23)]) (vs := [.int _ _, S _, .bool _, .bool _, .slice _ _ _, .slice _ _ _, .slice _ _ _, .slice _ _ _, .slice _ _ _]) rfl T.lit27 (by decide) rfl q6 rfl ?_
  intro b63 w64 e65 c66 hb67
  have ge_b63 := gB e65 HC.size
  have gq_szA_b63 : w7.heap.size ≤ b63 := by rw [e65]; exact szA
  have na_Kb63 : b63 ∉ ob (A39) := ho42.fresh (by rw [e65]; exact Nat.le_refl _)
  have gq_szB_b63 : w31.heap.size ≤ b63 := by rw [e65]; exact szB
  have gq_szC_b63 : w61.heap.size ≤ b63 := by rw [e65]; exact szC
  replace HC := HC.then c66
  replace hb4 := hb4.tr0 c66
  replace szA := Nat.le_trans szA c66.size
  replace ho42 := ho42.tr0 c66
  replace szB := Nat.le_trans szB c66.size
  replace hb47 := hb47.tr0 c66
  replace hR := hR.tr0 c66
  replace hvC := Enc.chg hvC c66 q8
  replace szC := Nat.le_trans szC c66.size
  clear e65
  refine ext_T (b := b63) ⟨(Eq.trans hb4 o57.symm), (Eq.trans hb47 o58.symm), trivial⟩ ?_
  have o68 := hb67
  have hszA := HC.size
  refine sq_append1 (c := cmE) (D2 := (fun k => w55.heap.size ≤ k ∧ k < w61.heap.size)) (xs := ([cA] ++ [cB])) (ys := [cC]) rfl T.slice27 rfl rfl ho42 rfl rfl (one_elem hvC (hb67.cells (n := 9) rfl)) (fun k _ h => ⟨⟨by omega, by omega, by omega⟩, fun hk => by have h8 := olC_oK k hk; omega⟩) (fun k hk => (by have h7 := HC.size; have h8 := hb4.lt; have h9 := hb47.lt; exact ⟨by omega, by omega, by omega⟩)) q7 q7 ?_
  intro A69 cap70 w71 ho72 c73 hg74
  replace HC := HC.trans c73 (fun k hk => .inr ((ho42.inD k hk).1))
  replace hb4 := hb4.tr c73 (fun hx => by first | (have h1 := ho42.inD _ hx; omega) | exact na_Kb2 hx | exact hav _ hx (by simp))
  replace szA := Nat.le_trans szA c73.size
  replace szB := Nat.le_trans szB c73.size
  replace hb47 := hb47.tr c73 (fun hx => by first | (have h1 := ho42.inD _ hx; omega) | exact na_Kb3 hx | exact hav _ hx (by simp))
  replace hR := hR.tr c73 (by intro k hk; have hD := ho42.inD k hk; omega)
  replace szC := Nat.le_trans szC c73.size
  replace hb67 := hb67.tr c73 (fun hx => by first | (have h1 := ho42.inD _ hx; omega) | exact na_Kb63 hx | exact hav _ hx (by simp))
  refine ⟨_, fun _ h => h, ⟨(Eq.trans hb67 o68.symm), ⟨(Eq.trans hb4 o57.symm), (Eq.trans hb47 o58.symm), trivial⟩⟩, ?_⟩
  refine sq_q rfl (fun W hT => r_fieldAddr T.fld30_7 rfl) <| sq_store2 rfl T.size27 (v := .slice _ _ _) rfl rfl rfl hb47 rfl (Nat.le_of_ble_eq_true rfl) q5 rfl ?_
  intro w75 c76 hb77; simp only [setVs, setV] at hb77
  clear hb47
  replace HC := HC.then1 c76 ge_b3
  replace hb4 := hb4.tr1 c76 ne_b2_b3
  replace szA := Nat.le_trans szA c76.size
  replace ho72 := ho72.tr c76 q3
  replace szB := Nat.le_trans szB c76.size
  replace hR := hR.tr c76 q2
  replace szC := Nat.le_trans szC c76.size
  clear o57
  clear o58
  clear o68
  refine sq_nil <| then_n <| sr rfl <| Wp rfl <| st_loadA (vs := [_, _, _, _, _, _, _, _, _]) T.agg30 rfl (hb77.cells (n := 9) (vs := [_, _, _, _, _, _, _, _, _]) rfl) rfl <| Wp rfl <| st_st (v := .agg ⟨[_, _, _, _, _, _, _, _, _]⟩) T.size30 rfl rfl rfl hb4 ?_
  intro w78 c79 hb80; simp only [setVs, setV] at hb80
  clear hb4
  replace HC := HC.then1 c79 ge_b2
  replace szA := Nat.le_trans szA c79.size
  replace ho72 := ho72.tr c79 q3
  replace szB := Nat.le_trans szB c79.size
  replace hR := hR.tr c79 q2
  replace szC := Nat.le_trans szC c79.size
  refine en <| x_ret <| then_r <| pp_ret <| ret_cellA (vs := [_, _, _, _, _, _, _, _, _]) rfl rfl T.agg30 (hb80.cells (n := 9) rfl) rfl ?_
  exact ⟨kidsC 9 ([cA] ++ [cB] ++ [cC]), RC, none, 0, none, 0, _, _, none, 0, by simp only [branchG, Rs.bind, heA, want_ok hwT, heB, if_pos hel, heC]; rfl, (hsC.trans hsE).trans hsB2, by have := hsB.len; have := hsC.len; omega, rfl, rfl, cm_shut (c := .mk 9 [] false false [] [] [] ([cA] ++ [cB] ++ [cC]) []) ⟨.nil, .nil, .nil, ho72.sl.mono (fun k _ h => h.1), .nil⟩ ⟨Nat.le_refl _, by decide⟩ ⟨Nat.le_refl _, by decide⟩ ⟨Nat.le_refl _, by decide⟩ ho72.le ⟨Nat.le_refl _, by decide⟩, hR, HC⟩
 ·try simp only [nm, ne_eq] at h0
  have hel : isT 1 [[101, 108, 105, 102]] RB = false := by first | assumption | simp_all
  rw [if_neg (by rw [hel]; simp)] at hR
  refine x_skip <| then_n <| x_seq <| sr rfl <| mP rfl <| Wp rfl <| st_lit (ps := [(0, .const (S [101, 108, 115, 101]))]) (vs := [S _]) T.lit23 (by decide) rfl q6 rfl ?_
  intro b81 w82 e83 c84 hb85
  have ge_b81 := gB e83 HC.size
  have gq_szA_b81 : w7.heap.size ≤ b81 := by rw [e83]; exact szA
  have na_Kb81 : b81 ∉ ob (A39) := ho42.fresh (by rw [e83]; exact Nat.le_refl _)
  have gq_szB_b81 : w31.heap.size ≤ b81 := by rw [e83]; exact szB
  replace HC := HC.then c84
  replace ht := ht.tr0 c84
  replace hmx := hmx.tr0 c84
  replace hb4 := hb4.tr0 c84
  replace szA := Nat.le_trans szA c84.size
  replace ho42 := ho42.tr0 c84
  replace szB := Nat.le_trans szB c84.size
  replace hb47 := hb47.tr0 c84
  replace hR := hR.tr0 c84
  clear e83
  refine Wp rfl <| st_call (ags := [_, _, _]) rfl rfl T.ent63 rfl (gtake_spec (Z := RB) (l := [[101, 108, 115, 101]]) 1 hgB hR hq (sl_str [[101, 108, 115, 101]] hb85) (by simp)) ?_
  rintro _ w86 ⟨rfl, hR, c87⟩
  replace HC := HC.trans c87 q4
  replace ht := ht.tr c87 q1
  replace hmx := hmx.tr c87 q1
  replace hb4 := hb4.tr1 c87 (by omega)
  replace szA := Nat.le_trans szA c87.size
  replace ho42 := ho42.tr c87 q3
  replace szB := Nat.le_trans szB c87.size
  replace hb47 := hb47.tr1 c87 (by omega)
  refine en <| x_cond rfl (fun h1 => ?_) (fun h1 => ?_)
  ·try simp only [nm, ne_eq] at h1
   have hes : isT 1 [[101, 108, 115, 101]] RB = true := by first | assumption | simp_all
   rw [if_pos hes] at hR
   have hsS := suf_isT hgB hes (by decide)
   have hgS := hsS.good
   have hzS := hsS.gb hzB
   have hlS := tail_len hgB
   refine x_draw [(0, 0), (1, 0), (2, 0), (3, 1), (4, 1), (5, 1), (6, 0), (7, 2)] T.mixed rfl rfl rfl (fun W => W.heap[b2]? = w86.heap[b2]? ∧ W.heap[b3]? = w86.heap[b3]? ∧ True) ⟨rfl, rfl, trivial⟩ ?_
   have o90 := hb4
   have o91 := hb47
   have c89 := Chg.drew w86
   generalize World.drew w86 = w88 at c89 ⊢
   replace HC := HC.then c89
   replace ht := ht.tr0 c89
   replace hmx := hmx.tr0 c89
   replace hb4 := hb4.tr0 c89
   replace szA := Nat.le_trans szA c89.size
   replace ho42 := ho42.tr0 c89
   replace szB := Nat.le_trans szB c89.size
   replace hb47 := hb47.tr0 c89
   replace hR := hR.tr0 c89
   refine sq_q rfl (fun W hT => r_fieldAddr T.fld30_7 rfl) <| sq_q rfl (fun W hT => r_load1 (v := .slice _ _ _) T.one27 rfl (Blk.cell (show Blk W b3 _ _ from hT.2.1.trans o91) rfl)) <| sq_q rfl (fun W hT => r_move (v := .pointer _) rfl) ?_
   have ltD_b2 := hb4.lt
   have ltD_b3 := hb47.lt
   have olD_oK := ho42.lt
   have szlD := HC.size
   refine sq_callP1 rfl (r_call (ags := [_]) rfl rfl T.ent97 rfl) (gbody_spec hgS hzS hR hq hmx ht hcom) ?_ ?_
   ·rintro _ w92 ⟨R9, e9, he9, hs9, rfl, c93⟩
    replace HC := HC.trans c93 q4
    replace szA := Nat.le_trans szA c93.size
    replace szB := Nat.le_trans szB c93.size
    intro E9
    refine then_p <| pp_panic ?_
    exact ⟨_, _, by simp only [branchG, heA, want_ok hwT, heB, hel, Bool.false_eq_true, if_false, if_pos hes, he9, Rs.bind], (hs9.trans hsS).trans hsB2, rfl, HC⟩
   rintro _ w94 ⟨cD, RD, vsD, heD, hsD, hlD, rfl, hvD, hR, c95⟩
   obtain ⟨A1D, n1D, A2D, n2D, A3D, n3D, A4D, n4D, A5D, n5D, rfl, hAD, k1D, k2D, k3D, k4D, k5D⟩ := cm_open hvD
   replace hvD := cmE.mono hvD (D' := (fun k => w88.heap.size ≤ k ∧ k < w94.heap.size)) (fun k hk h => ⟨h, hk⟩)
   have szD : w94.heap.size ≤ w94.heap.size := Nat.le_refl _
   have szmD := c95.size
   replace HC := HC.trans c95 q4
   replace hb4 := hb4.tr1 c95 (by omega)
   replace szA := Nat.le_trans szA c95.size
   replace ho42 := ho42.tr c95 q3
   replace szB := Nat.le_trans szB c95.size
   replace hb47 := hb47.tr1 c95 (by omega)
   refine ⟨_, fun _ h => h, ⟨(Eq.trans hb4 o90.symm), (Eq.trans hb47 o91.symm), trivial⟩, ?_⟩
   refine sq_lit1 (ps := [(0, .tmp 34)]) (vs := [.int _ _, S _, .bool _, .bool _, .slice _ _ _, .slice _ _ _, .slice _ _ _, .slice _ _ _, .slice _ _ _]) rfl T.lit27 (by decide) rfl q6 rfl ?_
   intro b96 w97 e98 c99 hb100
   have ge_b96 := gB e98 HC.size
   have gq_szA_b96 : w7.heap.size ≤ b96 := by rw [e98]; exact szA
   have na_Kb96 : b96 ∉ ob (A39) := ho42.fresh (by rw [e98]; exact Nat.le_refl _)
   have gq_szB_b96 : w31.heap.size ≤ b96 := by rw [e98]; exact szB
   have gq_szD_b96 : w94.heap.size ≤ b96 := by rw [e98]; exact szD
   replace HC := HC.then c99
   replace hb4 := hb4.tr0 c99
   replace szA := Nat.le_trans szA c99.size
   replace ho42 := ho42.tr0 c99
   replace szB := Nat.le_trans szB c99.size
   replace hb47 := hb47.tr0 c99
   replace hR := hR.tr0 c99
   replace hvD := Enc.chg hvD c99 q8
   replace szD := Nat.le_trans szD c99.size
   clear e98
   refine ext_T (b := b96) ⟨(Eq.trans hb4 o90.symm), (Eq.trans hb47 o91.symm), trivial⟩ ?_
   have o101 := hb100
   have hszA := HC.size
   refine sq_append1 (c := cmE) (D2 := (fun k => w88.heap.size ≤ k ∧ k < w94.heap.size)) (xs := ([cA] ++ [cB])) (ys := [cD]) rfl T.slice27 rfl rfl ho42 rfl rfl (one_elem hvD (hb100.cells (n := 9) rfl)) (fun k _ h => ⟨⟨by omega, by omega, by omega⟩, fun hk => by have h8 := olD_oK k hk; omega⟩) (fun k hk => (by have h7 := HC.size; have h8 := hb4.lt; have h9 := hb47.lt; exact ⟨by omega, by omega, by omega⟩)) q7 q7 ?_
   intro A102 cap103 w104 ho105 c106 hg107
   replace HC := HC.trans c106 (fun k hk => .inr ((ho42.inD k hk).1))
   replace hb4 := hb4.tr c106 (fun hx => by first | (have h1 := ho42.inD _ hx; omega) | exact na_Kb2 hx | exact hav _ hx (by simp))
   replace szA := Nat.le_trans szA c106.size
   replace szB := Nat.le_trans szB c106.size
   replace hb47 := hb47.tr c106 (fun hx => by first | (have h1 := ho42.inD _ hx; omega) | exact na_Kb3 hx | exact hav _ hx (by simp))
   replace hR := hR.tr c106 (by intro k hk; have hD := ho42.inD k hk; omega)
   replace szD := Nat.le_trans szD c106.size
   replace hb100 := hb100.tr c106 (fun hx => by first | (have h1 := ho42.inD _ hx; omega) | exact na_Kb96 hx | exact hav _ hx (by simp))
   refine ⟨_, fun _ h => h, ⟨(Eq.trans hb100 o101.symm), ⟨(Eq.trans hb4 o90.symm), (Eq.trans hb47 o91.symm), trivial⟩⟩, ?_⟩
   refine sq_q rfl (fun W hT => r_fieldAddr T.fld30_7 rfl) <| sq_store2 rfl T.size27 (v := .slice _ _ _) rfl rfl rfl hb47 rfl (Nat.le_of_ble_eq_true rfl) q5 rfl ?_
   intro w108 c109 hb110; simp only [setVs, setV] at hb110
   clear hb47
   replace HC := HC.then1 c109 ge_b3
   replace hb4 := hb4.tr1 c109 ne_b2_b3
   replace szA := Nat.le_trans szA c109.size
   replace ho105 := ho105.tr c109 q3
   replace szB := Nat.le_trans szB c109.size
   replace hR := hR.tr c109 q2
   replace szD := Nat.le_trans szD c109.size
   clear o90
   clear o91
   clear o101
   refine sq_nil <| then_n <| x_seq ?_
   have hgF := hsD.good
   refine x_region rfl <| mP rfl <| w_plain rfl (st_callP (ags := [_, _, _]) rfl rfl T.ent98 rfl (gwant_spec (Z := RD) 1 [102, 105] hgF hR hq) ?_ ?_)
   ·rintro _ w111 ⟨hwF, rfl, c112⟩
    replace HC := HC.trans c112 q4
    replace szA := Nat.le_trans szA c112.size
    replace szB := Nat.le_trans szB c112.size
    replace szD := Nat.le_trans szD c112.size
    refine then_p <| pp_panic ?_
    exact ⟨_, _, by simp only [branchG, heA, want_ok hwT, heB, hel, Bool.false_eq_true, if_false, if_pos hes, heD, want_er hwF, Rs.bind], (hsD.trans hsS).trans hsB2, rfl, HC⟩
   rintro _ w113 ⟨hwF, hR, c114⟩
   replace HC := HC.trans c114 q4
   replace hb4 := hb4.tr1 c114 (by omega)
   replace szA := Nat.le_trans szA c114.size
   replace ho105 := ho105.tr c114 q3
   replace szB := Nat.le_trans szB c114.size
   replace szD := Nat.le_trans szD c114.size
   replace hb110 := hb110.tr1 c114 (by omega)
   refine en <| x_seq ?_
   have hsF := suf_isT hgF hwF (by decide)
   have hlF := tail_len hgF
   refine x_region rfl <| Wp rfl <| st_loadA (vs := [_, _, _, _, _, _, _, _, _]) T.agg30 rfl (hb110.cells (n := 9) (vs := [_, _, _, _, _, _, _, _, _]) rfl) rfl <| Wp rfl <| st_st (v := .agg ⟨[_, _, _, _, _, _, _, _, _]⟩) T.size30 rfl rfl rfl hb4 ?_
   intro w115 c116 hb117; simp only [setVs, setV] at hb117
   clear hb4
   replace HC := HC.then1 c116 ge_b2
   replace szA := Nat.le_trans szA c116.size
   replace ho105 := ho105.tr c116 q3
   replace szB := Nat.le_trans szB c116.size
   replace szD := Nat.le_trans szD c116.size
   replace hR := hR.tr c116 q2
   refine en <| x_ret <| pp_ret <| ret_cellA (vs := [_, _, _, _, _, _, _, _, _]) rfl rfl T.agg30 (hb117.cells (n := 9) rfl) rfl ?_
   exact ⟨kidsC 9 ([cA] ++ [cB] ++ [cD]), RD.tail, none, 0, none, 0, _, _, none, 0, by simp only [branchG, Rs.bind, heA, want_ok hwT, heB, hel, Bool.false_eq_true, if_false, if_pos hes, heD, want_ok hwF]; rfl, hsF.trans ((hsD.trans hsS).trans hsB2), by have := hsB.len; have := hsD.len; omega, rfl, rfl, cm_shut (c := .mk 9 [] false false [] [] [] ([cA] ++ [cB] ++ [cD]) []) ⟨.nil, .nil, .nil, ho105.sl.mono (fun k _ h => h.1), .nil⟩ ⟨Nat.le_refl _, by decide⟩ ⟨Nat.le_refl _, by decide⟩ ⟨Nat.le_refl _, by decide⟩ ho105.le ⟨Nat.le_refl _, by decide⟩, hR, HC⟩
  ·try simp only [nm, ne_eq] at h1
   have hes : isT 1 [[101, 108, 115, 101]] RB = false := by first | assumption | simp_all
   rw [if_neg (by rw [hes]; simp)] at hR
   refine x_skip <| then_n <| x_seq ?_
   have hgF := hsB.good
   refine x_region rfl <| mP rfl <| w_plain rfl (st_callP (ags := [_, _, _]) rfl rfl T.ent98 rfl (gwant_spec (Z := RB) 1 [102, 105] hgF hR hq) ?_ ?_)
   ·rintro _ w118 ⟨hwF, rfl, c119⟩
    replace HC := HC.trans c119 q4
    replace szA := Nat.le_trans szA c119.size
    replace szB := Nat.le_trans szB c119.size
    refine then_p <| pp_panic ?_
    exact ⟨_, _, by simp only [branchG, heA, want_ok hwT, heB, hel, Bool.false_eq_true, if_false, hes, want_er hwF, Rs.bind], hsB2, rfl, HC⟩
   rintro _ w120 ⟨hwF, hR, c121⟩
   replace HC := HC.trans c121 q4
   replace hb4 := hb4.tr1 c121 (by omega)
   replace szA := Nat.le_trans szA c121.size
   replace ho42 := ho42.tr c121 q3
   replace szB := Nat.le_trans szB c121.size
   replace hb47 := hb47.tr1 c121 (by omega)
   refine en <| x_seq ?_
   have hsF := suf_isT hgF hwF (by decide)
   have hlF := tail_len hgF
   refine x_region rfl <| Wp rfl <| st_loadA (vs := [_, _, _, _, _, _, _, _, _]) T.agg30 rfl (hb47.cells (n := 9) (vs := [_, _, _, _, _, _, _, _, _]) rfl) rfl <| Wp rfl <| st_st (v := .agg ⟨[_, _, _, _, _, _, _, _, _]⟩) T.size30 rfl rfl rfl hb4 ?_
   intro w122 c123 hb124; simp only [setVs, setV] at hb124
   clear hb4
   replace HC := HC.then1 c123 ge_b2
   replace szA := Nat.le_trans szA c123.size
   replace ho42 := ho42.tr c123 q3
   replace szB := Nat.le_trans szB c123.size
   replace hR := hR.tr c123 q2
   refine en <| x_ret <| pp_ret <| ret_cellA (vs := [_, _, _, _, _, _, _, _, _]) rfl rfl T.agg30 (hb124.cells (n := 9) rfl) rfl ?_
   exact ⟨kidsC 9 ([cA] ++ [cB]), RB.tail, none, 0, none, 0, _, _, none, 0, by simp only [branchG, Rs.bind, heA, want_ok hwT, heB, hel, Bool.false_eq_true, if_false, hes, want_ok hwF]; rfl, hsF.trans hsB2, by have := hsB.len; omega, rfl, rfl, cm_shut (c := .mk 9 [] false false [] [] [] ([cA] ++ [cB]) []) ⟨.nil, .nil, .nil, ho42.sl.mono (fun k _ h => h.1), .nil⟩ ⟨Nat.le_refl _, by decide⟩ ⟨Nat.le_refl _, by decide⟩ ⟨Nat.le_refl _, by decide⟩ ho42.le ⟨Nat.le_refl _, by decide⟩, hR, HC⟩

theorem gbranch_spec {rb tb : Nat} {d : Int} {com : List Tok → Rs Cm} (hcom : ReadsC 64 com rb tb d) (hq : QOk rb tb) : ∀ (n : Nat) (Z : List Tok) (w : World), Z.length ≤ n → GT Z → GB Z → RdAt w rb tb d Z → MaxT w → Tab w → CallP Tryz.prog 99 #[.pointer (some ⟨rb, 0, none⟩)] w (fun v w' => OkN (branchG com n Z) Z rb tb d w w' v) (fun v w' => ErT (branchG com n Z) Z rb w w' v)
  | 0, Z, w, hn, hg, _, _, _, _ => absurd hg.pos (by omega)
  | n + 1, Z, w, hn, hg, hz, hR, hmx, ht => gbranch_step hg hz hR hq hmx ht hcom (gbranch_spec hcom hq n) hn

end Go.Proofs.YtghjmiggobpmoaaGreatDoor.K
