import Derived.Test.YtghjmiggobpmoaaGreatDoorTok
import Derived.Test.YtghjmiggobpmoaaGreatDoorGe
set_option linter.unusedVariables false
set_option linter.unusedSimpArgs false
set_option autoImplicit false
set_option maxRecDepth 20000
namespace Go.Proofs.YtghjmiggobpmoaaGreatDoor.K
open Go Go.Proofs Go.RowKit

theorem andL_on {com : List Tok → Rs Cm} {n : Nat} {c d : Cm} {Y R : List Tok} (h : isT 2 [[38, 38], [124, 124]] Y = true) (hc : pipeG com (linesG Y.tail) = .ok d R) : andL com (n + 1) c Y = andL com n (kidsC (if (hd Y).text = [124, 124] then 4 else 3) [c, d]) R := by rw [andL, if_pos h, hc]; rfl
theorem andL_er {com : List Tok → Rs Cm} {n : Nat} {c : Cm} {Y R : List Tok} {e : Int} (h : isT 2 [[38, 38], [124, 124]] Y = true) (hc : pipeG com (linesG Y.tail) = .er R e) : andL com (n + 1) c Y = .er R e := by rw [andL, if_pos h, hc]; rfl
theorem andL_end {com : List Tok → Rs Cm} {n : Nat} {c : Cm} {Y : List Tok} (h : isT 2 [[38, 38], [124, 124]] Y = false) : andL com (n + 1) c Y = .ok c Y := by rw [andL, if_neg (by rw [h]; simp)]
def backX (c : Cm) (R : List Tok) : Cm := if isT 2 [[38]] R = true then kidsC 6 [c] else c
theorem listL_go {com : List Tok → Rs Cm} {n : Nat} {l : List Cm} {c : Cm} {Y R : List Tok} (hc : andG com Y = .ok c R) (hm : moreB R = true) : listL com (n + 1) l Y = if startsB (linesG R.tail) = true then listL com n (l ++ [backX c R]) (linesG R.tail) else .ok (l ++ [backX c R]) (linesG R.tail) := by
  rw [listL, hc]; simp only [Rs.bind, if_pos hm]; rfl
theorem listL_stop {com : List Tok → Rs Cm} {n : Nat} {l : List Cm} {c : Cm} {Y R : List Tok} (hc : andG com Y = .ok c R) (hm : moreB R = false) : listL com (n + 1) l Y = .ok (l ++ [backX c R]) R := by
  rw [listL, hc]; simp only [Rs.bind]; rw [if_neg (by rw [hm]; simp)]; rfl
theorem listL_er {com : List Tok → Rs Cm} {n : Nat} {l : List Cm} {Y R : List Tok} {e : Int} (hc : andG com Y = .er R e) : listL com (n + 1) l Y = .er R e := by rw [listL, hc]; rfl

theorem gandor_spec {Z : List Tok} {rb tb : Nat} {d : Int} {w : World} (hg : GT Z) (hz : GB Z) (hR : RdAt w rb tb d Z) (hq : QOk rb tb) (hmx : MaxT w) (ht : Tab w) {com : List Tok → Rs Cm} (hcom : ReadsC 64 com rb tb d) : CallP Tryz.prog 31 #[.pointer (some ⟨rb, 0, none⟩)] w (fun v w' => OkC (andG com Z) Z rb tb d w w' v) (fun v w' => ErT (andG com Z) Z rb w w' v) := by
 refine callP_of_wp (args := [_]) Tryz.func31 rfl (Nat.le_of_ble_eq_true rfl) ?_
 have HC : Chg [rb] w w := .refl _
 have hrl := hR.lt hg
 have hq9 := hq
 obtain ⟨hq1, hq2, hq3⟩ := hq9
 have ht1 := ht.lt
 have hm1 := hmx.lt
 have hzl := hz.1
 refine sr rfl <| Wp rfl <| st_alloc T.zero30 ?_
 intro b2 w1 e2 c3 hb4
 have ge_b2 := gB e2 HC.size
 replace HC := HC.then c3
 replace hR := hR.tr0 c3
 replace ht := ht.tr0 c3
 replace hmx := hmx.tr0 c3
 clear e2
 refine en <| sr rfl <| mP rfl ?_
 have ltP_b2 := hb4.lt
 have szlP := HC.size
 refine w_plain rfl (st_callP (ags := [_]) rfl rfl T.ent43 rfl (gpipe_spec hg hz hR hq hmx ht hcom) ?_ ?_)
 ·rintro _ w5 ⟨R9, e9, he9, hs9, rfl, c6⟩
  replace HC := HC.trans c6 q4
  refine then_p <| pp_panic ?_
  exact ⟨R9, e9, by rw [andG, he9]; rfl, hs9, rfl, HC⟩
 rintro _ w7 ⟨cP, RP, vsP, heP, hsP, hlP, rfl, hvP, hR, c8⟩
 obtain ⟨A1P, n1P, A2P, n2P, A3P, n3P, A4P, n4P, A5P, n5P, rfl, hAP, k1P, k2P, k3P, k4P, k5P⟩ := cm_open hvP
 replace hvP := cmE.mono hvP (D' := (fun k => w1.heap.size ≤ k ∧ k < w7.heap.size)) (fun k hk h => ⟨h, hk⟩)
 have szP : w7.heap.size ≤ w7.heap.size := Nat.le_refl _
 have szmP := c8.size
 replace HC := HC.trans c8 q4
 replace ht := ht.tr c8 q1
 replace hmx := hmx.tr c8 q1
 replace hb4 := hb4.tr1 c8 (by omega)
 refine Wp rfl <| st_alloc T.zero30 ?_
 intro b3 w9 e10 c11 hb12
 have ge_b3 := gB e10 HC.size
 have ne_b2_b3 := nE e10 hb4.ne_size
 have gq_szP_b3 : w7.heap.size ≤ b3 := by rw [e10]; exact szP
 replace HC := HC.then c11
 replace ht := ht.tr0 c11
 replace hmx := hmx.tr0 c11
 replace hb4 := hb4.tr0 c11
 replace hR := hR.tr0 c11
 replace hvP := Enc.chg hvP c11 q8
 replace szP := Nat.le_trans szP c11.size
 clear e10
 refine Wp rfl <| st_st (v := .agg ⟨[_, _, _, _, _, _, _, _, _]⟩) T.size30 rfl rfl rfl hb12 ?_
 intro w13 c14 hb15; simp only [setVs, setV] at hb15
 clear hb12
 replace HC := HC.then1 c14 ge_b3
 replace ht := ht.tr c14 q1
 replace hmx := hmx.tr c14 q1
 replace hb4 := hb4.tr1 c14 ne_b2_b3
 replace hR := hR.tr c14 q2
 replace hvP := Enc.chg hvP c14 q3
 replace szP := Nat.le_trans szP c14.size
 refine en <| x_seq <| x_block <| x_loop (ι := Nat × Cm × List Tok × List Value) [4, 7, 8, 9, 10, 11, 12, 13, 14, 15, 16, 17, 18, 19, 20, 21] (fun ⟨n, c, Y, vs⟩ => []) (fun ⟨n, c, Y, vs⟩ W => (andL com RP.length cP RP = andL com n c Y ∧ Suf Y Z ∧ Y.length ≤ n ∧ Y.length < Z.length) ∧ (Chg [rb] w W) ∧ (Tab W) ∧ (MaxT W) ∧ (Blk W b2 [.int .i64 0, S [], .bool false, .bool false, .slice none 0 0, .slice none 0 0, .slice none 0 0, .slice none 0 0, .slice none 0 0] 30) ∧ (RdAt W rb tb d Y) ∧ (Blk W b3 vs 30) ∧ (cmE.R W (fun k => w.heap.size ≤ k ∧ k ≠ b2 ∧ k ≠ b3) c (vs))) (fun ⟨n, c, Y, vs⟩ => Y.length) (RP.length, cP, RP, cmC cP A1P n1P A2P n2P A3P n3P A4P n4P A5P n5P) ?_ ?_ ?_
 · exact trivial
 ·refine ⟨?_, HC, ht, hmx, hb4, hR, hb15, (cmE.mono hvP (fun k _ h => ⟨by omega, by omega, by omega⟩))⟩
  exact ⟨rfl, hsP, Nat.le_refl _, hlP⟩
 intro ⟨n, c, Y, vs⟩ G17 w16 ⟨⟨hae, hsY, hn, hll⟩, HC, ht, hmx, hb4, hR, hb3, hvc⟩
 change wp _ _ _ _ _ (upds (over _ _ G17) []) _ _
 obtain ⟨A1c, n1c, A2c, n2c, A3c, n3c, A4c, n4c, A5c, n5c, rfl, hAc, k1c, k2c, k3c, k4c, k5c⟩ := cm_open hvc
 replace hvc := cmE.mono hvc (D' := (fun k => (w.heap.size ≤ k ∧ k ≠ b2 ∧ k ≠ b3) ∧ k < w16.heap.size)) (fun k hk h => ⟨h, hk⟩)
 have szr : w16.heap.size ≤ w16.heap.size := Nat.le_refl _
 have hgY := hsY.good
 have hzY := hsY.gb hz
 have hpY := hgY.pos
 obtain ⟨n, rfl⟩ : ∃ m, n = m + 1 := ⟨n - 1, by omega⟩
 refine x_seq <| sr rfl <| mP rfl <| Wp rfl <| st_lit (ps := [(0, .const (S [38, 38])), (1, .const (S [124, 124]))]) (vs := [S _, S _]) T.lit23 (by decide) rfl (by simp only [List.forall_mem_cons, List.not_mem_nil, false_imp_iff, implies_true, and_true]; exact ⟨rfl, rfl⟩) rfl ?_
 intro b18 w19 e20 c21 hb22
 have ge_b18 := gB e20 HC.size
 have gq_szr_b18 : w16.heap.size ≤ b18 := by rw [e20]; exact szr
 replace HC := HC.then c21
 replace ht := ht.tr0 c21
 replace hmx := hmx.tr0 c21
 replace hb4 := hb4.tr0 c21
 replace hR := hR.tr0 c21
 replace hb3 := hb3.tr0 c21
 replace hvc := Enc.chg hvc c21 q8
 replace szr := Nat.le_trans szr c21.size
 clear e20
 refine Wp rfl <| st_call (ags := [_, _, _]) rfl rfl T.ent32 rfl (gis_spec (Z := Y) (l := [[38, 38], [124, 124]]) 2 hgY hR (sl_str [[38, 38], [124, 124]] hb22) (by simp)) ?_
 rintro _ w23 ⟨rfl, c24⟩
 replace HC := HC.then c24
 replace ht := ht.tr0 c24
 replace hmx := hmx.tr0 c24
 replace hb4 := hb4.tr0 c24
 replace hR := hR.tr0 c24
 replace hb3 := hb3.tr0 c24
 replace hvc := Enc.chg hvc c24 q8
 replace szr := Nat.le_trans szr c24.size
 replace hb22 := hb22.tr0 c24
 refine en <| x_cond rfl (fun h0 => ?_) (fun h0 => ?_)
 ·try simp only [nm, ne_eq] at h0
  have hbar : isT 2 [[38, 38], [124, 124]] Y = true := by first | assumption | simp_all
  have hgT := hgY.tail (by rw [(isT_tail hbar).1]; decide)
  refine x_skip <| then_n <| x_block <| sr rfl <| aI rfl <| en <| x_seq <| sr rfl <| mP rfl <| Wp rfl <| st_call (ags := [_]) rfl rfl T.ent29 rfl (gnext_spec hgY hR hq) ?_
  rintro _ w25 ⟨rfl, hR, c26⟩
  replace HC := HC.trans c26 q4
  replace ht := ht.tr c26 q1
  replace hmx := hmx.tr c26 q1
  replace hb4 := hb4.tr1 c26 (by omega)
  replace hb3 := hb3.tr1 c26 (by omega)
  replace hvc := Enc.chg hvc c26 q3
  replace szr := Nat.le_trans szr c26.size
  replace hb22 := hb22.tr1 c26 (by omega)
  refine Wp rfl <| st_field (v := S _) T.fone51_1 rfl rfl <| Wp rfl <| st_seql rfl rfl <| en <| x_cond rfl (fun h1 => ?_) (fun h1 => ?_)
  ·try simp only [nm, ne_eq] at h1
   have hor : (hd Y).text = [124, 124] := by first | assumption | simp_all
   refine x_region rfl <| aI rfl <| en <| sr rfl <| mP rfl <| Wp rfl <| st_call (ags := [_]) rfl rfl T.ent14 rfl (glines_spec (Z := Y.tail) hgT hR hq) ?_
   rintro _ w27 ⟨hR, c28⟩
   replace HC := HC.trans c28 q4
   replace ht := ht.tr c28 q1
   replace hmx := hmx.tr c28 q1
   replace hb4 := hb4.tr1 c28 (by omega)
   replace hb3 := hb3.tr1 c28 (by omega)
   replace hvc := Enc.chg hvc c28 q3
   replace szr := Nat.le_trans szr c28.size
   replace hb22 := hb22.tr1 c28 (by omega)
   refine en ?_
   have hsL := lines_suf hgT
   have hsT := hsL.trans (Suf.tail hgY (by rw [(isT_tail hbar).1]; decide))
   have hgL := hsL.good
   have hzL := hsT.gb hzY
   refine x_draw [(0, 0), (1, 0), (2, 0), (3, 1), (4, 1), (5, 0), (6, 2)] T.mixed rfl rfl rfl (fun W => W.heap[b2]? = w27.heap[b2]? ∧ W.heap[b3]? = w27.heap[b3]? ∧ W.heap[b18]? = w27.heap[b18]? ∧ True) ⟨rfl, rfl, rfl, trivial⟩ ?_
   have o31 := hb4
   have o32 := hb3
   have o33 := hb22
   have c30 := Chg.drew w27
   generalize World.drew w27 = w29 at c30 ⊢
   replace HC := HC.then c30
   replace ht := ht.tr0 c30
   replace hmx := hmx.tr0 c30
   replace hb4 := hb4.tr0 c30
   replace hb3 := hb3.tr0 c30
   replace hvc := Enc.chg hvc c30 q8
   replace szr := Nat.le_trans szr c30.size
   replace hb22 := hb22.tr0 c30
   replace hR := hR.tr0 c30
   refine sq_q rfl (fun W hT => r_move (v := .int _ _) rfl) <| sq_q rfl (fun W hT => r_loadA (vs := [_, _, _, _, _, _, _, _, _]) T.agg30 rfl (Blk.cells (n := 9) (vs := [_, _, _, _, _, _, _, _, _]) (show Blk W b3 _ _ from hT.2.1.trans o32) rfl) rfl) <| sq_q rfl (fun W hT => r_move (v := .pointer _) rfl) ?_
   have ltD_b2 := hb4.lt
   have ltD_b3 := hb3.lt
   have ltD_b18 := hb22.lt
   have szlD := HC.size
   refine sq_callP1 rfl (r_call (ags := [_]) rfl rfl T.ent43 rfl) (gpipe_spec hgL hzL hR hq hmx ht hcom) ?_ ?_
   ·rintro _ w34 ⟨R9, e9, he9, hs9, rfl, c35⟩
    replace HC := HC.trans c35 q4
    replace szr := Nat.le_trans szr c35.size
    intro E9
    refine block_p <| then_p <| block_p <| then_p <| pp_panic ?_
    exact ⟨R9, e9, by rw [andG, heP]; show andL com RP.length cP RP = _; rw [hae, andL_er hbar he9], (hs9.trans hsT).trans hsY, rfl, HC⟩
   rintro _ w36 ⟨cD, RD, vsD, heD, hsD, hlD, rfl, hvD, hR, c37⟩
   obtain ⟨A1D, n1D, A2D, n2D, A3D, n3D, A4D, n4D, A5D, n5D, rfl, hAD, k1D, k2D, k3D, k4D, k5D⟩ := cm_open hvD
   replace hvD := cmE.mono hvD (D' := (fun k => w29.heap.size ≤ k ∧ k < w36.heap.size)) (fun k hk h => ⟨h, hk⟩)
   have szD : w36.heap.size ≤ w36.heap.size := Nat.le_refl _
   have szmD := c37.size
   replace HC := HC.trans c37 q4
   replace ht := ht.tr c37 q1
   replace hmx := hmx.tr c37 q1
   replace hb4 := hb4.tr1 c37 (by omega)
   replace hb3 := hb3.tr1 c37 (by omega)
   replace hvc := Enc.chg hvc c37 q3
   replace szr := Nat.le_trans szr c37.size
   replace hb22 := hb22.tr1 c37 (by omega)
   refine ⟨_, fun _ h => h, ⟨(Eq.trans hb4 o31.symm), (Eq.trans hb3 o32.symm), (Eq.trans hb22 o33.symm), trivial⟩, ?_⟩
   refine sq_lit1 (ps := [(0, .tmp 17), (1, .tmp 19)]) (vs := [.int _ _, S _, .bool _, .bool _, .slice _ _ _, .slice _ _ _, .slice _ _ _, .slice _ _ _, .slice _ _ _, .int _ _, S _, .bool _, .bool _, .slice _ _ _, .slice _ _ _, .slice _ _ _, .slice _ _ _, .slice _ _ _]) rfl T.lit27 (by decide) rfl (by simp only [List.forall_mem_cons, List.not_mem_nil, false_imp_iff, implies_true, and_true]; exact ⟨rfl, rfl⟩) rfl ?_
   intro b38 w39 e40 c41 hb42
   have ge_b38 := gB e40 HC.size
   have ne_b3_b38 := nE e40 hb3.ne_size
   have gq_szr_b38 : w16.heap.size ≤ b38 := by rw [e40]; exact szr
   have gq_szD_b38 : w36.heap.size ≤ b38 := by rw [e40]; exact szD
   replace HC := HC.then c41
   replace ht := ht.tr0 c41
   replace hmx := hmx.tr0 c41
   replace hb4 := hb4.tr0 c41
   replace hb3 := hb3.tr0 c41
   replace hvc := Enc.chg hvc c41 q8
   replace szr := Nat.le_trans szr c41.size
   replace hb22 := hb22.tr0 c41
   replace hR := hR.tr0 c41
   replace hvD := Enc.chg hvD c41 q8
   replace szD := Nat.le_trans szD c41.size
   clear e40
   refine ext_T (b := b38) ⟨(Eq.trans hb4 o31.symm), (Eq.trans hb3 o32.symm), (Eq.trans hb22 o33.symm), trivial⟩ ?_
   have o43 := hb42
   refine sq_q rfl (fun W hT => r_bld (ps := [(0, .tmp 16), (7, .tmp 20)]) (vs := [.int _ _, S _, .bool _, .bool _, .slice _ _ _, .slice _ _ _, .slice _ _ _, .slice _ _ _, .slice _ _ _]) T.bld30 rfl) <| sq_store2 rfl T.size30 (v := .agg ⟨[.int _ _, S _, .bool _, .bool _, .slice _ _ _, .slice _ _ _, .slice _ _ _, .slice _ _ _, .slice _ _ _]⟩) rfl rfl rfl hb3 rfl (Nat.le_of_ble_eq_true rfl) q5 rfl ?_
   intro w44 c45 hb46; simp only [setVs, setV] at hb46
   clear hb3
   replace HC := HC.then1 c45 ge_b3
   replace ht := ht.tr c45 q1
   replace hmx := hmx.tr c45 q1
   replace hb4 := hb4.tr1 c45 ne_b2_b3
   replace hvc := Enc.chg hvc c45 q3
   replace szr := Nat.le_trans szr c45.size
   replace hR := hR.tr c45 q2
   replace hvD := Enc.chg hvD c45 q3
   replace szD := Nat.le_trans szD c45.size
   replace hb42 := hb42.tr1 c45 (Ne.symm ne_b3_b38)
   clear o31
   clear o32
   clear o33
   clear o43
   refine sq_nil <| block_n <| then_n ?_
   have oN : Own cmE 30 w44 (fun k => w.heap.size ≤ k ∧ k ≠ b2 ∧ k ≠ b3) (some ⟨b38, 0, none⟩) 2 [c, cD] := own_two hb42 ⟨by omega, by omega, by omega⟩ hvc hvD (fun k _ h => ⟨h.1, by omega⟩) (fun k _ h => ⟨⟨by omega, by omega, by omega⟩, by omega⟩)
   have hvN : cmE.R w44 (fun k => w.heap.size ≤ k ∧ k ≠ b2 ∧ k ≠ b3) (kidsC 4 [c, cD]) (cmC (kidsC 4 [c, cD]) none 0 none 0 none 0 (some ⟨b38, 0, none⟩) 2 none 0) := cm_shut ⟨.nil, .nil, .nil, oN.sl, .nil⟩ ⟨Nat.le_refl _, by decide⟩ ⟨Nat.le_refl _, by decide⟩ ⟨Nat.le_refl _, by decide⟩ oN.le ⟨Nat.le_refl _, by decide⟩
   have hkd : (if (hd Y).text = [124, 124] then (4 : Int) else 3) = 4 := if_pos hor
   refine ⟨(n, kidsC 4 [c, cD], RD, cmC (kidsC 4 [c, cD]) none 0 none 0 none 0 (some ⟨b38, 0, none⟩) 2 none 0), ?_, ?_, rfl, trivial, ?_⟩
   ·refine ⟨?_, HC, ht, hmx, hb4, hR, hb46, hvN⟩
    exact ⟨by rw [hae, andL_on hbar heD, hkd], (hsD.trans hsT).trans hsY, by have := hsT.len; have := tail_len hgY; omega, by have := hsT.len; have := tail_len hgY; omega⟩
   ·show RD.length < Y.length; have := hsT.len; omega
   exact q9
  ·try simp only [nm, ne_eq] at h1
   have hor : ¬ (hd Y).text = [124, 124] := by first | assumption | simp_all
   refine x_skip <| then_n <| sr rfl <| mP rfl <| Wp rfl <| st_call (ags := [_]) rfl rfl T.ent14 rfl (glines_spec (Z := Y.tail) hgT hR hq) ?_
   rintro _ w47 ⟨hR, c48⟩
   replace HC := HC.trans c48 q4
   replace ht := ht.tr c48 q1
   replace hmx := hmx.tr c48 q1
   replace hb4 := hb4.tr1 c48 (by omega)
   replace hb3 := hb3.tr1 c48 (by omega)
   replace hvc := Enc.chg hvc c48 q3
   replace szr := Nat.le_trans szr c48.size
   replace hb22 := hb22.tr1 c48 (by omega)
   refine en ?_
   have hsL := lines_suf hgT
   have hsT := hsL.trans (Suf.tail hgY (by rw [(isT_tail hbar).1]; decide))
   have hgL := hsL.good
   have hzL := hsT.gb hzY
   refine x_draw [(0, 0), (1, 0), (2, 0), (3, 1), (4, 1), (5, 0), (6, 2)] T.mixed rfl rfl rfl (fun W => W.heap[b2]? = w47.heap[b2]? ∧ W.heap[b3]? = w47.heap[b3]? ∧ W.heap[b18]? = w47.heap[b18]? ∧ True) ⟨rfl, rfl, rfl, trivial⟩ ?_
   have o51 := hb4
   have o52 := hb3
   have o53 := hb22
   have c50 := Chg.drew w47
   generalize World.drew w47 = w49 at c50 ⊢
   replace HC := HC.then c50
   replace ht := ht.tr0 c50
   replace hmx := hmx.tr0 c50
   replace hb4 := hb4.tr0 c50
   replace hb3 := hb3.tr0 c50
   replace hvc := Enc.chg hvc c50 q8
   replace szr := Nat.le_trans szr c50.size
   replace hb22 := hb22.tr0 c50
   replace hR := hR.tr0 c50
   refine sq_q rfl (fun W hT => r_move (v := .int _ _) rfl) <| sq_q rfl (fun W hT => r_loadA (vs := [_, _, _, _, _, _, _, _, _]) T.agg30 rfl (Blk.cells (n := 9) (vs := [_, _, _, _, _, _, _, _, _]) (show Blk W b3 _ _ from hT.2.1.trans o52) rfl) rfl) <| sq_q rfl (fun W hT => r_move (v := .pointer _) rfl) ?_
   have ltD_b2 := hb4.lt
   have ltD_b3 := hb3.lt
   have ltD_b18 := hb22.lt
   have szlD := HC.size
   refine sq_callP1 rfl (r_call (ags := [_]) rfl rfl T.ent43 rfl) (gpipe_spec hgL hzL hR hq hmx ht hcom) ?_ ?_
   ·rintro _ w54 ⟨R9, e9, he9, hs9, rfl, c55⟩
    replace HC := HC.trans c55 q4
    replace szr := Nat.le_trans szr c55.size
    intro E9
    refine block_p <| then_p <| block_p <| then_p <| pp_panic ?_
    exact ⟨R9, e9, by rw [andG, heP]; show andL com RP.length cP RP = _; rw [hae, andL_er hbar he9], (hs9.trans hsT).trans hsY, rfl, HC⟩
   rintro _ w56 ⟨cD, RD, vsD, heD, hsD, hlD, rfl, hvD, hR, c57⟩
   obtain ⟨A1D, n1D, A2D, n2D, A3D, n3D, A4D, n4D, A5D, n5D, rfl, hAD, k1D, k2D, k3D, k4D, k5D⟩ := cm_open hvD
   replace hvD := cmE.mono hvD (D' := (fun k => w49.heap.size ≤ k ∧ k < w56.heap.size)) (fun k hk h => ⟨h, hk⟩)
   have szD : w56.heap.size ≤ w56.heap.size := Nat.le_refl _
   have szmD := c57.size
   replace HC := HC.trans c57 q4
   replace ht := ht.tr c57 q1
   replace hmx := hmx.tr c57 q1
   replace hb4 := hb4.tr1 c57 (by omega)
   replace hb3 := hb3.tr1 c57 (by omega)
   replace hvc := Enc.chg hvc c57 q3
   replace szr := Nat.le_trans szr c57.size
   replace hb22 := hb22.tr1 c57 (by omega)
   refine ⟨_, fun _ h => h, ⟨(Eq.trans hb4 o51.symm), (Eq.trans hb3 o52.symm), (Eq.trans hb22 o53.symm), trivial⟩, ?_⟩
   refine sq_lit1 (ps := [(0, .tmp 17), (1, .tmp 19)]) (vs := [.int _ _, S _, .bool _, .bool _, .slice _ _ _, .slice _ _ _, .slice _ _ _, .slice _ _ _, .slice _ _ _, .int _ _, S _, .bool _, .bool _, .slice _ _ _, .slice _ _ _, .slice _ _ _, .slice _ _ _, .slice _ _ _]) rfl T.lit27 (by decide) rfl (by simp only [List.forall_mem_cons, List.not_mem_nil, false_imp_iff, implies_true, and_true]; exact ⟨rfl, rfl⟩) rfl ?_
   intro b58 w59 e60 c61 hb62
   have ge_b58 := gB e60 HC.size
   have ne_b3_b58 := nE e60 hb3.ne_size
   have gq_szr_b58 : w16.heap.size ≤ b58 := by rw [e60]; exact szr
   have gq_szD_b58 : w56.heap.size ≤ b58 := by rw [e60]; exact szD
   replace HC := HC.then c61
   replace ht := ht.tr0 c61
   replace hmx := hmx.tr0 c61
   replace hb4 := hb4.tr0 c61
   replace hb3 := hb3.tr0 c61
   replace hvc := Enc.chg hvc c61 q8
   replace szr := Nat.le_trans szr c61.size
   replace hb22 := hb22.tr0 c61
   replace hR := hR.tr0 c61
   replace hvD := Enc.chg hvD c61 q8
   replace szD := Nat.le_trans szD c61.size
   clear e60
   refine ext_T (b := b58) ⟨(Eq.trans hb4 o51.symm), (Eq.trans hb3 o52.symm), (Eq.trans hb22 o53.symm), trivial⟩ ?_
   have o63 := hb62
   refine sq_q rfl (fun W hT => r_bld (ps := [(0, .tmp 16), (7, .tmp 20)]) (vs := [.int _ _, S _, .bool _, .bool _, .slice _ _ _, .slice _ _ _, .slice _ _ _, .slice _ _ _, .slice _ _ _]) T.bld30 rfl) <| sq_store2 rfl T.size30 (v := .agg ⟨[.int _ _, S _, .bool _, .bool _, .slice _ _ _, .slice _ _ _, .slice _ _ _, .slice _ _ _, .slice _ _ _]⟩) rfl rfl rfl hb3 rfl (Nat.le_of_ble_eq_true rfl) q5 rfl ?_
   intro w64 c65 hb66; simp only [setVs, setV] at hb66
   clear hb3
   replace HC := HC.then1 c65 ge_b3
   replace ht := ht.tr c65 q1
   replace hmx := hmx.tr c65 q1
   replace hb4 := hb4.tr1 c65 ne_b2_b3
   replace hvc := Enc.chg hvc c65 q3
   replace szr := Nat.le_trans szr c65.size
   replace hR := hR.tr c65 q2
   replace hvD := Enc.chg hvD c65 q3
   replace szD := Nat.le_trans szD c65.size
   replace hb62 := hb62.tr1 c65 (Ne.symm ne_b3_b58)
   clear o51
   clear o52
   clear o53
   clear o63
   refine sq_nil <| block_n <| then_n ?_
   have oN : Own cmE 30 w64 (fun k => w.heap.size ≤ k ∧ k ≠ b2 ∧ k ≠ b3) (some ⟨b58, 0, none⟩) 2 [c, cD] := own_two hb62 ⟨by omega, by omega, by omega⟩ hvc hvD (fun k _ h => ⟨h.1, by omega⟩) (fun k _ h => ⟨⟨by omega, by omega, by omega⟩, by omega⟩)
   have hvN : cmE.R w64 (fun k => w.heap.size ≤ k ∧ k ≠ b2 ∧ k ≠ b3) (kidsC 3 [c, cD]) (cmC (kidsC 3 [c, cD]) none 0 none 0 none 0 (some ⟨b58, 0, none⟩) 2 none 0) := cm_shut ⟨.nil, .nil, .nil, oN.sl, .nil⟩ ⟨Nat.le_refl _, by decide⟩ ⟨Nat.le_refl _, by decide⟩ ⟨Nat.le_refl _, by decide⟩ oN.le ⟨Nat.le_refl _, by decide⟩
   have hkd : (if (hd Y).text = [124, 124] then (4 : Int) else 3) = 3 := if_neg hor
   refine ⟨(n, kidsC 3 [c, cD], RD, cmC (kidsC 3 [c, cD]) none 0 none 0 none 0 (some ⟨b58, 0, none⟩) 2 none 0), ?_, ?_, rfl, trivial, ?_⟩
   ·refine ⟨?_, HC, ht, hmx, hb4, hR, hb66, hvN⟩
    exact ⟨by rw [hae, andL_on hbar heD, hkd], (hsD.trans hsT).trans hsY, by have := hsT.len; have := tail_len hgY; omega, by have := hsT.len; have := tail_len hgY; omega⟩
   ·show RD.length < Y.length; have := hsT.len; omega
   exact q9
 ·try simp only [nm, ne_eq] at h0
  have hbar : isT 2 [[38, 38], [124, 124]] Y = false := by first | assumption | simp_all
  have hfin := hae.trans (andL_end hbar)
  refine x_exit <| then_x <| then_x <| block_x <| then_n <| sr rfl <| Wp rfl <| st_loadA (vs := [_, _, _, _, _, _, _, _, _]) T.agg30 rfl (hb3.cells (n := 9) (vs := [_, _, _, _, _, _, _, _, _]) rfl) rfl <| Wp rfl <| st_st (v := .agg ⟨[_, _, _, _, _, _, _, _, _]⟩) T.size30 rfl rfl rfl hb4 ?_
  intro w67 c68 hb69; simp only [setVs, setV] at hb69
  clear hb4
  replace HC := HC.then1 c68 ge_b2
  replace hR := hR.tr c68 q2
  replace hvc := Enc.chg hvc c68 q3
  replace szr := Nat.le_trans szr c68.size
  refine en <| x_ret <| pp_ret <| ret_cellA (vs := [_, _, _, _, _, _, _, _, _]) rfl rfl T.agg30 (hb69.cells (n := 9) rfl) rfl ?_
  exact ⟨c, Y, _, by rw [andG, heP]; show andL com RP.length cP RP = _; rw [hfin], hsY, hll, rfl, cmE.mono hvc (fun k _ h => h.1.1), hR, HC⟩

end Go.Proofs.YtghjmiggobpmoaaGreatDoor.K
set_option linter.unusedVariables false
set_option linter.unusedSimpArgs false
set_option autoImplicit false
set_option maxRecDepth 20000
namespace Go.Proofs.YtghjmiggobpmoaaGreatDoor.K
open Go Go.Proofs Go.RowKit

set_option maxHeartbeats 1600000 in
theorem glist_spec {Z : List Tok} {rb tb : Nat} {d : Int} {w : World} (hg : GT Z) (hz : GB Z) (hR : RdAt w rb tb d Z) (hq : QOk rb tb) (hmx : MaxT w) (ht : Tab w) {com : List Tok → Rs Cm} (hcom : ReadsC 64 com rb tb d) : CallP Tryz.prog 16 #[.pointer (some ⟨rb, 0, none⟩)] w (fun v w' => OkC (listG com Z) Z rb tb d w w' v) (fun v w' => ErT (listG com Z) Z rb w w' v) := by
 refine callP_of_wp (args := [_]) Tryz.func16 rfl (Nat.le_of_ble_eq_true rfl) ?_
 have HC : Chg [rb] w w := .refl _
 have hrl := hR.lt hg
 have hq9 := hq
 obtain ⟨hq1, hq2, hq3⟩ := hq9
 have ht1 := ht.lt
 have hm1 := hmx.lt
 have hzl := hz.1
 refine sr rfl <| Wp rfl <| st_alloc T.zero30 ?_
 intro b2 w1 e2 c3 hb4
 have ge_b2 := gB e2 HC.size
 replace HC := HC.then c3
 replace hR := hR.tr0 c3
 replace ht := ht.tr0 c3
 replace hmx := hmx.tr0 c3
 clear e2
 refine en <| sr rfl <| aL rfl <| en <| x_seq <| sr rfl <| aB rfl <| en <| x_block ?_
 have oK : Own cmE 30 w1 (fun k => w.heap.size ≤ k ∧ k ≠ b2) none 0 [] := Own.nil
 refine x_loop (ι := Nat × List Cm × List Tok × Bool × Option Addr × Nat) [3, 4, 5, 6, 7, 8, 9, 10, 11, 12, 13, 14, 15, 16, 17, 18, 19, 20, 21, 22, 23, 24, 25, 26, 27, 28, 29, 30, 31, 32, 33, 34, 35, 36, 37] (fun ⟨n, l, Y, m, A, cap⟩ => [(3, .slice A l.length cap), (4, .bool m)]) (fun ⟨n, l, Y, m, A, cap⟩ W => (listL com Z.length [] Z = (if m = true then listL com n l Y else .ok l Y) ∧ Suf Y Z ∧ (m = true → Y.length ≤ n) ∧ l.length + Y.length ≤ Z.length ∧ (1 ≤ l.length ∨ l = [] ∧ m = true)) ∧ (Chg [rb] w W) ∧ (RdAt W rb tb d Y) ∧ (Tab W) ∧ (MaxT W) ∧ (Blk W b2 [.int .i64 0, S [], .bool false, .bool false, .slice none 0 0, .slice none 0 0, .slice none 0 0, .slice none 0 0, .slice none 0 0] 30) ∧ (Own cmE 30 W (fun k => w.heap.size ≤ k ∧ k ≠ b2) A cap l)) (fun ⟨n, l, Y, m, A, cap⟩ => Y.length) (Z.length, [], Z, true, none, 0) ?_ ?_ ?_
 · exact ⟨rfl, rfl, trivial⟩
 ·refine ⟨?_, HC, hR, ht, hmx, hb4, oK⟩
  exact ⟨rfl, .refl hg, fun _ => Nat.le_refl _, by simp, .inr ⟨rfl, rfl⟩⟩
 intro ⟨n, l, Y, m, A, cap⟩ G6 w5 ⟨⟨hle, hsY, hn, hll, hl1⟩, HC, hR, ht, hmx, hb4, oK⟩
 change wp _ _ _ _ _ (upds (over _ _ G6) [(3, .slice A l.length cap), (4, .bool m)]) _ _
 replace oK := Own.mono (D' := (fun k => (w.heap.size ≤ k ∧ k ≠ b2) ∧ k < w5.heap.size)) oK (fun k hk h => ⟨h, hk⟩)
 have szr : w5.heap.size ≤ w5.heap.size := Nat.le_refl _
 have hgY := hsY.good
 have hzY := hsY.gb hz
 have hpY := hgY.pos
 refine x_seq <| sr rfl <| mB rfl <| en <| x_cond rfl (fun h0 => ?_) (fun h0 => ?_)
 ·try simp only [nm, ne_eq] at h0
  obtain rfl : m = true := by first | assumption | simp_all
  have hn := hn rfl
  obtain ⟨n, rfl⟩ : ∃ m, n = m + 1 := ⟨n - 1, by omega⟩
  refine x_skip <| then_n <| x_seq <| x_block <| sr rfl <| mP rfl ?_
  have ltA_b2 := hb4.lt
  have olA_oK := oK.lt
  have szlA := HC.size
  refine w_plain rfl (st_callP (ags := [_]) rfl rfl T.ent31 rfl (gandor_spec hgY hzY hR hq hmx ht hcom) ?_ ?_)
  ·rintro _ w7 ⟨R9, e9, he9, hs9, rfl, c8⟩
   replace HC := HC.trans c8 q4
   replace szr := Nat.le_trans szr c8.size
   refine then_p <| block_p <| then_p <| then_p <| block_p <| then_p <| pp_panic ?_
   exact ⟨R9, e9, by rw [listG]; rw [hle, if_pos rfl, listL_er he9]; rfl, hs9.trans hsY, rfl, HC⟩
  rintro _ w9 ⟨cA, RA, vsA, heA, hsA, hlA, rfl, hvA, hR, c10⟩
  obtain ⟨A1A, n1A, A2A, n2A, A3A, n3A, A4A, n4A, A5A, n5A, rfl, hAA, k1A, k2A, k3A, k4A, k5A⟩ := cm_open hvA
  replace hvA := cmE.mono hvA (D' := (fun k => w5.heap.size ≤ k ∧ k < w9.heap.size)) (fun k hk h => ⟨h, hk⟩)
  have szA : w9.heap.size ≤ w9.heap.size := Nat.le_refl _
  have szmA := c10.size
  replace HC := HC.trans c10 q4
  replace ht := ht.tr c10 q1
  replace hmx := hmx.tr c10 q1
  replace hb4 := hb4.tr1 c10 (by omega)
  replace oK := oK.tr c10 q3
  replace szr := Nat.le_trans szr c10.size
  refine Wp rfl <| st_alloc T.zero30 ?_
  intro b5 w11 e12 c13 hb14
  have ge_b5 := gB e12 HC.size
  have ne_b2_b5 := nE e12 hb4.ne_size
  have na_Kb5 : b5 ∉ ob (A) := oK.fresh (by rw [e12]; exact Nat.le_refl _)
  have gq_szr_b5 : w5.heap.size ≤ b5 := by rw [e12]; exact szr
  have gq_szA_b5 : w9.heap.size ≤ b5 := by rw [e12]; exact szA
  replace HC := HC.then c13
  replace ht := ht.tr0 c13
  replace hmx := hmx.tr0 c13
  replace hb4 := hb4.tr0 c13
  replace oK := oK.tr0 c13
  replace szr := Nat.le_trans szr c13.size
  replace hR := hR.tr0 c13
  replace hvA := Enc.chg hvA c13 q8
  replace szA := Nat.le_trans szA c13.size
  clear e12
  refine Wp rfl <| st_st (v := .agg ⟨[_, _, _, _, _, _, _, _, _]⟩) T.size30 rfl rfl rfl hb14 ?_
  intro w15 c16 hb17; simp only [setVs, setV] at hb17
  clear hb14
  replace HC := HC.then1 c16 ge_b5
  replace ht := ht.tr c16 q1
  replace hmx := hmx.tr c16 q1
  replace hb4 := hb4.tr1 c16 ne_b2_b5
  replace oK := oK.tr c16 q3
  replace szr := Nat.le_trans szr c16.size
  replace hR := hR.tr c16 q2
  replace hvA := Enc.chg hvA c16 q3
  replace szA := Nat.le_trans szA c16.size
  refine en <| x_seq <| x_seq ?_
  have hgA := hsA.good
  have hzA := hsA.gb hzY
  refine x_region rfl <| mP rfl <| Wp rfl <| st_lit (ps := [(0, .const (S [38]))]) (vs := [S _]) T.lit23 (by decide) rfl q6 rfl ?_
  intro b18 w19 e20 c21 hb22
  have ge_b18 := gB e20 HC.size
  have na_Kb18 : b18 ∉ ob (A) := oK.fresh (by rw [e20]; exact Nat.le_refl _)
  have gq_szr_b18 : w5.heap.size ≤ b18 := by rw [e20]; exact szr
  have gq_szA_b18 : w9.heap.size ≤ b18 := by rw [e20]; exact szA
  replace HC := HC.then c21
  replace ht := ht.tr0 c21
  replace hmx := hmx.tr0 c21
  replace hb4 := hb4.tr0 c21
  replace oK := oK.tr0 c21
  replace szr := Nat.le_trans szr c21.size
  replace hR := hR.tr0 c21
  replace hvA := Enc.chg hvA c21 q8
  replace szA := Nat.le_trans szA c21.size
  replace hb17 := hb17.tr0 c21
  clear e20
  refine Wp rfl <| st_call (ags := [_, _, _]) rfl rfl T.ent32 rfl (gis_spec (Z := RA) (l := [[38]]) 2 hgA hR (sl_str [[38]] hb22) (by simp)) ?_
  rintro _ w23 ⟨rfl, c24⟩
  replace HC := HC.then c24
  replace ht := ht.tr0 c24
  replace hmx := hmx.tr0 c24
  replace hb4 := hb4.tr0 c24
  replace oK := oK.tr0 c24
  replace szr := Nat.le_trans szr c24.size
  replace hR := hR.tr0 c24
  replace hvA := Enc.chg hvA c24 q8
  replace szA := Nat.le_trans szA c24.size
  replace hb17 := hb17.tr0 c24
  refine en <| x_cond rfl (fun h1 => ?_) (fun h1 => ?_)
  ·try simp only [nm, ne_eq] at h1
   have hamp : isT 2 [[38]] RA = true := by first | assumption | simp_all
   refine x_region rfl <| Wp rfl <| st_loadA (vs := [_, _, _, _, _, _, _, _, _]) T.agg30 rfl (hb17.cells (n := 9) (vs := [_, _, _, _, _, _, _, _, _]) rfl) rfl <| Wp rfl <| st_lit (ps := [(0, .tmp 17)]) (vs := [.int _ _, S _, .bool _, .bool _, .slice _ _ _, .slice _ _ _, .slice _ _ _, .slice _ _ _, .slice _ _ _]) T.lit27 (by decide) rfl q6 rfl ?_
   intro b25 w26 e27 c28 hb29
   have ge_b25 := gB e27 HC.size
   have ne_b5_b25 := nE e27 hb17.ne_size
   have na_Kb25 : b25 ∉ ob (A) := oK.fresh (by rw [e27]; exact Nat.le_refl _)
   have gq_szr_b25 : w5.heap.size ≤ b25 := by rw [e27]; exact szr
   have gq_szA_b25 : w9.heap.size ≤ b25 := by rw [e27]; exact szA
   replace HC := HC.then c28
   replace ht := ht.tr0 c28
   replace hmx := hmx.tr0 c28
   replace hb4 := hb4.tr0 c28
   replace oK := oK.tr0 c28
   replace szr := Nat.le_trans szr c28.size
   replace hR := hR.tr0 c28
   replace hvA := Enc.chg hvA c28 q8
   replace szA := Nat.le_trans szA c28.size
   replace hb17 := hb17.tr0 c28
   clear e27
   refine Wp rfl <| st_bld (ps := [(0, .const (.int .i64 6)), (7, .tmp 18)]) (vs := [.int _ _, S _, .bool _, .bool _, .slice _ _ _, .slice _ _ _, .slice _ _ _, .slice _ _ _, .slice _ _ _]) T.bld30 rfl <| Wp rfl <| st_st (v := .agg ⟨[_, _, _, _, _, _, _, _, _]⟩) T.size30 rfl rfl rfl hb17 ?_
   intro w30 c31 hb32; simp only [setVs, setV] at hb32
   clear hb17
   replace HC := HC.then1 c31 ge_b5
   replace ht := ht.tr c31 q1
   replace hmx := hmx.tr c31 q1
   replace hb4 := hb4.tr1 c31 ne_b2_b5
   replace oK := oK.tr c31 q3
   replace szr := Nat.le_trans szr c31.size
   replace hR := hR.tr c31 q2
   replace hvA := Enc.chg hvA c31 q3
   replace szA := Nat.le_trans szA c31.size
   replace hb29 := hb29.tr1 c31 (Ne.symm ne_b5_b25)
   refine en <| x_seq ?_
   replace oK := Own.mono (D' := (fun k => w.heap.size ≤ k ∧ k ≠ b2)) oK (fun k _ h => h.1)
   have oB : Own cmE 30 w30 (fun k => w5.heap.size ≤ k) (some ⟨b25, 0, none⟩) 1 [cA] := own_one hb29 (by show _ ≤ _; omega) hvA (fun k _ h => ⟨h.1, by omega⟩)
   have hvX : cmE.R w30 (fun k => w5.heap.size ≤ k) (kidsC 6 [cA]) (cmC (kidsC 6 [cA]) none 0 none 0 none 0 (some ⟨b25, 0, none⟩) 1 none 0) := cm_shut ⟨.nil, .nil, .nil, oB.sl, .nil⟩ ⟨Nat.le_refl _, by decide⟩ ⟨Nat.le_refl _, by decide⟩ ⟨Nat.le_refl _, by decide⟩ oB.le ⟨Nat.le_refl _, by decide⟩
   have hbx : backX cA RA = kidsC 6 [cA] := by unfold backX; rw [if_pos hamp]
   refine x_region rfl <| mL rfl <| Wp rfl <| st_loadA (vs := [_, _, _, _, _, _, _, _, _]) T.agg30 rfl (hb32.cells (n := 9) (vs := [_, _, _, _, _, _, _, _, _]) rfl) rfl <| Wp rfl <| st_lit (ps := [(0, .tmp 21)]) (vs := [.int _ _, S _, .bool _, .bool _, .slice _ _ _, .slice _ _ _, .slice _ _ _, .slice _ _ _, .slice _ _ _]) T.lit27 (by decide) rfl q6 rfl ?_
   intro b33 w34 e35 c36 hb37
   have ge_b33 := gB e35 HC.size
   have na_Kb33 : b33 ∉ ob (A) := oK.fresh (by rw [e35]; exact Nat.le_refl _)
   have gq_szr_b33 : w5.heap.size ≤ b33 := by rw [e35]; exact szr
   have gq_szA_b33 : w9.heap.size ≤ b33 := by rw [e35]; exact szA
   replace HC := HC.then c36
   replace ht := ht.tr0 c36
   replace hmx := hmx.tr0 c36
   replace hb4 := hb4.tr0 c36
   replace oK := oK.tr0 c36
   replace szr := Nat.le_trans szr c36.size
   replace hR := hR.tr0 c36
   replace szA := Nat.le_trans szA c36.size
   replace hvX := Enc.chg hvX c36 q8
   clear e35
   have hszA := HC.size
   refine Wp rfl <| st_append2 (c := cmE) (D2 := (fun k => w5.heap.size ≤ k)) (xs := l) (ys := [(kidsC 6 [cA])]) T.slice27 rfl rfl oK rfl rfl (one_elem hvX (hb37.cells (n := 9) rfl)) (fun k _ h => ⟨⟨by have h7 : _ ≤ k := h; omega, by have h7 : _ ≤ k := h; omega⟩, fun hk => by have h8 := olA_oK k hk; have h7 : _ ≤ k := h; omega⟩) (fun k hk => (by have h7 := HC.size; have h8 := hb4.lt; exact ⟨by omega, by omega⟩)) q7 q7 ?_
   intro A38 cap39 w40 ho41 c42 hg43
   replace HC := HC.trans c42 (fun k hk => .inr ((oK.inD k hk).1))
   replace ht := ht.tr c42 (fun hx => by first | (have h1 := (oK.inD _ hx).1; omega) | (have h1 : w.heap.size ≤ 0 := oK.inD _ hx; omega))
   replace hmx := hmx.tr c42 (by intro hx; have hD := oK.inD _ hx; omega)
   replace hb4 := hb4.tr c42 (fun hx => by first | (have h1 := oK.inD _ hx; omega) | exact na_Kb2 hx | exact hav _ hx (by simp))
   replace szr := Nat.le_trans szr c42.size
   replace hR := hR.tr c42 (by intro k hk; have hD := oK.inD k hk; omega)
   replace szA := Nat.le_trans szA c42.size
   refine aL rfl <| en <| sr rfl <| mP rfl <| Wp rfl <| st_lit (ps := [(0, .const (S [59])), (1, .const (S [38]))]) (vs := [S _, S _]) T.lit23 (by decide) rfl (by simp only [List.forall_mem_cons, List.not_mem_nil, false_imp_iff, implies_true, and_true]; exact ⟨rfl, rfl⟩) rfl ?_
   intro b44 w45 e46 c47 hb48
   have ge_b44 := gB e46 HC.size
   have na_Kb44 : b44 ∉ ob (A38) := ho41.fresh (by rw [e46]; exact Nat.le_refl _)
   have gq_szr_b44 : w5.heap.size ≤ b44 := by rw [e46]; exact szr
   have gq_szA_b44 : w9.heap.size ≤ b44 := by rw [e46]; exact szA
   replace HC := HC.then c47
   replace ht := ht.tr0 c47
   replace hmx := hmx.tr0 c47
   replace hb4 := hb4.tr0 c47
   replace ho41 := ho41.tr0 c47
   replace szr := Nat.le_trans szr c47.size
   replace hR := hR.tr0 c47
   replace szA := Nat.le_trans szA c47.size
   clear e46
   refine Wp rfl <| st_call (ags := [_, _, _]) rfl rfl T.ent32 rfl (gis_spec (Z := RA) (l := [[59], [38]]) 2 hgA hR (sl_str [[59], [38]] hb48) (by simp)) ?_
   rintro _ w49 ⟨rfl, c50⟩
   replace HC := HC.then c50
   replace ht := ht.tr0 c50
   replace hmx := hmx.tr0 c50
   replace hb4 := hb4.tr0 c50
   replace ho41 := ho41.tr0 c50
   replace szr := Nat.le_trans szr c50.size
   replace hR := hR.tr0 c50
   replace szA := Nat.le_trans szA c50.size
   refine mB rfl <| w_split (d := 27) rfl (fun g51 => ?_) (fun g51 => ?_)
   ·try simp only [nm, ne_eq] at g51
    iterate 4 refine w_no 3 27 false ?_
    refine pT rfl rfl <| aB rfl <| en <| sr rfl <| mB rfl <| en <| x_cond (t := true) rfl (fun h2 => ?_) (fun h2 => ?_)
    rotate_left
    · exact absurd h2 (by decide)
    have hmo : moreB RA = true := by first | assumption | (simp_all [moreB]; done) | (simp [moreB, *]; done)
    refine x_seq ?_
    have hk0 : (hd RA).kind ≠ 0 := by intro e; rw [moreB, isT, e] at hmo; exact absurd hmo (by simp)
    have hgT := hgA.tail hk0
    have hsL := lines_suf hgT
    have hsA2 := (Suf.tail hgA hk0).trans (hsA.trans hsY)
    refine x_region rfl <| mP rfl <| Wp rfl <| st_call (ags := [_]) rfl rfl T.ent29 rfl (gnext_spec hgA hR hq) ?_
    rintro _ w52 ⟨rfl, hR, c53⟩
    replace HC := HC.trans c53 q4
    replace ht := ht.tr c53 q1
    replace hmx := hmx.tr c53 q1
    replace hb4 := hb4.tr1 c53 (by omega)
    replace ho41 := ho41.tr c53 q3
    replace szr := Nat.le_trans szr c53.size
    replace szA := Nat.le_trans szA c53.size
    refine en <| x_region rfl <| mP rfl <| Wp rfl <| st_call (ags := [_]) rfl rfl T.ent14 rfl (glines_spec (Z := RA.tail) hgT hR hq) ?_
    rintro _ w54 ⟨hR, c55⟩
    replace HC := HC.trans c55 q4
    replace ht := ht.tr c55 q1
    replace hmx := hmx.tr c55 q1
    replace hb4 := hb4.tr1 c55 (by omega)
    replace ho41 := ho41.tr c55 q3
    replace szr := Nat.le_trans szr c55.size
    replace szA := Nat.le_trans szA c55.size
    refine wops_nil <| block_n <| then_n <| x_region rfl <| mB rfl <| mB rfl <| w_yes 1 8 true <| st_move (v := .pointer _) rfl <| w_yes 1 8 true <| st_call (ags := [_]) rfl rfl T.ent30 rfl (gstarts_spec (Z := linesG RA.tail) hsL.good hR ht) ?_
    rintro _ w56 ⟨rfl, c57⟩
    replace HC := HC.then c57
    replace ht := ht.tr0 c57
    replace hmx := hmx.tr0 c57
    replace hb4 := hb4.tr0 c57
    replace ho41 := ho41.tr0 c57
    replace szr := Nat.le_trans szr c57.size
    replace szA := Nat.le_trans szA c57.size
    replace hR := hR.tr0 c57
    refine pT rfl rfl <| aB rfl <| en <| ⟨(n, l ++ [(kidsC 6 [cA])], linesG RA.tail, startsB (linesG RA.tail), A38, cap39), ?_, ?_, rfl, ⟨rfl, rfl, trivial⟩, ?_⟩
    ·refine ⟨?_, HC, hR, ht, hmx, hb4, ho41⟩
     exact ⟨by rw [hle, if_pos rfl, listL_go heA hmo, hbx], hsL.trans hsA2, fun _ => by have := hsL.len; have := tail_len hgA; omega, by have := hsL.len; have := tail_len hgA; simp only [List.length_append, List.length_cons, List.length_nil]; omega, by simp⟩
    ·show (linesG RA.tail).length < Y.length; have := hsL.len; have := tail_len hgA; omega
    exact q9
   ·try simp only [nm, ne_eq] at g51
    refine w_yes 3 27 false <| st_move (v := .pointer _) rfl <| w_yes 3 27 false <| st_call (ags := [_]) rfl rfl T.ent15 rfl (gtok_spec (Z := RA) hgA hR) ?_
    rintro _ w58 ⟨rfl, c59⟩
    replace HC := HC.then c59
    replace ht := ht.tr0 c59
    replace hmx := hmx.tr0 c59
    replace hb4 := hb4.tr0 c59
    replace ho41 := ho41.tr0 c59
    replace szr := Nat.le_trans szr c59.size
    replace hR := hR.tr0 c59
    replace szA := Nat.le_trans szA c59.size
    refine w_yes 3 27 false <| st_field (v := .int _ _) T.fone51_0 rfl rfl <| w_yes 3 27 false <| st_eql rfl rfl <| pF rfl rfl <| aB rfl <| en <| sr rfl <| mB rfl <| en <| x_cond rfl (fun h2 => ?_) (fun h2 => ?_)
    ·try simp only [nm, ne_eq] at h2
     have hmo : moreB RA = true := by first | assumption | (simp_all [moreB]; done) | (simp [moreB, *]; done)
     refine x_seq ?_
     have hk0 : (hd RA).kind ≠ 0 := by intro e; rw [moreB, isT, e] at hmo; exact absurd hmo (by simp)
     have hgT := hgA.tail hk0
     have hsL := lines_suf hgT
     have hsA2 := (Suf.tail hgA hk0).trans (hsA.trans hsY)
     refine x_region rfl <| mP rfl <| Wp rfl <| st_call (ags := [_]) rfl rfl T.ent29 rfl (gnext_spec hgA hR hq) ?_
     rintro _ w60 ⟨rfl, hR, c61⟩
     replace HC := HC.trans c61 q4
     replace ht := ht.tr c61 q1
     replace hmx := hmx.tr c61 q1
     replace hb4 := hb4.tr1 c61 (by omega)
     replace ho41 := ho41.tr c61 q3
     replace szr := Nat.le_trans szr c61.size
     replace szA := Nat.le_trans szA c61.size
     refine en <| x_region rfl <| mP rfl <| Wp rfl <| st_call (ags := [_]) rfl rfl T.ent14 rfl (glines_spec (Z := RA.tail) hgT hR hq) ?_
     rintro _ w62 ⟨hR, c63⟩
     replace HC := HC.trans c63 q4
     replace ht := ht.tr c63 q1
     replace hmx := hmx.tr c63 q1
     replace hb4 := hb4.tr1 c63 (by omega)
     replace ho41 := ho41.tr c63 q3
     replace szr := Nat.le_trans szr c63.size
     replace szA := Nat.le_trans szA c63.size
     refine wops_nil <| block_n <| then_n <| x_region rfl <| mB rfl <| mB rfl <| w_split (d := 8) rfl (fun g64 => ?_) (fun g64 => ?_)
     ·try simp only [nm, ne_eq] at g64
      refine w_yes 1 8 true <| st_move (v := .pointer _) rfl <| w_yes 1 8 true <| st_call (ags := [_]) rfl rfl T.ent30 rfl (gstarts_spec (Z := linesG RA.tail) hsL.good hR ht) ?_
      rintro _ w65 ⟨rfl, c66⟩
      replace HC := HC.then c66
      replace ht := ht.tr0 c66
      replace hmx := hmx.tr0 c66
      replace hb4 := hb4.tr0 c66
      replace ho41 := ho41.tr0 c66
      replace szr := Nat.le_trans szr c66.size
      replace szA := Nat.le_trans szA c66.size
      replace hR := hR.tr0 c66
      refine pT rfl rfl <| aB rfl <| en <| ⟨(n, l ++ [(kidsC 6 [cA])], linesG RA.tail, startsB (linesG RA.tail), A38, cap39), ?_, ?_, rfl, ⟨rfl, rfl, trivial⟩, ?_⟩
      ·refine ⟨?_, HC, hR, ht, hmx, hb4, ho41⟩
       exact ⟨by rw [hle, if_pos rfl, listL_go heA hmo, hbx], hsL.trans hsA2, fun _ => by have := hsL.len; have := tail_len hgA; omega, by have := hsL.len; have := tail_len hgA; simp only [List.length_append, List.length_cons, List.length_nil]; omega, by simp⟩
      ·show (linesG RA.tail).length < Y.length; have := hsL.len; have := tail_len hgA; omega
      exact q9
     ·try simp only [nm, ne_eq] at g64
      exfalso; simp_all
    ·try simp only [nm, ne_eq] at h2
     have hmo : moreB RA = false := by first | assumption | (simp_all [moreB]; done) | (simp [moreB, *]; done)
     refine x_skip <| block_n <| then_n <| x_region rfl <| mB rfl <| mB rfl <| w_split (d := 8) rfl (fun g67 => ?_) (fun g67 => ?_)
     ·try simp only [nm, ne_eq] at g67
      exfalso; simp_all
     ·try simp only [nm, ne_eq] at g67
      refine w_no 1 8 true <| w_no 1 8 true <| pF rfl rfl <| aB rfl <| en <| ⟨(n, l ++ [(kidsC 6 [cA])], RA, false, A38, cap39), ?_, ?_, rfl, ⟨rfl, rfl, trivial⟩, ?_⟩
      ·refine ⟨?_, HC, hR, ht, hmx, hb4, ho41⟩
       exact ⟨by rw [hle, if_pos rfl, listL_stop heA hmo, hbx]; rfl, hsA.trans hsY, (fun h => nomatch h), by simp only [List.length_append, List.length_cons, List.length_nil]; omega, by simp⟩
      ·show RA.length < Y.length; omega
      exact q9
  ·try simp only [nm, ne_eq] at h1
   have hamp : isT 2 [[38]] RA = false := by first | assumption | simp_all
   refine x_skip <| then_n <| x_seq ?_
   replace oK := Own.mono (D' := (fun k => w.heap.size ≤ k ∧ k ≠ b2)) oK (fun k _ h => h.1)
   have hvX : cmE.R w23 (fun k => w5.heap.size ≤ k) cA (cmC cA A1A n1A A2A n2A A3A n3A A4A n4A A5A n5A) := cmE.mono hvA (fun k _ h => h.1)
   have hbx : backX cA RA = cA := by unfold backX; rw [if_neg (by rw [hamp]; simp)]
   refine x_region rfl <| mL rfl <| Wp rfl <| st_loadA (vs := [_, _, _, _, _, _, _, _, _]) T.agg30 rfl (hb17.cells (n := 9) (vs := [_, _, _, _, _, _, _, _, _]) rfl) rfl <| Wp rfl <| st_lit (ps := [(0, .tmp 21)]) (vs := [.int _ _, S _, .bool _, .bool _, .slice _ _ _, .slice _ _ _, .slice _ _ _, .slice _ _ _, .slice _ _ _]) T.lit27 (by decide) rfl q6 rfl ?_
   intro b68 w69 e70 c71 hb72
   have ge_b68 := gB e70 HC.size
   have na_Kb68 : b68 ∉ ob (A) := oK.fresh (by rw [e70]; exact Nat.le_refl _)
   have gq_szr_b68 : w5.heap.size ≤ b68 := by rw [e70]; exact szr
   have gq_szA_b68 : w9.heap.size ≤ b68 := by rw [e70]; exact szA
   replace HC := HC.then c71
   replace ht := ht.tr0 c71
   replace hmx := hmx.tr0 c71
   replace hb4 := hb4.tr0 c71
   replace oK := oK.tr0 c71
   replace szr := Nat.le_trans szr c71.size
   replace hR := hR.tr0 c71
   replace szA := Nat.le_trans szA c71.size
   replace hvX := Enc.chg hvX c71 q8
   clear e70
   have hszA := HC.size
   refine Wp rfl <| st_append2 (c := cmE) (D2 := (fun k => w5.heap.size ≤ k)) (xs := l) (ys := [cA]) T.slice27 rfl rfl oK rfl rfl (one_elem hvX (hb72.cells (n := 9) rfl)) (fun k _ h => ⟨⟨by have h7 : _ ≤ k := h; omega, by have h7 : _ ≤ k := h; omega⟩, fun hk => by have h8 := olA_oK k hk; have h7 : _ ≤ k := h; omega⟩) (fun k hk => (by have h7 := HC.size; have h8 := hb4.lt; exact ⟨by omega, by omega⟩)) q7 q7 ?_
   intro A73 cap74 w75 ho76 c77 hg78
   replace HC := HC.trans c77 (fun k hk => .inr ((oK.inD k hk).1))
   replace ht := ht.tr c77 (fun hx => by first | (have h1 := (oK.inD _ hx).1; omega) | (have h1 : w.heap.size ≤ 0 := oK.inD _ hx; omega))
   replace hmx := hmx.tr c77 (by intro hx; have hD := oK.inD _ hx; omega)
   replace hb4 := hb4.tr c77 (fun hx => by first | (have h1 := oK.inD _ hx; omega) | exact na_Kb2 hx | exact hav _ hx (by simp))
   replace szr := Nat.le_trans szr c77.size
   replace hR := hR.tr c77 (by intro k hk; have hD := oK.inD k hk; omega)
   replace szA := Nat.le_trans szA c77.size
   refine aL rfl <| en <| sr rfl <| mP rfl <| Wp rfl <| st_lit (ps := [(0, .const (S [59])), (1, .const (S [38]))]) (vs := [S _, S _]) T.lit23 (by decide) rfl (by simp only [List.forall_mem_cons, List.not_mem_nil, false_imp_iff, implies_true, and_true]; exact ⟨rfl, rfl⟩) rfl ?_
   intro b79 w80 e81 c82 hb83
   have ge_b79 := gB e81 HC.size
   have na_Kb79 : b79 ∉ ob (A73) := ho76.fresh (by rw [e81]; exact Nat.le_refl _)
   have gq_szr_b79 : w5.heap.size ≤ b79 := by rw [e81]; exact szr
   have gq_szA_b79 : w9.heap.size ≤ b79 := by rw [e81]; exact szA
   replace HC := HC.then c82
   replace ht := ht.tr0 c82
   replace hmx := hmx.tr0 c82
   replace hb4 := hb4.tr0 c82
   replace ho76 := ho76.tr0 c82
   replace szr := Nat.le_trans szr c82.size
   replace hR := hR.tr0 c82
   replace szA := Nat.le_trans szA c82.size
   clear e81
   refine Wp rfl <| st_call (ags := [_, _, _]) rfl rfl T.ent32 rfl (gis_spec (Z := RA) (l := [[59], [38]]) 2 hgA hR (sl_str [[59], [38]] hb83) (by simp)) ?_
   rintro _ w84 ⟨rfl, c85⟩
   replace HC := HC.then c85
   replace ht := ht.tr0 c85
   replace hmx := hmx.tr0 c85
   replace hb4 := hb4.tr0 c85
   replace ho76 := ho76.tr0 c85
   replace szr := Nat.le_trans szr c85.size
   replace hR := hR.tr0 c85
   replace szA := Nat.le_trans szA c85.size
   refine mB rfl <| w_split (d := 27) rfl (fun g86 => ?_) (fun g86 => ?_)
   ·try simp only [nm, ne_eq] at g86
    iterate 4 refine w_no 3 27 false ?_
    refine pT rfl rfl <| aB rfl <| en <| sr rfl <| mB rfl <| en <| x_cond (t := true) rfl (fun h2 => ?_) (fun h2 => ?_)
    rotate_left
    · exact absurd h2 (by decide)
    have hmo : moreB RA = true := by first | assumption | (simp_all [moreB]; done) | (simp [moreB, *]; done)
    refine x_seq ?_
    have hk0 : (hd RA).kind ≠ 0 := by intro e; rw [moreB, isT, e] at hmo; exact absurd hmo (by simp)
    have hgT := hgA.tail hk0
    have hsL := lines_suf hgT
    have hsA2 := (Suf.tail hgA hk0).trans (hsA.trans hsY)
    refine x_region rfl <| mP rfl <| Wp rfl <| st_call (ags := [_]) rfl rfl T.ent29 rfl (gnext_spec hgA hR hq) ?_
    rintro _ w87 ⟨rfl, hR, c88⟩
    replace HC := HC.trans c88 q4
    replace ht := ht.tr c88 q1
    replace hmx := hmx.tr c88 q1
    replace hb4 := hb4.tr1 c88 (by omega)
    replace ho76 := ho76.tr c88 q3
    replace szr := Nat.le_trans szr c88.size
    replace szA := Nat.le_trans szA c88.size
    refine en <| x_region rfl <| mP rfl <| Wp rfl <| st_call (ags := [_]) rfl rfl T.ent14 rfl (glines_spec (Z := RA.tail) hgT hR hq) ?_
    rintro _ w89 ⟨hR, c90⟩
    replace HC := HC.trans c90 q4
    replace ht := ht.tr c90 q1
    replace hmx := hmx.tr c90 q1
    replace hb4 := hb4.tr1 c90 (by omega)
    replace ho76 := ho76.tr c90 q3
    replace szr := Nat.le_trans szr c90.size
    replace szA := Nat.le_trans szA c90.size
    refine wops_nil <| block_n <| then_n <| x_region rfl <| mB rfl <| mB rfl <| w_yes 1 8 true <| st_move (v := .pointer _) rfl <| w_yes 1 8 true <| st_call (ags := [_]) rfl rfl T.ent30 rfl (gstarts_spec (Z := linesG RA.tail) hsL.good hR ht) ?_
    rintro _ w91 ⟨rfl, c92⟩
    replace HC := HC.then c92
    replace ht := ht.tr0 c92
    replace hmx := hmx.tr0 c92
    replace hb4 := hb4.tr0 c92
    replace ho76 := ho76.tr0 c92
    replace szr := Nat.le_trans szr c92.size
    replace szA := Nat.le_trans szA c92.size
    replace hR := hR.tr0 c92
    refine pT rfl rfl <| aB rfl <| en <| ⟨(n, l ++ [cA], linesG RA.tail, startsB (linesG RA.tail), A73, cap74), ?_, ?_, rfl, ⟨rfl, rfl, trivial⟩, ?_⟩
    ·refine ⟨?_, HC, hR, ht, hmx, hb4, ho76⟩
     exact ⟨by rw [hle, if_pos rfl, listL_go heA hmo, hbx], hsL.trans hsA2, fun _ => by have := hsL.len; have := tail_len hgA; omega, by have := hsL.len; have := tail_len hgA; simp only [List.length_append, List.length_cons, List.length_nil]; omega, by simp⟩
    ·show (linesG RA.tail).length < Y.length; have := hsL.len; have := tail_len hgA; omega
    exact q9
   ·try simp only [nm, ne_eq] at g86
    refine w_yes 3 27 false <| st_move (v := .pointer _) rfl <| w_yes 3 27 false <| st_call (ags := [_]) rfl rfl T.ent15 rfl (gtok_spec (Z := RA) hgA hR) ?_
    rintro _ w93 ⟨rfl, c94⟩
    replace HC := HC.then c94
    replace ht := ht.tr0 c94
    replace hmx := hmx.tr0 c94
    replace hb4 := hb4.tr0 c94
    replace ho76 := ho76.tr0 c94
    replace szr := Nat.le_trans szr c94.size
    replace hR := hR.tr0 c94
    replace szA := Nat.le_trans szA c94.size
    refine w_yes 3 27 false <| st_field (v := .int _ _) T.fone51_0 rfl rfl <| w_yes 3 27 false <| st_eql rfl rfl <| pF rfl rfl <| aB rfl <| en <| sr rfl <| mB rfl <| en <| x_cond rfl (fun h2 => ?_) (fun h2 => ?_)
    ·try simp only [nm, ne_eq] at h2
     have hmo : moreB RA = true := by first | assumption | (simp_all [moreB]; done) | (simp [moreB, *]; done)
     refine x_seq ?_
     have hk0 : (hd RA).kind ≠ 0 := by intro e; rw [moreB, isT, e] at hmo; exact absurd hmo (by simp)
     have hgT := hgA.tail hk0
     have hsL := lines_suf hgT
     have hsA2 := (Suf.tail hgA hk0).trans (hsA.trans hsY)
     refine x_region rfl <| mP rfl <| Wp rfl <| st_call (ags := [_]) rfl rfl T.ent29 rfl (gnext_spec hgA hR hq) ?_
     rintro _ w95 ⟨rfl, hR, c96⟩
     replace HC := HC.trans c96 q4
     replace ht := ht.tr c96 q1
     replace hmx := hmx.tr c96 q1
     replace hb4 := hb4.tr1 c96 (by omega)
     replace ho76 := ho76.tr c96 q3
     replace szr := Nat.le_trans szr c96.size
     replace szA := Nat.le_trans szA c96.size
     refine en <| x_region rfl <| mP rfl <| Wp rfl <| st_call (ags := [_]) rfl rfl T.ent14 rfl (glines_spec (Z := RA.tail) hgT hR hq) ?_
     rintro _ w97 ⟨hR, c98⟩
     replace HC := HC.trans c98 q4
     replace ht := ht.tr c98 q1
     replace hmx := hmx.tr c98 q1
     replace hb4 := hb4.tr1 c98 (by omega)
     replace ho76 := ho76.tr c98 q3
     replace szr := Nat.le_trans szr c98.size
     replace szA := Nat.le_trans szA c98.size
     refine wops_nil <| block_n <| then_n <| x_region rfl <| mB rfl <| mB rfl <| w_split (d := 8) rfl (fun g99 => ?_) (fun g99 => ?_)
     ·try simp only [nm, ne_eq] at g99
      refine w_yes 1 8 true <| st_move (v := .pointer _) rfl <| w_yes 1 8 true <| st_call (ags := [_]) rfl rfl T.ent30 rfl (gstarts_spec (Z := linesG RA.tail) hsL.good hR ht) ?_
      rintro _ w100 ⟨rfl, c101⟩
      replace HC := HC.then c101
      replace ht := ht.tr0 c101
      replace hmx := hmx.tr0 c101
      replace hb4 := hb4.tr0 c101
      replace ho76 := ho76.tr0 c101
      replace szr := Nat.le_trans szr c101.size
      replace szA := Nat.le_trans szA c101.size
      replace hR := hR.tr0 c101
      refine pT rfl rfl <| aB rfl <| en <| ⟨(n, l ++ [cA], linesG RA.tail, startsB (linesG RA.tail), A73, cap74), ?_, ?_, rfl, ⟨rfl, rfl, trivial⟩, ?_⟩
      ·refine ⟨?_, HC, hR, ht, hmx, hb4, ho76⟩
       exact ⟨by rw [hle, if_pos rfl, listL_go heA hmo, hbx], hsL.trans hsA2, fun _ => by have := hsL.len; have := tail_len hgA; omega, by have := hsL.len; have := tail_len hgA; simp only [List.length_append, List.length_cons, List.length_nil]; omega, by simp⟩
      ·show (linesG RA.tail).length < Y.length; have := hsL.len; have := tail_len hgA; omega
      exact q9
     ·try simp only [nm, ne_eq] at g99
      exfalso; simp_all
    ·try simp only [nm, ne_eq] at h2
     have hmo : moreB RA = false := by first | assumption | (simp_all [moreB]; done) | (simp [moreB, *]; done)
     refine x_skip <| block_n <| then_n <| x_region rfl <| mB rfl <| mB rfl <| w_split (d := 8) rfl (fun g102 => ?_) (fun g102 => ?_)
     ·try simp only [nm, ne_eq] at g102
      exfalso; simp_all
     ·try simp only [nm, ne_eq] at g102
      refine w_no 1 8 true <| w_no 1 8 true <| pF rfl rfl <| aB rfl <| en <| ⟨(n, l ++ [cA], RA, false, A73, cap74), ?_, ?_, rfl, ⟨rfl, rfl, trivial⟩, ?_⟩
      ·refine ⟨?_, HC, hR, ht, hmx, hb4, ho76⟩
       exact ⟨by rw [hle, if_pos rfl, listL_stop heA hmo, hbx]; rfl, hsA.trans hsY, (fun h => nomatch h), by simp only [List.length_append, List.length_cons, List.length_nil]; omega, by simp⟩
      ·show RA.length < Y.length; omega
      exact q9
 ·try simp only [nm, ne_eq] at h0
  obtain rfl : m = false := by first | assumption | simp_all
  have hfin : listL com Z.length [] Z = .ok l Y := hle
  have hl1 : 1 ≤ l.length := hl1.resolve_right (fun h => nomatch h.2)
  refine x_exit <| then_x <| then_x <| block_x <| then_n <| x_seq <| sr rfl <| mL rfl <| Wp rfl <| st_len (ct := #[27]) (by rw [show ((#[27] : Array TypeId)[0]?).bind Tryz.prog.underlying = some (.slice 30) from T.u27]; rfl) rfl <| Wp rfl <| st_eql rfl rfl <| en <| x_cond rfl (fun h3 => ?_) (fun h3 => ?_)
  ·try simp only [nm, ne_eq] at h3
   obtain ⟨c0, rfl⟩ := List.length_eq_one_iff.1 (show l.length = 1 by omega)
   have hslo := oK.sl
   refine sr rfl <| mL rfl ?_
   obtain ⟨lb107, _, vs106, hA103, hR105, hC104⟩ := hslo.at (i := 0) (x := c0) (rfl)
   have hvE := hR105
   obtain ⟨A1E, n1E, A2E, n2E, A3E, n3E, A4E, n4E, A5E, n5E, rfl, hAE, k1E, k2E, k3E, k4E, k5E⟩ := cm_open hR105
   refine Wp rfl <| st_indexAddr T.u27 T.size30 (congrArg (fun z => Value.slice z _ _) hA103) rfl (by decide) (by simp) <| Wp rfl <| st_loadA (vs := [_, _, _, _, _, _, _, _, _]) T.agg30 rfl hC104 rfl <| Wp rfl <| st_st (v := .agg ⟨[_, _, _, _, _, _, _, _, _]⟩) T.size30 rfl rfl rfl hb4 ?_
   intro w108 c109 hb110; simp only [setVs, setV] at hb110
   clear hb4
   replace HC := HC.then1 c109 ge_b2
   replace hR := hR.tr c109 q2
   replace szr := Nat.le_trans szr c109.size
   replace hvE := Enc.chg hvE c109 q3
   refine en <| x_ret <| then_r <| pp_ret <| ret_cellA (vs := [_, _, _, _, _, _, _, _, _]) rfl rfl T.agg30 (hb110.cells (n := 9) rfl) rfl <| ⟨_, Y, _, by rw [listG]; rw [hfin]; rfl, hsY, by simp only [List.length_cons, List.length_nil] at hll; omega, rfl, ?_, hR, HC⟩
   rw [show listC [c0] = c0 by simp [listC]]
   exact cmE.mono hvE (fun k _ h => h.1.1)
  ·try simp only [nm, ne_eq] at h3
   refine x_skip <| then_n <| sr rfl <| mL rfl <| Wp rfl <| st_bld (ps := [(0, .const (.int .i64 5)), (7, .tmp 44)]) (vs := [.int _ _, S _, .bool _, .bool _, .slice _ _ _, .slice _ _ _, .slice _ _ _, .slice _ _ _, .slice _ _ _]) T.bld30 rfl <| Wp rfl <| st_st (v := .agg ⟨[_, _, _, _, _, _, _, _, _]⟩) T.size30 rfl rfl rfl hb4 ?_
   intro w111 c112 hb113; simp only [setVs, setV] at hb113
   clear hb4
   replace HC := HC.then1 c112 ge_b2
   replace hR := hR.tr c112 q2
   replace oK := oK.tr c112 q3
   replace szr := Nat.le_trans szr c112.size
   refine en <| x_ret <| pp_ret <| ret_cellA (vs := [_, _, _, _, _, _, _, _, _]) rfl rfl T.agg30 (hb113.cells (n := 9) rfl) rfl <| ⟨_, Y, _, by rw [listG]; rw [hfin]; rfl, hsY, by omega, rfl, ?_, hR, HC⟩
   rw [show listC l = kidsC 5 l by unfold listC; rw [if_neg (by omega)]]
   exact cm_shut (c := .mk 5 [] false false [] [] [] l []) ⟨.nil, .nil, .nil, oK.sl.mono (fun k _ h => h.1.1), .nil⟩ ⟨Nat.le_refl _, by decide⟩ ⟨Nat.le_refl _, by decide⟩ ⟨Nat.le_refl _, by decide⟩ oK.le ⟨Nat.le_refl _, by decide⟩

theorem gbody_spec {Z : List Tok} {rb tb : Nat} {d : Int} {w : World} (hg : GT Z) (hz : GB Z) (hR : RdAt w rb tb d Z) (hq : QOk rb tb) (hmx : MaxT w) (ht : Tab w) {com : List Tok → Rs Cm} (hcom : ReadsC 64 com rb tb d) : CallP Tryz.prog 97 #[.pointer (some ⟨rb, 0, none⟩)] w (fun v w' => OkC (bodyG com Z) Z rb tb d w w' v) (fun v w' => ErT (bodyG com Z) Z rb w w' v) := by
 refine callP_of_wp (args := [_]) Tryz.func97 rfl (Nat.le_of_ble_eq_true rfl) ?_
 have HC : Chg [rb] w w := .refl _
 have hrl := hR.lt hg
 have hq9 := hq
 obtain ⟨hq1, hq2, hq3⟩ := hq9
 have ht1 := ht.lt
 have hm1 := hmx.lt
 have hzl := hz.1
 refine sr rfl <| Wp rfl <| st_alloc T.zero30 ?_
 intro b2 w1 e2 c3 hb4
 have ge_b2 := gB e2 HC.size
 replace HC := HC.then c3
 replace hR := hR.tr0 c3
 replace ht := ht.tr0 c3
 replace hmx := hmx.tr0 c3
 clear e2
 refine en <| sr rfl <| mP rfl <| Wp rfl <| st_call (ags := [_]) rfl rfl T.ent14 rfl (glines_spec (Z := Z) hg hR hq) ?_
 rintro _ w5 ⟨hR, c6⟩
 replace HC := HC.trans c6 q4
 replace ht := ht.tr c6 q1
 replace hmx := hmx.tr c6 q1
 replace hb4 := hb4.tr1 c6 (by omega)
 refine en <| x_seq ?_
 have hsL := lines_suf hg
 have hgL := hsL.good
 have hzL := hsL.gb hz
 refine x_region rfl <| mP rfl ?_
 have ltM_b2 := hb4.lt
 have szlM := HC.size
 refine w_plain rfl (st_callP (ags := [_]) rfl rfl T.ent16 rfl (glist_spec hgL hzL hR hq hmx ht hcom) ?_ ?_)
 ·rintro _ w7 ⟨R9, e9, he9, hs9, rfl, c8⟩
  replace HC := HC.trans c8 q4
  refine then_p <| pp_panic ?_
  exact ⟨R9, e9, by rw [bodyG, he9], hs9.trans hsL, rfl, HC⟩
 rintro _ w9 ⟨cM, RL, vsM, heM, hsM, hlM, rfl, hvM, hR, c10⟩
 obtain ⟨A1M, n1M, A2M, n2M, A3M, n3M, A4M, n4M, A5M, n5M, rfl, hAM, k1M, k2M, k3M, k4M, k5M⟩ := cm_open hvM
 replace hvM := cmE.mono hvM (D' := (fun k => w5.heap.size ≤ k ∧ k < w9.heap.size)) (fun k hk h => ⟨h, hk⟩)
 have szM : w9.heap.size ≤ w9.heap.size := Nat.le_refl _
 have szmM := c10.size
 replace HC := HC.trans c10 q4
 replace hb4 := hb4.tr1 c10 (by omega)
 refine Wp rfl <| st_st (v := .agg ⟨[_, _, _, _, _, _, _, _, _]⟩) T.size30 rfl rfl rfl hb4 ?_
 intro w11 c12 hb13; simp only [setVs, setV] at hb13
 clear hb4
 replace HC := HC.then1 c12 ge_b2
 replace hR := hR.tr c12 q2
 replace hvM := Enc.chg hvM c12 q3
 replace szM := Nat.le_trans szM c12.size
 refine en <| x_ret <| pp_ret <| ret_cellA (vs := [_, _, _, _, _, _, _, _, _]) rfl rfl T.agg30 (hb13.cells (n := 9) rfl) rfl ?_
 exact ⟨cM, RL, _, by rw [bodyG, heM], hsM.trans hsL, by have := hsL.len; omega, rfl, cmE.mono hvM (fun k _ h => by have := h.1; show _ ≤ k; omega), hR, HC⟩

end Go.Proofs.YtghjmiggobpmoaaGreatDoor.K
