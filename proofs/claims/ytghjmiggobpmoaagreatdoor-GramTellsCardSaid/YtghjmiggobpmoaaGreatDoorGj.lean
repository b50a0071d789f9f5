import Derived.Test.YtghjmiggobpmoaaGreatDoorTok
import Derived.Test.YtghjmiggobpmoaaGreatDoorGi
set_option linter.unusedVariables false
set_option linter.unusedSimpArgs false
set_option autoImplicit false
set_option maxRecDepth 20000
namespace Go.Proofs.YtghjmiggobpmoaaGreatDoor.K
open Go Go.Proofs Go.RowKit

theorem it_shut {w : World} {D : Nat → Prop} {x : List Bytes × List Cm} {A1 A2 : Option Addr} {c1 c2 : Nat} (h1 : Sl sE w D A1 x.1) (k1 : capOk x.1.length c1) (h2 : Sl cmE w D A2 x.2) (k2 : capOk x.2.length c2) : itE.R w D x [.slice A1 x.1.length c1, .slice A2 x.2.length c2] :=
  ⟨[_], [_], rfl, ⟨A1, c1, rfl, k1.1, k1.2, h1⟩, ⟨A2, c2, rfl, k2.1, k2.2, h2⟩⟩
def OkI (g : Rs (List Bytes × List Cm)) (Z : List Tok) (rb tb : Nat) (d : Int) (w w' : World) (v : Value) : Prop := ∃ x R A1 c1 A2 c2, g = .ok x R ∧ Suf R Z ∧ R.length < Z.length ∧ v = .agg ⟨[.slice A1 x.1.length c1, .slice A2 x.2.length c2]⟩ ∧ itE.R w' (fun k => w.heap.size ≤ k) x [.slice A1 x.1.length c1, .slice A2 x.2.length c2] ∧ RdAt w' rb tb d R ∧ Chg [rb] w w'
theorem own_oneS {w : World} {D : Nat → Prop} {b : Nat} {s : Bytes} (hb : Blk w b [S s] 9) (hD : D b) : Own sE 9 w D (some ⟨b, 0, none⟩) 1 [s] := Own.of_blk (xs := [s]) hb hD (by simp) (Chunks.one rfl)
theorem itemsG_end {com : List Tok → Rs Cm} {n : Nat} {l : List (List Bytes × List Cm)} {Y : List Tok} (h : isT 1 [[101, 115, 97, 99]] Y = true) : itemsG com (n + 1) l Y = .ok l Y := by rw [itemsG, if_pos h]
theorem itemsG_on {com : List Tok → Rs Cm} {n : Nat} {l : List (List Bytes × List Cm)} {Y R : List Tok} {x : List Bytes × List Cm} (h : isT 1 [[101, 115, 97, 99]] Y = false) (hx : itemG com Y = .ok x R) : itemsG com (n + 1) l Y = if isT 2 [[59, 59]] R = true then itemsG com n (l ++ [x]) (linesG R.tail) else .ok (l ++ [x]) R := by
  rw [itemsG, if_neg (by rw [h]; simp), hx]; rfl
theorem itemsG_er {com : List Tok → Rs Cm} {n : Nat} {l : List (List Bytes × List Cm)} {Y R : List Tok} {e : Int} (h : isT 1 [[101, 115, 97, 99]] Y = false) (hx : itemG com Y = .er R e) : itemsG com (n + 1) l Y = .er R e := by
  rw [itemsG, if_neg (by rw [h]; simp), hx]; rfl

set_option maxHeartbeats 1600000 in
theorem gitem_spec {Z : List Tok} {rb tb : Nat} {d : Int} {w : World} (hg : GT Z) (hz : GB Z) (hR : RdAt w rb tb d Z) (hq : QOk rb tb) (hmx : MaxT w) (ht : Tab w) {com : List Tok → Rs Cm} (hcom : ReadsC 64 com rb tb d) : CallP Tryz.prog 115 #[.pointer (some ⟨rb, 0, none⟩)] w (fun v w' => OkI (itemG com Z) Z rb tb d w w' v) (fun v w' => ErT (itemG com Z) Z rb w w' v) := by
 refine callP_of_wp (args := [_]) Tryz.func115 rfl (Nat.le_of_ble_eq_true rfl) ?_
 have HC : Chg [rb] w w := .refl _
 have hrl := hR.lt hg
 have hq9 := hq
 obtain ⟨hq1, hq2, hq3⟩ := hq9
 have ht1 := ht.lt
 have hm1 := hmx.lt
 have hzl := hz.1
 refine sr rfl <| Wp rfl <| st_alloc T.zero59 ?_
 intro b2 w1 e2 c3 hb4
 have ge_b2 := gB e2 HC.size
 replace HC := HC.then c3
 replace hR := hR.tr0 c3
 replace ht := ht.tr0 c3
 replace hmx := hmx.tr0 c3
 clear e2
 refine en <| sr rfl <| mP rfl <| Wp rfl <| st_lit (ps := [(0, .const (S [40]))]) (vs := [S _]) T.lit23 (by decide) rfl q6 rfl ?_
 intro b5 w6 e7 c8 hb9
 have ge_b5 := gB e7 HC.size
 replace HC := HC.then c8
 replace hR := hR.tr0 c8
 replace ht := ht.tr0 c8
 replace hmx := hmx.tr0 c8
 replace hb4 := hb4.tr0 c8
 clear e7
 refine Wp rfl <| st_call (ags := [_, _, _]) rfl rfl T.ent63 rfl (gtake_spec (Z := Z) (l := [[40]]) 2 hg hR hq (sl_str [[40]] hb9) (by simp)) ?_
 rintro _ w10 ⟨rfl, hR, c11⟩
 replace HC := HC.trans c11 q4
 replace ht := ht.tr c11 q1
 replace hmx := hmx.tr c11 q1
 replace hb4 := hb4.tr1 c11 (by omega)
 refine en <| x_seq ?_
 have hsY0 := suf_take (k := 2) (l := [[40]]) hg (by decide)
 have hgY0 := hsY0.good
 refine x_region rfl <| mP rfl <| w_plain rfl (st_callP (ags := [_]) rfl rfl T.ent114 rfl (gany_spec (Z := (if isT 2 [[40]] Z = true then Z.tail else Z)) hgY0 hR hq) ?_ ?_)
 ·rintro _ w12 ⟨hyA, rfl, c13⟩
  replace HC := HC.trans c13 q4
  refine then_p <| pp_panic ?_
  exact ⟨_, _, by simp only [itemG, any_er hyA, Rs.bind], hsY0, rfl, HC⟩
 rintro _ w14 ⟨hyA, rfl, hR, c15⟩
 replace HC := HC.trans c15 q4
 replace ht := ht.tr c15 q1
 replace hmx := hmx.tr c15 q1
 replace hb4 := hb4.tr1 c15 (by omega)
 refine Wp rfl <| st_field (v := S _) T.fone51_1 rfl rfl <| Wp rfl <| st_lit (ps := [(0, .tmp 9)]) (vs := [S _]) T.lit23 (by decide) rfl q6 rfl ?_
 intro b16 w17 e18 c19 hb20
 have ge_b16 := gB e18 HC.size
 have ne_b2_b16 := nE e18 hb4.ne_size
 replace HC := HC.then c19
 replace ht := ht.tr0 c19
 replace hmx := hmx.tr0 c19
 replace hb4 := hb4.tr0 c19
 replace hR := hR.tr0 c19
 clear e18
 refine Wp rfl <| st_bld (ps := [(0, .tmp 10)]) (vs := [.slice _ _ _, .slice _ _ _]) T.bld59 rfl <| Wp rfl <| st_alloc T.zero59 ?_
 intro b3 w21 e22 c23 hb24
 have ge_b3 := gB e22 HC.size
 have ne_b2_b3 := nE e22 hb4.ne_size
 have ne_b16_b3 := nE e22 hb20.ne_size
 replace HC := HC.then c23
 replace ht := ht.tr0 c23
 replace hmx := hmx.tr0 c23
 replace hb4 := hb4.tr0 c23
 replace hR := hR.tr0 c23
 replace hb20 := hb20.tr0 c23
 clear e22
 refine Wp rfl <| st_st (v := .agg ⟨[_, _]⟩) T.size59 rfl rfl rfl hb24 ?_
 intro w25 c26 hb27; simp only [setVs, setV] at hb27
 clear hb24
 replace HC := HC.then1 c26 ge_b3
 replace ht := ht.tr c26 q1
 replace hmx := hmx.tr c26 q1
 replace hb4 := hb4.tr1 c26 ne_b2_b3
 replace hR := hR.tr c26 q2
 replace hb20 := hb20.tr1 c26 ne_b16_b3
 refine en <| x_seq <| x_block ?_
 have hsA2 : Suf (if isT 2 [[40]] Z = true then Z.tail else Z).tail Z := (Suf.tail hgY0 (by rw [hyA]; decide)).trans hsY0
 have hlA : (if isT 2 [[40]] Z = true then Z.tail else Z).tail.length + 1 ≤ Z.length := by have := tail_len hgY0; have := hsY0.len; omega
 have oP : Own sE 9 w25 (fun k => w.heap.size ≤ k ∧ k ≠ b2 ∧ k ≠ b3) (some ⟨b16, 0, none⟩) 1 [(hd (if isT 2 [[40]] Z = true then Z.tail else Z)).text] := own_oneS hb20 ⟨ge_b16, (Ne.symm ne_b2_b16), ne_b16_b3⟩
 refine x_loop (ι := Nat × List Bytes × List Tok × Option Addr × Nat) [12, 13, 14, 15, 16, 17, 18, 19, 20, 21, 22] (fun ⟨n, l, Y, A, cap⟩ => []) (fun ⟨n, l, Y, A, cap⟩ W => (patsG (if isT 2 [[40]] Z = true then Z.tail else Z).tail.length [(hd (if isT 2 [[40]] Z = true then Z.tail else Z)).text] (if isT 2 [[40]] Z = true then Z.tail else Z).tail = patsG n l Y ∧ Suf Y Z ∧ Y.length ≤ n ∧ l.length + Y.length ≤ Z.length ∧ Y.length < Z.length) ∧ (Chg [rb] w W) ∧ (Tab W) ∧ (MaxT W) ∧ (Blk W b2 [.slice none 0 0, .slice none 0 0] 59) ∧ (RdAt W rb tb d Y) ∧ (Own sE 9 W (fun k => w.heap.size ≤ k ∧ k ≠ b2 ∧ k ≠ b3) A cap l) ∧ (Blk W b3 [.slice A l.length cap, .slice none 0 0] 59)) (fun ⟨n, l, Y, A, cap⟩ => Y.length) ((if isT 2 [[40]] Z = true then Z.tail else Z).tail.length, [(hd (if isT 2 [[40]] Z = true then Z.tail else Z)).text], (if isT 2 [[40]] Z = true then Z.tail else Z).tail, (some ⟨b16, 0, none⟩), 1) ?_ ?_ ?_
 · exact trivial
 ·refine ⟨?_, HC, ht, hmx, hb4, hR, oP, hb27⟩
  exact ⟨rfl, hsA2, Nat.le_refl _, by simp only [List.length_cons, List.length_nil]; omega, by omega⟩
 intro ⟨n, l, Y, A, cap⟩ G29 w28 ⟨⟨hpe, hsY, hn, hll, hl2⟩, HC, ht, hmx, hb4, hR, oP, hb3⟩
 change wp _ _ _ _ _ (upds (over _ _ G29) []) _ _
 have hgY := hsY.good
 have hpY := hgY.pos
 obtain ⟨n, rfl⟩ : ∃ m, n = m + 1 := ⟨n - 1, by omega⟩
 refine x_seq <| sr rfl <| mP rfl <| Wp rfl <| st_lit (ps := [(0, .const (S [124]))]) (vs := [S _]) T.lit23 (by decide) rfl q6 rfl ?_
 intro b30 w31 e32 c33 hb34
 have ge_b30 := gB e32 HC.size
 have na_Pb30 : b30 ∉ ob A := oP.fresh (by rw [e32]; exact Nat.le_refl _)
 replace HC := HC.then c33
 replace ht := ht.tr0 c33
 replace hmx := hmx.tr0 c33
 replace hb4 := hb4.tr0 c33
 replace hR := hR.tr0 c33
 replace oP := oP.tr0 c33
 replace hb3 := hb3.tr0 c33
 clear e32
 refine Wp rfl <| st_call (ags := [_, _, _]) rfl rfl T.ent63 rfl (gtake_spec (Z := Y) (l := [[124]]) 2 hgY hR hq (sl_str [[124]] hb34) (by simp)) ?_
 rintro _ w35 ⟨rfl, hR, c36⟩
 replace HC := HC.trans c36 q4
 replace ht := ht.tr c36 q1
 replace hmx := hmx.tr c36 q1
 replace hb4 := hb4.tr1 c36 (by omega)
 replace oP := oP.trF flat_flat c36 (by intro k hk hx; have hD := oP.inD k hk; simp only [List.mem_cons, List.mem_nil_iff, or_false] at hx; first | omega)
 replace hb3 := hb3.tr1 c36 (by omega)
 refine en <| x_cond rfl (fun h0 => ?_) (fun h0 => ?_)
 ·try simp only [nm, ne_eq] at h0
  have hbar : isT 2 [[124]] Y = true := by first | assumption | simp_all
  rw [if_pos hbar] at hR
  have hgT := (suf_isT hgY hbar (by decide)).good
  refine x_skip <| then_n <| x_block <| x_draw [(0, 0), (1, 0), (2, 0), (3, 1), (4, 0), (5, 1), (6, 1), (7, 0), (8, 2)] T.mixed rfl rfl rfl (fun W => W.heap[b2]? = w35.heap[b2]? ∧ W.heap[b3]? = w35.heap[b3]? ∧ True) ⟨rfl, rfl, trivial⟩ ?_
  have o39 := hb4
  have o40 := hb3
  have c38 := Chg.drew w35
  generalize World.drew w35 = w37 at c38 ⊢
  replace HC := HC.then c38
  replace ht := ht.tr0 c38
  replace hmx := hmx.tr0 c38
  replace hb4 := hb4.tr0 c38
  replace oP := oP.tr0 c38
  replace hb3 := hb3.tr0 c38
  replace hR := hR.tr0 c38
  refine sq_q rfl (fun W hT => r_fieldAddr T.fld59_0 rfl) <| sq_q rfl (fun W hT => r_load1 (v := .slice _ _ _) T.one23 rfl (Blk.cell (show Blk W b3 _ _ from hT.2.1.trans o40) rfl)) <| sq_q rfl (fun W hT => r_move (v := .pointer _) rfl) <| sq_callP1 rfl (r_call (ags := [_]) rfl rfl T.ent114 rfl) (gany_spec (Z := Y.tail) hgT hR hq) ?_ ?_
  ·rintro _ w41 ⟨hyB, rfl, c42⟩
   replace HC := HC.trans c42 q4
   intro E9
   refine block_p <| then_p <| block_p <| then_p <| pp_panic ?_
   exact ⟨_, _, by simp only [itemG, any_ok hyA, hpe, patsG_er hbar hyB, Rs.bind], (suf_isT hgY hbar (by decide)).trans hsY, rfl, HC⟩
  rintro _ w43 ⟨hyB, rfl, hR, c44⟩
  replace HC := HC.trans c44 q4
  replace ht := ht.tr c44 q1
  replace hmx := hmx.tr c44 q1
  replace hb4 := hb4.tr1 c44 (by omega)
  replace oP := oP.trF flat_flat c44 (by intro k hk hx; have hD := oP.inD k hk; simp only [List.mem_cons, List.mem_nil_iff, or_false] at hx; first | omega)
  replace hb3 := hb3.tr1 c44 (by omega)
  refine ⟨_, fun _ h => h, ⟨(Eq.trans hb4 o39.symm), (Eq.trans hb3 o40.symm), trivial⟩, ?_⟩
  refine sq_q rfl (fun W hT => r_field (v := S _) T.fone51_1 rfl rfl) <| sq_lit1 (ps := [(0, .tmp 19)]) (vs := [S _]) rfl T.lit23 (by decide) rfl q6 rfl ?_
  intro b45 w46 e47 c48 hb49
  have ge_b45 := gB e47 HC.size
  have na_Pb45 : b45 ∉ ob A := oP.fresh (by rw [e47]; exact Nat.le_refl _)
  replace HC := HC.then c48
  replace ht := ht.tr0 c48
  replace hmx := hmx.tr0 c48
  replace hb4 := hb4.tr0 c48
  replace oP := oP.tr0 c48
  replace hb3 := hb3.tr0 c48
  replace hR := hR.tr0 c48
  clear e47
  refine ext_T (b := b45) ⟨(Eq.trans hb4 o39.symm), (Eq.trans hb3 o40.symm), trivial⟩ ?_
  have o50 := hb49
  have hszA := HC.size
  refine sq_append1 (c := sE) (D2 := fun _ => False) (xs := l) (ys := [(hd Y.tail).text]) rfl T.slice23 rfl rfl oP rfl rfl (one_elem rfl (hb49.cells (n := 1) rfl)) (fun _ _ h => h.elim) (fun k hk => (by have h7 := HC.size; have h8 := hb4.lt; have h9 := hb3.lt; exact ⟨by omega, by omega, by omega⟩)) q7 q7 ?_
  intro A51 cap52 w53 ho54 c55 hg56
  replace HC := HC.trans c55 (fun k hk => .inr ((oP.inD k hk).1))
  replace ht := ht.tr c55 (fun hx => by first | (have h1 := (oP.inD _ hx).1; omega) | (have h1 : w.heap.size ≤ 0 := oP.inD _ hx; omega))
  replace hmx := hmx.tr c55 (by intro hx; have hD := oP.inD _ hx; omega)
  replace hb4 := hb4.tr c55 (fun hx => by first | (have h1 := oP.inD _ hx; omega) | exact na_Pb2 hx | exact hav _ hx (by simp))
  replace hb3 := hb3.tr c55 (fun hx => by first | (have h1 := oP.inD _ hx; omega) | exact na_Pb3 hx | exact hav _ hx (by simp))
  replace hR := hR.tr c55 (by intro k hk; have hD := oP.inD k hk; omega)
  replace hb49 := hb49.tr c55 (fun hx => by first | (have h1 := oP.inD _ hx; omega) | exact na_Pb45 hx | exact hav _ hx (by simp))
  refine ⟨_, fun _ h => h, ⟨(Eq.trans hb49 o50.symm), ⟨(Eq.trans hb4 o39.symm), (Eq.trans hb3 o40.symm), trivial⟩⟩, ?_⟩
  refine sq_q rfl (fun W hT => r_fieldAddr T.fld59_0 rfl) <| sq_store2 rfl T.size23 (v := .slice _ _ _) rfl rfl rfl hb3 rfl (Nat.le_of_ble_eq_true rfl) q5 rfl ?_
  intro w57 c58 hb59; simp only [setVs, setV] at hb59
  clear hb3
  replace HC := HC.then1 c58 ge_b3
  replace ht := ht.tr c58 q1
  replace hmx := hmx.tr c58 q1
  replace hb4 := hb4.tr1 c58 ne_b2_b3
  replace ho54 := ho54.trF flat_flat c58 (by intro k hk hx; have hD := ho54.inD k hk; simp only [List.mem_cons, List.mem_nil_iff, or_false] at hx; first | omega | (obtain rfl := hx; exact na_Pb3 hk))
  replace hR := hR.tr c58 q2
  clear o39
  clear o40
  clear o50
  refine sq_nil <| block_n <| then_n <| ⟨(n, l ++ [(hd Y.tail).text], Y.tail.tail, A51, cap52), ?_, ?_, rfl, trivial, ?_⟩
  ·refine ⟨?_, HC, ht, hmx, hb4, hR, ho54, (by rw [List.length_append]; exact hb59)⟩
   exact ⟨by rw [hpe, patsG_on hbar hyB], (Suf.tail hgT (by rw [hyB]; decide)).trans ((suf_isT hgY hbar (by decide)).trans hsY), by have := tail_len hgY; have := tail_len hgT; omega, by have := tail_len hgY; have := tail_len hgT; simp only [List.length_append, List.length_cons, List.length_nil]; omega, by have := tail_len hgY; have := tail_len hgT; omega⟩
  ·show Y.tail.tail.length < Y.length; have := tail_len hgY; have := tail_len hgT; omega
  exact q9
 ·try simp only [nm, ne_eq] at h0
  have hbar : isT 2 [[124]] Y = false := by first | assumption | simp_all
  rw [if_neg (by rw [hbar]; simp)] at hR
  have hfin := hpe.trans (patsG_end hbar)
  refine x_exit <| then_x <| then_x <| block_x <| then_n <| sr rfl <| mP rfl <| w_plain rfl (st_callP (ags := [_, _, _]) rfl rfl T.ent98 rfl (gwant_spec (Z := Y) 2 [41] hgY hR hq) ?_ ?_)
  ·rintro _ w60 ⟨hwP, rfl, c61⟩
   replace HC := HC.trans c61 q4
   refine then_p <| pp_panic ?_
   exact ⟨_, _, by simp only [itemG, any_ok hyA, hfin, want_er hwP, Rs.bind], hsY, rfl, HC⟩
  rintro _ w62 ⟨hwP, hR, c63⟩
  replace HC := HC.trans c63 q4
  replace ht := ht.tr c63 q1
  replace hmx := hmx.tr c63 q1
  replace hb4 := hb4.tr1 c63 (by omega)
  replace oP := oP.trF flat_flat c63 (by intro k hk hx; have hD := oP.inD k hk; simp only [List.mem_cons, List.mem_nil_iff, or_false] at hx; first | omega)
  replace hb3 := hb3.tr1 c63 (by omega)
  refine en <| x_seq <| x_seq ?_
  have hsP := suf_isT hgY hwP (by decide)
  have hgP := hsP.good
  refine x_region rfl <| mP rfl <| Wp rfl <| st_call (ags := [_]) rfl rfl T.ent14 rfl (glines_spec (Z := Y.tail) hgP hR hq) ?_
  rintro _ w64 ⟨hR, c65⟩
  replace HC := HC.trans c65 q4
  replace ht := ht.tr c65 q1
  replace hmx := hmx.tr c65 q1
  replace hb4 := hb4.tr1 c65 (by omega)
  replace oP := oP.trF flat_flat c65 (by intro k hk hx; have hD := oP.inD k hk; simp only [List.mem_cons, List.mem_nil_iff, or_false] at hx; first | omega)
  replace hb3 := hb3.tr1 c65 (by omega)
  refine en <| x_seq ?_
  have hsN2 := lines_suf hgP
  have hsN := hsN2.trans (hsP.trans hsY)
  have hgN := hsN.good
  have hzN := hsN.gb hz
  refine x_region rfl <| mP rfl <| Wp rfl <| st_call (ags := [_]) rfl rfl T.ent30 rfl (gstarts_spec (Z := linesG Y.tail) hgN hR ht) ?_
  rintro _ w66 ⟨rfl, c67⟩
  replace HC := HC.then c67
  replace ht := ht.tr0 c67
  replace hmx := hmx.tr0 c67
  replace hb4 := hb4.tr0 c67
  replace oP := oP.tr0 c67
  replace hb3 := hb3.tr0 c67
  replace hR := hR.tr0 c67
  refine en <| x_cond rfl (fun h1 => ?_) (fun h1 => ?_)
  ·try simp only [nm, ne_eq] at h1
   have hst : startsB (linesG Y.tail) = true := by first | assumption | simp_all
   refine x_region rfl <| mP rfl ?_
   have ltL_b2 := hb4.lt
   have ltL_b3 := hb3.lt
   have olL_oP := oP.lt
   have szlL := HC.size
   refine w_plain rfl (st_callP (ags := [_]) rfl rfl T.ent16 rfl (glist_spec hgN hzN hR hq hmx ht hcom) ?_ ?_)
   ·rintro _ w68 ⟨R9, e9, he9, hs9, rfl, c69⟩
    replace HC := HC.trans c69 q4
    refine then_p <| pp_panic ?_
    exact ⟨_, _, by simp only [itemG, any_ok hyA, hfin, want_ok hwP, if_pos hst, he9, Rs.bind], hs9.trans hsN, rfl, HC⟩
   rintro _ w70 ⟨cL, RL, vsL, heL, hsL, hlL, rfl, hvL, hR, c71⟩
   obtain ⟨A1L, n1L, A2L, n2L, A3L, n3L, A4L, n4L, A5L, n5L, rfl, hAL, k1L, k2L, k3L, k4L, k5L⟩ := cm_open hvL
   replace hvL := cmE.mono hvL (D' := (fun k => w66.heap.size ≤ k ∧ k < w70.heap.size)) (fun k hk h => ⟨h, hk⟩)
   have szL : w70.heap.size ≤ w70.heap.size := Nat.le_refl _
   have szmL := c71.size
   replace HC := HC.trans c71 q4
   replace hb4 := hb4.tr1 c71 (by omega)
   replace oP := oP.trF flat_flat c71 (by intro k hk hx; have hD := oP.inD k hk; simp only [List.mem_cons, List.mem_nil_iff, or_false] at hx; first | omega)
   replace hb3 := hb3.tr1 c71 (by omega)
   refine Wp rfl <| st_lit (ps := [(0, .tmp 30)]) (vs := [.int _ _, S _, .bool _, .bool _, .slice _ _ _, .slice _ _ _, .slice _ _ _, .slice _ _ _, .slice _ _ _]) T.lit27 (by decide) rfl q6 rfl ?_
   intro b72 w73 e74 c75 hb76
   have ge_b72 := gB e74 HC.size
   have ne_b2_b72 := nE e74 hb4.ne_size
   have ne_b3_b72 := nE e74 hb3.ne_size
   have na_Pb72 : b72 ∉ ob A := oP.fresh (by rw [e74]; exact Nat.le_refl _)
   have gq_szL_b72 : w70.heap.size ≤ b72 := by rw [e74]; exact szL
   replace HC := HC.then c75
   replace hb4 := hb4.tr0 c75
   replace oP := oP.tr0 c75
   replace hb3 := hb3.tr0 c75
   replace hR := hR.tr0 c75
   replace hvL := Enc.chg hvL c75 q8
   replace szL := Nat.le_trans szL c75.size
   clear e74
   refine fa T.fld59_1 rfl <| Wp rfl <| st_st (v := .slice _ _ _) T.size27 rfl rfl rfl hb3 ?_
   intro w77 c78 hb79; simp only [setVs, setV] at hb79
   clear hb3
   replace HC := HC.then1 c78 ge_b3
   replace hb4 := hb4.tr1 c78 ne_b2_b3
   replace oP := oP.trF flat_flat c78 (by intro k hk hx; have hD := oP.inD k hk; simp only [List.mem_cons, List.mem_nil_iff, or_false] at hx; first | omega | (obtain rfl := hx; exact na_Pb3 hk))
   replace hR := hR.tr c78 q2
   replace hvL := Enc.chg hvL c78 q3
   replace szL := Nat.le_trans szL c78.size
   replace hb76 := hb76.tr1 c78 (Ne.symm ne_b3_b72)
   refine en <| sr rfl <| Wp rfl <| st_loadA (vs := [_, _]) T.agg59 rfl (hb79.cells (n := 2) (vs := [_, _]) rfl) rfl <| Wp rfl <| st_st (v := .agg ⟨[_, _]⟩) T.size59 rfl rfl rfl hb4 ?_
   intro w80 c81 hb82; simp only [setVs, setV] at hb82
   clear hb4
   replace HC := HC.then1 c81 ge_b2
   replace oP := oP.trF flat_flat c81 (by intro k hk hx; have hD := oP.inD k hk; simp only [List.mem_cons, List.mem_nil_iff, or_false] at hx; first | omega | (obtain rfl := hx; exact na_Pb2 hk))
   replace hR := hR.tr c81 q2
   replace hvL := Enc.chg hvL c81 q3
   replace szL := Nat.le_trans szL c81.size
   replace hb76 := hb76.tr1 c81 (Ne.symm ne_b2_b72)
   refine en <| x_ret <| pp_ret <| ret_cellA (vs := [_, _]) rfl rfl T.agg59 (hb82.cells (n := 2) rfl) rfl ?_
   have oL : Own cmE 30 w80 (fun k => w.heap.size ≤ k ∧ k ≠ b2 ∧ k ≠ b3) (some ⟨b72, 0, none⟩) 1 [cL] := own_one hb76 ⟨by omega, (Ne.symm ne_b2_b72), (Ne.symm ne_b3_b72)⟩ hvL (fun k _ h => ⟨⟨by omega, by omega, by omega⟩, by omega⟩)
   exact ⟨(l, [cL]), RL, _, _, _, _, by simp only [itemG, any_ok hyA, Rs.bind, hfin, want_ok hwP, if_pos hst, heL], hsL.trans hsN, by have := hsN.len; omega, rfl, it_shut (oP.sl.mono (fun k _ h => h.1)) oP.le (oL.sl.mono (fun k _ h => h.1)) oL.le, hR, HC⟩
  ·try simp only [nm, ne_eq] at h1
   have hst : startsB (linesG Y.tail) = false := by first | assumption | simp_all
   refine x_skip <| then_n <| sr rfl <| Wp rfl <| st_loadA (vs := [_, _]) T.agg59 rfl (hb3.cells (n := 2) (vs := [_, _]) rfl) rfl <| Wp rfl <| st_st (v := .agg ⟨[_, _]⟩) T.size59 rfl rfl rfl hb4 ?_
   intro w83 c84 hb85; simp only [setVs, setV] at hb85
   clear hb4
   replace HC := HC.then1 c84 ge_b2
   replace oP := oP.trF flat_flat c84 (by intro k hk hx; have hD := oP.inD k hk; simp only [List.mem_cons, List.mem_nil_iff, or_false] at hx; first | omega | (obtain rfl := hx; exact na_Pb2 hk))
   replace hR := hR.tr c84 q2
   refine en <| x_ret <| pp_ret <| ret_cellA (vs := [_, _]) rfl rfl T.agg59 (hb85.cells (n := 2) rfl) rfl ?_
   exact ⟨(l, []), linesG Y.tail, _, _, _, _, by simp only [itemG, any_ok hyA, Rs.bind, hfin, want_ok hwP, hst, Bool.false_eq_true, if_false], hsN, by have := hsN2.len; have := tail_len hgY; omega, rfl, it_shut (oP.sl.mono (fun k _ h => h.1)) oP.le .nil ⟨Nat.le_refl _, by decide⟩, hR, HC⟩

set_option maxHeartbeats 1600000 in
theorem gchoose_spec {Z : List Tok} {rb tb : Nat} {d : Int} {w : World} (hg : GT Z) (hz : GB Z) (hR : RdAt w rb tb d Z) (hq : QOk rb tb) (hmx : MaxT w) (ht : Tab w) {com : List Tok → Rs Cm} (hcom : ReadsC 64 com rb tb d) : CallP Tryz.prog 102 #[.pointer (some ⟨rb, 0, none⟩)] w (fun v w' => OkN (chooseG com Z) Z rb tb d w w' v) (fun v w' => ErT (chooseG com Z) Z rb w w' v) := by
 refine callP_of_wp (args := [_]) Tryz.func102 rfl (Nat.le_of_ble_eq_true rfl) ?_
 have HC : Chg [rb] w w := .refl _
 have hrl := hR.lt hg
 have hq9 := hq
 obtain ⟨hq1, hq2, hq3⟩ := hq9
 have ht1 := ht.lt
 have hm1 := hmx.lt
 have hzl := hz.1
 refine sr rfl <| Wp rfl <| st_alloc T.zero30 ?_
 intro b2 w1 e2 c3 hb4
 have ge_b2 := gB e2 HC.size
 replace HC := HC.then c3
 replace hR := hR.tr0 c3
 replace ht := ht.tr0 c3
 replace hmx := hmx.tr0 c3
 clear e2
 refine en <| sr rfl <| mP rfl <| w_plain rfl (st_callP (ags := [_]) rfl rfl T.ent114 rfl (gany_spec (Z := Z) hg hR hq) ?_ ?_)
 ·rintro _ w5 ⟨hyA, rfl, c6⟩
  replace HC := HC.trans c6 q4
  refine then_p <| pp_panic ?_
  exact ⟨_, _, by simp only [chooseG, any_er hyA, Rs.bind], .refl hg, rfl, HC⟩
 rintro _ w7 ⟨hyA, rfl, hR, c8⟩
 replace HC := HC.trans c8 q4
 replace ht := ht.tr c8 q1
 replace hmx := hmx.tr c8 q1
 replace hb4 := hb4.tr1 c8 (by omega)
 refine Wp rfl <| st_field (v := S _) T.fone51_1 rfl rfl <| Wp rfl <| st_lit (ps := [(0, .tmp 7)]) (vs := [S _]) T.lit23 (by decide) rfl q6 rfl ?_
 intro b9 w10 e11 c12 hb13
 have ge_b9 := gB e11 HC.size
 have ne_b2_b9 := nE e11 hb4.ne_size
 replace HC := HC.then c12
 replace ht := ht.tr0 c12
 replace hmx := hmx.tr0 c12
 replace hb4 := hb4.tr0 c12
 replace hR := hR.tr0 c12
 clear e11
 refine Wp rfl <| st_bld (ps := [(0, .const (.int .i64 13)), (5, .tmp 8)]) (vs := [.int _ _, S _, .bool _, .bool _, .slice _ _ _, .slice _ _ _, .slice _ _ _, .slice _ _ _, .slice _ _ _]) T.bld30 rfl <| Wp rfl <| st_alloc T.zero30 ?_
 intro b3 w14 e15 c16 hb17
 have ge_b3 := gB e15 HC.size
 have ne_b2_b3 := nE e15 hb4.ne_size
 have ne_b9_b3 := nE e15 hb13.ne_size
 replace HC := HC.then c16
 replace ht := ht.tr0 c16
 replace hmx := hmx.tr0 c16
 replace hb4 := hb4.tr0 c16
 replace hR := hR.tr0 c16
 replace hb13 := hb13.tr0 c16
 clear e15
 refine Wp rfl <| st_st (v := .agg ⟨[_, _, _, _, _, _, _, _, _]⟩) T.size30 rfl rfl rfl hb17 ?_
 intro w18 c19 hb20; simp only [setVs, setV] at hb20
 clear hb17
 replace HC := HC.then1 c19 ge_b3
 replace ht := ht.tr c19 q1
 replace hmx := hmx.tr c19 q1
 replace hb4 := hb4.tr1 c19 ne_b2_b3
 replace hR := hR.tr c19 q2
 replace hb13 := hb13.tr1 c19 ne_b9_b3
 refine en <| x_seq ?_
 have hgA := hg.tail (by rw [hyA]; decide)
 have hlA := tail_len hg
 refine x_region rfl <| mP rfl <| Wp rfl <| st_call (ags := [_]) rfl rfl T.ent14 rfl (glines_spec (Z := Z.tail) hgA hR hq) ?_
 rintro _ w21 ⟨hR, c22⟩
 replace HC := HC.trans c22 q4
 replace ht := ht.tr c22 q1
 replace hmx := hmx.tr c22 q1
 replace hb4 := hb4.tr1 c22 (by omega)
 replace hb13 := hb13.tr1 c22 (by omega)
 replace hb20 := hb20.tr1 c22 (by omega)
 refine en <| x_seq ?_
 have hs1 := (lines_suf hgA).trans (Suf.tail hg (by rw [hyA]; decide))
 have hg1 := hs1.good
 have hl1 := (lines_suf hgA).len
 refine x_region rfl <| mP rfl <| w_plain rfl (st_callP (ags := [_, _, _]) rfl rfl T.ent98 rfl (gwant_spec (Z := (linesG Z.tail)) 1 [105, 110] hg1 hR hq) ?_ ?_)
 ·rintro _ w23 ⟨hwI, rfl, c24⟩
  replace HC := HC.trans c24 q4
  refine then_p <| pp_panic ?_
  exact ⟨_, _, by simp only [chooseG, any_ok hyA, want_er hwI, Rs.bind], hs1, rfl, HC⟩
 rintro _ w25 ⟨hwI, hR, c26⟩
 replace HC := HC.trans c26 q4
 replace ht := ht.tr c26 q1
 replace hmx := hmx.tr c26 q1
 replace hb4 := hb4.tr1 c26 (by omega)
 replace hb13 := hb13.tr1 c26 (by omega)
 replace hb20 := hb20.tr1 c26 (by omega)
 refine en <| x_seq ?_
 have hgI := (suf_isT hg1 hwI (by decide)).good
 have hlI := tail_len hg1
 refine x_region rfl <| mP rfl <| Wp rfl <| st_call (ags := [_]) rfl rfl T.ent14 rfl (glines_spec (Z := (linesG Z.tail).tail) hgI hR hq) ?_
 rintro _ w27 ⟨hR, c28⟩
 replace HC := HC.trans c28 q4
 replace ht := ht.tr c28 q1
 replace hmx := hmx.tr c28 q1
 replace hb4 := hb4.tr1 c28 (by omega)
 replace hb13 := hb13.tr1 c28 (by omega)
 replace hb20 := hb20.tr1 c28 (by omega)
 refine en <| x_seq <| x_seq ?_
 have hs2 := (lines_suf hgI).trans ((suf_isT hg1 hwI (by decide)).trans hs1)
 have hl2 : (linesG (linesG Z.tail).tail).length < Z.length := by have := (lines_suf hgI).len; omega
 refine x_region rfl <| aB rfl <| en <| x_block ?_
 have oI : Own itE 59 w27 (fun k => w.heap.size ≤ k ∧ k ≠ b2 ∧ k ≠ b3 ∧ k ≠ b9) none 0 [] := Own.nil
 refine x_loop (ι := Nat × List (List Bytes × List Cm) × List Tok × Bool × Option Addr × Nat) [4, 16, 17, 18, 19, 20, 21, 22, 23, 24, 25, 26, 27, 28, 29, 30, 31, 32, 33, 34, 35] (fun ⟨n, l, Y, m, A, cap⟩ => [(4, .bool m)]) (fun ⟨n, l, Y, m, A, cap⟩ W => (itemsG com (linesG (linesG Z.tail).tail).length [] (linesG (linesG Z.tail).tail) = (if m = true then itemsG com n l Y else .ok l Y) ∧ Suf Y Z ∧ (m = true → Y.length ≤ n) ∧ l.length + Y.length ≤ Z.length ∧ Y.length < Z.length) ∧ (Chg [rb] w W) ∧ (Tab W) ∧ (MaxT W) ∧ (Blk W b2 [.int .i64 0, S [], .bool false, .bool false, .slice none 0 0, .slice none 0 0, .slice none 0 0, .slice none 0 0, .slice none 0 0] 30) ∧ (RdAt W rb tb d Y) ∧ (Own itE 59 W (fun k => w.heap.size ≤ k ∧ k ≠ b2 ∧ k ≠ b3 ∧ k ≠ b9) A cap l) ∧ (Blk W b9 [S (hd Z).text] 9) ∧ (Blk W b3 [.int .i64 13, S [], .bool false, .bool false, .slice none 0 0, .slice (some ⟨b9, 0, none⟩) 1 1, .slice none 0 0, .slice none 0 0, .slice A l.length cap] 30)) (fun ⟨n, l, Y, m, A, cap⟩ => (if m then 1 else 0) + Y.length) ((linesG (linesG Z.tail).tail).length, [], linesG (linesG Z.tail).tail, true, none, 0) ?_ ?_ ?_
 · exact ⟨rfl, trivial⟩
 ·refine ⟨?_, HC, ht, hmx, hb4, hR, oI, hb13, hb20⟩
  exact ⟨rfl, hs2, fun _ => Nat.le_refl _, by simp only [List.length_nil]; omega, hl2⟩
 intro ⟨n, l, Y, m, A, cap⟩ G30 w29 ⟨⟨hie, hsY, hn, hll, hlz⟩, HC, ht, hmx, hb4, hR, oI, hbl, hb3⟩
 change wp _ _ _ _ _ (upds (over _ _ G30) [(4, .bool m)]) _ _
 have hgY := hsY.good
 have hzY := hsY.gb hz
 have hpY := hgY.pos
 refine x_seq <| sr rfl <| mB rfl <| mB rfl <| w_split (d := 17) rfl (fun g31 => ?_) (fun g31 => ?_)
 ·try simp only [nm, ne_eq] at g31
  obtain rfl : m = true := by first | assumption | simp_all
  have hn := hn rfl
  obtain ⟨n, rfl⟩ : ∃ m, n = m + 1 := ⟨n - 1, by omega⟩
  refine w_yes 1 17 true <| st_move (v := .pointer _) rfl <| w_yes 1 17 true <| st_lit (ps := [(0, .const (S [101, 115, 97, 99]))]) (vs := [S _]) T.lit23 (by decide) rfl q6 rfl ?_
  intro b32 w33 e34 c35 hb36
  have ge_b32 := gB e34 HC.size
  have na_Ib32 : b32 ∉ ob (A) := oI.fresh (by rw [e34]; exact Nat.le_refl _)
  replace HC := HC.then c35
  replace ht := ht.tr0 c35
  replace hmx := hmx.tr0 c35
  replace hb4 := hb4.tr0 c35
  replace hR := hR.tr0 c35
  replace oI := oI.tr0 c35
  replace hbl := hbl.tr0 c35
  replace hb3 := hb3.tr0 c35
  clear e34
  refine w_yes 1 17 true <| st_call (ags := [_, _, _]) rfl rfl T.ent32 rfl (gis_spec (Z := Y) (l := [[101, 115, 97, 99]]) 1 hgY hR (sl_str [[101, 115, 97, 99]] hb36) (by simp)) ?_
  rintro _ w37 ⟨rfl, c38⟩
  replace HC := HC.then c38
  replace ht := ht.tr0 c38
  replace hmx := hmx.tr0 c38
  replace hb4 := hb4.tr0 c38
  replace hR := hR.tr0 c38
  replace oI := oI.tr0 c38
  replace hbl := hbl.tr0 c38
  replace hb3 := hb3.tr0 c38
  refine w_yes 1 17 true <| st_not rfl <| pT rfl rfl <| en <| x_cond rfl (fun h0 => ?_) (fun h0 => ?_)
  ·try simp only [nm, ne_eq] at h0
   have hes : isT 1 [[101, 115, 97, 99]] Y = false := by first | assumption | simp_all
   refine x_skip <| then_n <| x_block <| x_seq <| x_draw [(0, 0), (1, 0), (2, 0), (3, 1), (4, 1), (5, 1), (6, 0), (7, 2)] T.mixed rfl rfl rfl (fun W => W.heap[b2]? = w37.heap[b2]? ∧ W.heap[b9]? = w37.heap[b9]? ∧ W.heap[b3]? = w37.heap[b3]? ∧ True) ⟨rfl, rfl, rfl, trivial⟩ ?_
   have o41 := hb4
   have o42 := hbl
   have o43 := hb3
   have c40 := Chg.drew w37
   generalize World.drew w37 = w39 at c40 ⊢
   replace HC := HC.then c40
   replace ht := ht.tr0 c40
   replace hmx := hmx.tr0 c40
   replace hb4 := hb4.tr0 c40
   replace hR := hR.tr0 c40
   replace oI := oI.tr0 c40
   replace hbl := hbl.tr0 c40
   replace hb3 := hb3.tr0 c40
   refine sq_q rfl (fun W hT => r_fieldAddr T.fld30_8 rfl) <| sq_q rfl (fun W hT => r_load1 (v := .slice _ _ _) T.one28 rfl (Blk.cell (show Blk W b3 _ _ from hT.2.2.1.trans o43) rfl)) <| sq_q rfl (fun W hT => r_move (v := .pointer _) rfl) ?_
   have ltI_b2 := hb4.lt
   have ltI_b9 := hbl.lt
   have ltI_b3 := hb3.lt
   have olI_oI := oI.lt
   have szlI := HC.size
   refine sq_callP1 rfl (r_call (ags := [_]) rfl rfl T.ent115 rfl) (gitem_spec hgY hzY hR hq hmx ht hcom) ?_ ?_
   ·rintro _ w44 ⟨R9, e9, he9, hs9, rfl, c45⟩
    replace HC := HC.trans c45 q4
    intro E9
    refine then_p <| block_p <| then_p <| block_p <| then_p <| pp_panic ?_
    exact ⟨_, _, by simp only [chooseG, any_ok hyA, want_ok hwI, hie, if_true, itemsG_er hes he9, Rs.bind], hs9.trans hsY, rfl, HC⟩
   rintro _ w46 ⟨xI, RI, I1I, m1I, I2I, m2I, heI, hsI, hlI, rfl, hvI, hR, c47⟩
   replace hvI := itE.mono hvI (D' := (fun k => w39.heap.size ≤ k ∧ k < w46.heap.size)) (fun k hk h => ⟨h, hk⟩)
   have szI : w46.heap.size ≤ w46.heap.size := Nat.le_refl _
   have szmI := c47.size
   replace HC := HC.trans c47 q4
   replace ht := ht.tr c47 q1
   replace hmx := hmx.tr c47 q1
   replace hb4 := hb4.tr1 c47 (by omega)
   replace oI := oI.tr c47 q3
   replace hbl := hbl.tr1 c47 (by omega)
   replace hb3 := hb3.tr1 c47 (by omega)
   refine ⟨_, fun _ h => h, ⟨(Eq.trans hb4 o41.symm), (Eq.trans hbl o42.symm), (Eq.trans hb3 o43.symm), trivial⟩, ?_⟩
   refine sq_lit1 (ps := [(0, .tmp 26)]) (vs := [.slice _ _ _, .slice _ _ _]) rfl T.lit28 (by decide) rfl q6 rfl ?_
   intro b48 w49 e50 c51 hb52
   have ge_b48 := gB e50 HC.size
   have na_Ib48 : b48 ∉ ob (A) := oI.fresh (by rw [e50]; exact Nat.le_refl _)
   have gq_szI_b48 : w46.heap.size ≤ b48 := by rw [e50]; exact szI
   replace HC := HC.then c51
   replace ht := ht.tr0 c51
   replace hmx := hmx.tr0 c51
   replace hb4 := hb4.tr0 c51
   replace oI := oI.tr0 c51
   replace hbl := hbl.tr0 c51
   replace hb3 := hb3.tr0 c51
   replace hR := hR.tr0 c51
   replace hvI := Enc.chg hvI c51 q8
   replace szI := Nat.le_trans szI c51.size
   clear e50
   refine ext_T (b := b48) ⟨(Eq.trans hb4 o41.symm), (Eq.trans hbl o42.symm), (Eq.trans hb3 o43.symm), trivial⟩ ?_
   have o53 := hb52
   have hszA := HC.size
   refine sq_append1 (c := itE) (D2 := (fun k => w39.heap.size ≤ k ∧ k < w46.heap.size)) (xs := l) (ys := [xI]) rfl T.slice28 rfl rfl oI rfl rfl (one_elem hvI (hb52.cells (n := 2) rfl)) (fun k _ h => ⟨⟨by omega, by omega, by omega, by omega⟩, fun hk => by have h8 := olI_oI k hk; omega⟩) (fun k hk => (by have h7 := HC.size; have h8 := hb4.lt; have h9 := hb3.lt; have h10 := hbl.lt; exact ⟨by omega, by omega, by omega, by omega⟩)) q7 q7 ?_
   intro A54 cap55 w56 ho57 c58 hg59
   replace HC := HC.trans c58 (fun k hk => .inr ((oI.inD k hk).1))
   replace ht := ht.tr c58 (fun hx => by first | (have h1 := (oI.inD _ hx).1; omega) | (have h1 : w.heap.size ≤ 0 := oI.inD _ hx; omega))
   replace hmx := hmx.tr c58 (by intro hx; have hD := oI.inD _ hx; omega)
   replace hb4 := hb4.tr c58 (fun hx => by first | (have h1 := oI.inD _ hx; omega) | exact na_Ib2 hx | exact hav _ hx (by simp))
   replace hbl := hbl.tr c58 (fun hx => by first | (have h1 := oI.inD _ hx; omega) | exact na_Ib9 hx | exact hav _ hx (by simp))
   replace hb3 := hb3.tr c58 (fun hx => by first | (have h1 := oI.inD _ hx; omega) | exact na_Ib3 hx | exact hav _ hx (by simp))
   replace hR := hR.tr c58 (by intro k hk; have hD := oI.inD k hk; omega)
   replace szI := Nat.le_trans szI c58.size
   replace hb52 := hb52.tr c58 (fun hx => by first | (have h1 := oI.inD _ hx; omega) | exact na_Ib48 hx | exact hav _ hx (by simp))
   refine ⟨_, fun _ h => h, ⟨(Eq.trans hb52 o53.symm), ⟨(Eq.trans hb4 o41.symm), (Eq.trans hbl o42.symm), (Eq.trans hb3 o43.symm), trivial⟩⟩, ?_⟩
   refine sq_q rfl (fun W hT => r_fieldAddr T.fld30_8 rfl) <| sq_store2 rfl T.size28 (v := .slice _ _ _) rfl rfl rfl hb3 rfl (Nat.le_of_ble_eq_true rfl) q5 rfl ?_
   intro w60 c61 hb62; simp only [setVs, setV] at hb62
   clear hb3
   replace HC := HC.then1 c61 ge_b3
   replace ht := ht.tr c61 q1
   replace hmx := hmx.tr c61 q1
   replace hb4 := hb4.tr1 c61 ne_b2_b3
   replace ho57 := ho57.tr c61 q3
   replace hbl := hbl.tr1 c61 ne_b9_b3
   replace hR := hR.tr c61 q2
   replace szI := Nat.le_trans szI c61.size
   clear o41
   clear o42
   clear o43
   clear o53
   refine sq_nil <| then_n <| x_seq ?_
   have hgR := hsI.good
   refine x_region rfl <| mP rfl <| Wp rfl <| st_lit (ps := [(0, .const (S [59, 59]))]) (vs := [S _]) T.lit23 (by decide) rfl q6 rfl ?_
   intro b63 w64 e65 c66 hb67
   have ge_b63 := gB e65 HC.size
   have na_Ib63 : b63 ∉ ob (A54) := ho57.fresh (by rw [e65]; exact Nat.le_refl _)
   have gq_szI_b63 : w46.heap.size ≤ b63 := by rw [e65]; exact szI
   replace HC := HC.then c66
   replace ht := ht.tr0 c66
   replace hmx := hmx.tr0 c66
   replace hb4 := hb4.tr0 c66
   replace ho57 := ho57.tr0 c66
   replace hbl := hbl.tr0 c66
   replace hR := hR.tr0 c66
   replace szI := Nat.le_trans szI c66.size
   replace hb62 := hb62.tr0 c66
   clear e65
   refine Wp rfl <| st_call (ags := [_, _, _]) rfl rfl T.ent63 rfl (gtake_spec (Z := RI) (l := [[59, 59]]) 2 hgR hR hq (sl_str [[59, 59]] hb67) (by simp)) ?_
   rintro _ w68 ⟨rfl, hR, c69⟩
   replace HC := HC.trans c69 q4
   replace ht := ht.tr c69 q1
   replace hmx := hmx.tr c69 q1
   replace hb4 := hb4.tr1 c69 (by omega)
   replace ho57 := ho57.tr c69 q3
   replace hbl := hbl.tr1 c69 (by omega)
   replace szI := Nat.le_trans szI c69.size
   replace hb62 := hb62.tr1 c69 (by omega)
   refine aB rfl <| en <| sr rfl <| mB rfl <| en <| x_cond rfl (fun h1 => ?_) (fun h1 => ?_)
   ·try simp only [nm, ne_eq] at h1
    have hss : isT 2 [[59, 59]] RI = true := by first | assumption | simp_all
    rw [if_pos hss] at hR
    have hsS := suf_isT hgR hss (by decide)
    have hgS := hsS.good
    have hlS := tail_len hgR
    refine x_region rfl <| mP rfl <| Wp rfl <| st_call (ags := [_]) rfl rfl T.ent14 rfl (glines_spec (Z := RI.tail) hgS hR hq) ?_
    rintro _ w70 ⟨hR, c71⟩
    replace HC := HC.trans c71 q4
    replace ht := ht.tr c71 q1
    replace hmx := hmx.tr c71 q1
    replace hb4 := hb4.tr1 c71 (by omega)
    replace ho57 := ho57.tr c71 q3
    replace hbl := hbl.tr1 c71 (by omega)
    replace szI := Nat.le_trans szI c71.size
    replace hb62 := hb62.tr1 c71 (by omega)
    have hsLi := lines_suf hgS
    have hsY2 := hsS.trans (hsI.trans hsY)
    have hlLi := hsLi.len
    refine wops_nil <| block_n <| then_n <| ⟨(n, l ++ [xI], linesG RI.tail, (isT 2 [[59, 59]] RI), A54, cap55), ?_, ?_, rfl, ⟨rfl, trivial⟩, ?_⟩
    ·refine ⟨?_, HC, ht, hmx, hb4, hR, ho57, hbl, (by rw [List.length_append]; exact hb62)⟩
     exact ⟨by rw [hie, if_pos rfl, itemsG_on hes heI, if_pos hss, if_pos hss], hsLi.trans hsY2, fun _ => by omega, by simp only [List.length_append, List.length_cons, List.length_nil]; omega, by omega⟩
    ·show (if (isT 2 [[59, 59]] RI) = true then 1 else 0) + (linesG RI.tail).length < (if true = true then 1 else 0) + Y.length; rw [if_pos hss, if_pos rfl]; omega
    exact q9
   ·try simp only [nm, ne_eq] at h1
    have hss : isT 2 [[59, 59]] RI = false := by first | assumption | simp_all
    rw [if_neg (by rw [hss]; simp)] at hR
    refine x_skip <| block_n <| then_n <| ⟨(n, l ++ [xI], RI, (isT 2 [[59, 59]] RI), A54, cap55), ?_, ?_, rfl, ⟨rfl, trivial⟩, ?_⟩
    ·refine ⟨?_, HC, ht, hmx, hb4, hR, ho57, hbl, (by rw [List.length_append]; exact hb62)⟩
     exact ⟨by rw [hie, if_pos rfl, itemsG_on hes heI, if_neg (by rw [hss]; simp), if_neg (by rw [hss]; simp)], hsI.trans hsY, (fun h => by rw [hss] at h; cases h), by simp only [List.length_append, List.length_cons, List.length_nil]; omega, by omega⟩
    ·show (if (isT 2 [[59, 59]] RI) = true then 1 else 0) + RI.length < (if true = true then 1 else 0) + Y.length; rw [if_neg (by rw [hss]; simp), if_pos rfl]; omega
    exact q9
  ·try simp only [nm, ne_eq] at h0
   have hfin : itemsG com (linesG (linesG Z.tail).tail).length [] (linesG (linesG Z.tail).tail) = .ok l Y := by rw [hie, if_pos rfl, itemsG_end (by first | assumption | simp_all)]
   refine x_exit <| then_x <| then_x <| block_x <| then_n <| x_seq ?_
   have hgY := hsY.good
   refine x_region rfl <| mP rfl <| w_plain rfl (st_callP (ags := [_, _, _]) rfl rfl T.ent98 rfl (gwant_spec (Z := Y) 1 [101, 115, 97, 99] hgY hR hq) ?_ ?_)
   ·rintro _ w72 ⟨hwE, rfl, c73⟩
    replace HC := HC.trans c73 q4
    refine then_p <| pp_panic ?_
    exact ⟨_, _, by simp only [chooseG, any_ok hyA, want_ok hwI, hfin, want_er hwE, Rs.bind], hsY, rfl, HC⟩
   rintro _ w74 ⟨hwE, hR, c75⟩
   replace HC := HC.trans c75 q4
   replace hb4 := hb4.tr1 c75 (by omega)
   replace oI := oI.tr c75 q3
   replace hbl := hbl.tr1 c75 (by omega)
   replace hb3 := hb3.tr1 c75 (by omega)
   refine en <| sr rfl <| Wp rfl <| st_loadA (vs := [_, _, _, _, _, _, _, _, _]) T.agg30 rfl (hb3.cells (n := 9) (vs := [_, _, _, _, _, _, _, _, _]) rfl) rfl <| Wp rfl <| st_st (v := .agg ⟨[_, _, _, _, _, _, _, _, _]⟩) T.size30 rfl rfl rfl hb4 ?_
   intro w76 c77 hb78; simp only [setVs, setV] at hb78
   clear hb4
   replace HC := HC.then1 c77 ge_b2
   replace oI := oI.tr c77 q3
   replace hbl := hbl.tr1 c77 (Ne.symm ne_b2_b9)
   replace hR := hR.tr c77 q2
   refine en <| x_ret <| pp_ret <| ret_cellA (vs := [_, _, _, _, _, _, _, _, _]) rfl rfl T.agg30 (hb78.cells (n := 9) rfl) rfl ?_
   exact ⟨.mk 13 [] false false [] [(hd Z).text] [] [] l, Y.tail, none, 0, _, _, none, 0, _, _, by simp only [chooseG, any_ok hyA, want_ok hwI, hfin, want_ok hwE, Rs.bind], (suf_isT hgY hwE (by decide)).trans hsY, by have := tail_len hgY; omega, rfl, rfl, cm_shut ⟨.nil, (sl_str [(hd Z).text] hbl).mono (fun k _ h => by have h : k = b9 := h; rw [h]; exact ge_b9), .nil, .nil, oI.sl.mono (fun k _ h => h.1)⟩ ⟨Nat.le_refl _, by decide⟩ ⟨Nat.le_refl _, by decide⟩ ⟨Nat.le_refl _, by decide⟩ ⟨Nat.le_refl _, by decide⟩ oI.le, hR, HC⟩
 ·try simp only [nm, ne_eq] at g31
  obtain rfl : m = false := by first | assumption | simp_all
  iterate 4 refine w_no 1 17 true ?_
  refine pF rfl rfl <| en <| x_cond (t := false) rfl (fun h0 => ?_) (fun h0 => ?_)
  · exact absurd h0 (by decide)
  have hfin : itemsG com (linesG (linesG Z.tail).tail).length [] (linesG (linesG Z.tail).tail) = .ok l Y := by exact hie
  refine x_exit <| then_x <| then_x <| block_x <| then_n <| x_seq ?_
  have hgY := hsY.good
  refine x_region rfl <| mP rfl <| w_plain rfl (st_callP (ags := [_, _, _]) rfl rfl T.ent98 rfl (gwant_spec (Z := Y) 1 [101, 115, 97, 99] hgY hR hq) ?_ ?_)
  ·rintro _ w79 ⟨hwE, rfl, c80⟩
   replace HC := HC.trans c80 q4
   refine then_p <| pp_panic ?_
   exact ⟨_, _, by simp only [chooseG, any_ok hyA, want_ok hwI, hfin, want_er hwE, Rs.bind], hsY, rfl, HC⟩
  rintro _ w81 ⟨hwE, hR, c82⟩
  replace HC := HC.trans c82 q4
  replace hb4 := hb4.tr1 c82 (by omega)
  replace oI := oI.tr c82 q3
  replace hbl := hbl.tr1 c82 (by omega)
  replace hb3 := hb3.tr1 c82 (by omega)
  refine en <| sr rfl <| Wp rfl <| st_loadA (vs := [_, _, _, _, _, _, _, _, _]) T.agg30 rfl (hb3.cells (n := 9) (vs := [_, _, _, _, _, _, _, _, _]) rfl) rfl <| Wp rfl <| st_st (v := .agg ⟨[_, _, _, _, _, _, _, _, _]⟩) T.size30 rfl rfl rfl hb4 ?_
  intro w83 c84 hb85; simp only [setVs, setV] at hb85
  clear hb4
  replace HC := HC.then1 c84 ge_b2
  replace oI := oI.tr c84 q3
  replace hbl := hbl.tr1 c84 (Ne.symm ne_b2_b9)
  replace hR := hR.tr c84 q2
  refine en <| x_ret <| pp_ret <| ret_cellA (vs := [_, _, _, _, _, _, _, _, _]) rfl rfl T.agg30 (hb85.cells (n := 9) rfl) rfl ?_
  exact ⟨.mk 13 [] false false [] [(hd Z).text] [] [] l, Y.tail, none, 0, _, _, none, 0, _, _, by simp only [chooseG, any_ok hyA, want_ok hwI, hfin, want_ok hwE, Rs.bind], (suf_isT hgY hwE (by decide)).trans hsY, by have := tail_len hgY; omega, rfl, rfl, cm_shut ⟨.nil, (sl_str [(hd Z).text] hbl).mono (fun k _ h => by have h : k = b9 := h; rw [h]; exact ge_b9), .nil, .nil, oI.sl.mono (fun k _ h => h.1)⟩ ⟨Nat.le_refl _, by decide⟩ ⟨Nat.le_refl _, by decide⟩ ⟨Nat.le_refl _, by decide⟩ ⟨Nat.le_refl _, by decide⟩ oI.le, hR, HC⟩

end Go.Proofs.YtghjmiggobpmoaaGreatDoor.K
