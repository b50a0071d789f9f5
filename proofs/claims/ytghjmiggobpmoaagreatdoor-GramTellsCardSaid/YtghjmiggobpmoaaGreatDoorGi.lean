import Derived.Test.YtghjmiggobpmoaaGreatDoorTok
import Derived.Test.YtghjmiggobpmoaaGreatDoorGh
set_option linter.unusedVariables false
set_option linter.unusedSimpArgs false
set_option autoImplicit false
set_option maxRecDepth 20000
namespace Go.Proofs.YtghjmiggobpmoaaGreatDoor.K
open Go Go.Proofs Go.RowKit

theorem words_on {l : List Bytes} {Y : List Tok} (hg : GT Y) (hk : (hd Y).kind = 1) : wordsG l Y = wordsG (l ++ [(hd Y).text]) Y.tail := by
  cases Y with
  | nil => exact hg.elim
  | cons t r => have hk : t.kind = 1 := hk; rw [wordsG, if_pos hk]; rfl
theorem words_off {l : List Bytes} {Y : List Tok} (hg : GT Y) (hk : (hd Y).kind ≠ 1) : wordsG l Y = (l, Y) := by
  cases Y with
  | nil => exact hg.elim
  | cons t r => have hk : t.kind ≠ 1 := hk; rw [wordsG, if_neg hk]
theorem patsG_on {n : Nat} {l : List Bytes} {Y : List Tok} (h : isT 2 [[124]] Y = true) (hk : (hd Y.tail).kind = 1) : patsG (n + 1) l Y = patsG n (l ++ [(hd Y.tail).text]) Y.tail.tail := by rw [patsG, if_pos h, any_ok hk]; rfl
theorem patsG_er {n : Nat} {l : List Bytes} {Y : List Tok} (h : isT 2 [[124]] Y = true) (hk : (hd Y.tail).kind ≠ 1) : patsG (n + 1) l Y = .er Y.tail 101 := by rw [patsG, if_pos h, any_er hk]; rfl
theorem patsG_end {n : Nat} {l : List Bytes} {Y : List Tok} (h : isT 2 [[124]] Y = false) : patsG (n + 1) l Y = .ok l Y := by rw [patsG, if_neg (by rw [h]; simp)]

set_option maxHeartbeats 1600000 in
theorem geach_spec {Z : List Tok} {rb tb : Nat} {d : Int} {w : World} (hg : GT Z) (hz : GB Z) (hR : RdAt w rb tb d Z) (hq : QOk rb tb) (hmx : MaxT w) (ht : Tab w) {com : List Tok → Rs Cm} (hcom : ReadsC 64 com rb tb d) : CallP Tryz.prog 101 #[.pointer (some ⟨rb, 0, none⟩)] w (fun v w' => OkN (eachG com Z) Z rb tb d w w' v) (fun v w' => ErT (eachG com Z) Z rb w w' v) := by
 refine callP_of_wp (args := [_]) Tryz.func101 rfl (Nat.le_of_ble_eq_true rfl) ?_
 have HC : Chg [rb] w w := .refl _
 have hrl := hR.lt hg
 have hq9 := hq
 obtain ⟨hq1, hq2, hq3⟩ := hq9
 have ht1 := ht.lt
 have hm1 := hmx.lt
 have hzl := hz.1
 refine sr rfl <| Wp rfl <| st_alloc T.zero30 ?_
 intro b2 w1 e2 c3 hb4
 have ge_b2 := gB e2 HC.size
 replace HC := HC.then c3
 replace hR := hR.tr0 c3
 replace ht := ht.tr0 c3
 replace hmx := hmx.tr0 c3
 clear e2
 refine en <| x_seq <| sr rfl <| mP rfl <| Wp rfl <| st_call (ags := [_]) rfl rfl T.ent15 rfl (gtok_spec (Z := Z) hg hR) ?_
 rintro _ w5 ⟨rfl, c6⟩
 replace HC := HC.then c6
 replace hR := hR.tr0 c6
 replace ht := ht.tr0 c6
 replace hmx := hmx.tr0 c6
 replace hb4 := hb4.tr0 c6
 refine Wp rfl <| st_field (v := S _) T.fone51_1 rfl rfl <| Wp rfl <| st_call (ags := [_]) rfl rfl T.ent80 rfl (CName_spec (hd Z).text _) ?_
 rintro _ w7 ⟨rfl, c8⟩
 replace HC := HC.then c8
 replace hR := hR.tr0 c8
 replace ht := ht.tr0 c8
 replace hmx := hmx.tr0 c8
 replace hb4 := hb4.tr0 c8
 refine Wp rfl <| st_not rfl <| en <| x_cond rfl (fun h0 => ?_) (fun h0 => ?_)
 ·try simp only [nm, ne_eq] at h0
  have hnm : nameV (hd Z).text = false := by first | assumption | simp_all
  refine x_region rfl <| mP rfl <| w_plain rfl (st_callP (ags := [_, _]) rfl rfl T.ent17 rfl (gfail_spec 101 hg hR) ?_ ?_)
  ·rintro _ w9 ⟨rfl, c10⟩
   replace HC := HC.then c10
   refine then_p <| pp_panic ?_
   exact ⟨_, _, by simp only [eachG, hnm, if_true, Rs.bind], .refl hg, rfl, HC⟩
  exact fun _ _ h9 => h9.elim
 ·try simp only [nm, ne_eq] at h0
  have hnm : nameV (hd Z).text = true := by first | assumption | simp_all
  refine x_skip <| then_n <| sr rfl <| mP rfl <| w_plain rfl (st_callP (ags := [_]) rfl rfl T.ent114 rfl (gany_spec (Z := Z) hg hR hq) ?_ ?_)
  ·rintro _ w11 ⟨hyA, rfl, c12⟩
   replace HC := HC.trans c12 q4
   refine then_p <| pp_panic ?_
   exact ⟨_, _, by simp only [eachG, hnm, Bool.true_eq_false, if_false, any_er hyA, Rs.bind], .refl hg, rfl, HC⟩
  rintro _ w13 ⟨hyA, rfl, hR, c14⟩
  replace HC := HC.trans c14 q4
  replace ht := ht.tr c14 q1
  replace hmx := hmx.tr c14 q1
  replace hb4 := hb4.tr1 c14 (by omega)
  refine Wp rfl <| st_field (v := S _) T.fone51_1 rfl rfl <| Wp rfl <| st_bld (ps := [(0, .const (.int .i64 12)), (1, .tmp 13)]) (vs := [.int _ _, S _, .bool _, .bool _, .slice _ _ _, .slice _ _ _, .slice _ _ _, .slice _ _ _, .slice _ _ _]) T.bld30 rfl <| Wp rfl <| st_alloc T.zero30 ?_
  intro b3 w15 e16 c17 hb18
  have ge_b3 := gB e16 HC.size
  have ne_b2_b3 := nE e16 hb4.ne_size
  replace HC := HC.then c17
  replace ht := ht.tr0 c17
  replace hmx := hmx.tr0 c17
  replace hb4 := hb4.tr0 c17
  replace hR := hR.tr0 c17
  clear e16
  refine Wp rfl <| st_st (v := .agg ⟨[_, _, _, _, _, _, _, _, _]⟩) T.size30 rfl rfl rfl hb18 ?_
  intro w19 c20 hb21; simp only [setVs, setV] at hb21
  clear hb18
  replace HC := HC.then1 c20 ge_b3
  replace ht := ht.tr c20 q1
  replace hmx := hmx.tr c20 q1
  replace hb4 := hb4.tr1 c20 ne_b2_b3
  replace hR := hR.tr c20 q2
  refine en <| x_seq ?_
  have hgA := hg.tail (by rw [hyA]; decide)
  have hlA := tail_len hg
  refine x_region rfl <| mP rfl <| Wp rfl <| st_call (ags := [_]) rfl rfl T.ent14 rfl (glines_spec (Z := Z.tail) hgA hR hq) ?_
  rintro _ w22 ⟨hR, c23⟩
  replace HC := HC.trans c23 q4
  replace ht := ht.tr c23 q1
  replace hmx := hmx.tr c23 q1
  replace hb4 := hb4.tr1 c23 (by omega)
  replace hb21 := hb21.tr1 c23 (by omega)
  refine en <| x_seq <| x_seq ?_
  have hs1 := (lines_suf hgA).trans (Suf.tail hg (by rw [hyA]; decide))
  have hg1 := hs1.good
  refine x_region rfl <| mP rfl <| Wp rfl <| st_lit (ps := [(0, .const (S [105, 110]))]) (vs := [S _]) T.lit23 (by decide) rfl q6 rfl ?_
  intro b24 w25 e26 c27 hb28
  have ge_b24 := gB e26 HC.size
  replace HC := HC.then c27
  replace ht := ht.tr0 c27
  replace hmx := hmx.tr0 c27
  replace hb4 := hb4.tr0 c27
  replace hb21 := hb21.tr0 c27
  replace hR := hR.tr0 c27
  clear e26
  refine Wp rfl <| st_call (ags := [_, _, _]) rfl rfl T.ent63 rfl (gtake_spec (Z := (linesG Z.tail)) (l := [[105, 110]]) 1 hg1 hR hq (sl_str [[105, 110]] hb28) (by simp)) ?_
  rintro _ w29 ⟨rfl, hR, c30⟩
  replace HC := HC.trans c30 q4
  replace ht := ht.tr c30 q1
  replace hmx := hmx.tr c30 q1
  replace hb4 := hb4.tr1 c30 (by omega)
  replace hb21 := hb21.tr1 c30 (by omega)
  refine fa T.fld30_3 rfl <| Wp rfl <| st_st (v := .bool _) T.size4 rfl rfl rfl hb21 ?_
  intro w31 c32 hb33; simp only [setVs, setV] at hb33
  clear hb21
  replace HC := HC.then1 c32 ge_b3
  replace ht := ht.tr c32 q1
  replace hmx := hmx.tr c32 q1
  replace hb4 := hb4.tr1 c32 ne_b2_b3
  replace hR := hR.tr c32 q2
  refine en <| sr rfl <| fa T.fld30_3 rfl <| Wp rfl <| st_load1 (v := .bool _) T.one4 rfl (hb33.cell rfl) <| en <| x_cond rfl (fun h1 => ?_) (fun h1 => ?_)
  ·try simp only [nm, ne_eq] at h1
   have hin : isT 1 [[105, 110]] (linesG Z.tail) = true := by first | assumption | simp_all
   rw [if_pos hin] at hR
   have hsN := suf_isT hg1 hin (by decide)
   refine x_seq <| x_block ?_
   have oW : Own sE 9 w31 (fun k => w.heap.size ≤ k ∧ k ≠ b2 ∧ k ≠ b3) none 0 [] := Own.nil
   refine x_loop (ι := List Bytes × List Tok × Option Addr × Nat) [23, 24, 25, 26, 27, 28, 29, 30, 31, 32, 33, 34] (fun ⟨l, Y, A, cap⟩ => []) (fun ⟨l, Y, A, cap⟩ W => (wordsG [] (linesG Z.tail).tail = wordsG l Y ∧ Suf Y Z ∧ Y.length < Z.length ∧ l.length + Y.length ≤ Z.length) ∧ (Chg [rb] w W) ∧ (Tab W) ∧ (MaxT W) ∧ (Blk W b2 [.int .i64 0, S [], .bool false, .bool false, .slice none 0 0, .slice none 0 0, .slice none 0 0, .slice none 0 0, .slice none 0 0] 30) ∧ (RdAt W rb tb d Y) ∧ (Own sE 9 W (fun k => w.heap.size ≤ k ∧ k ≠ b2 ∧ k ≠ b3) A cap l) ∧ (Blk W b3 [.int .i64 12, S (hd Z).text, .bool false, .bool (isT 1 [[105, 110]] (linesG Z.tail)), .slice none 0 0, .slice A l.length cap, .slice none 0 0, .slice none 0 0, .slice none 0 0] 30)) (fun ⟨l, Y, A, cap⟩ => Y.length) ([], (linesG Z.tail).tail, none, 0) ?_ ?_ ?_
   · exact trivial
   ·refine ⟨?_, HC, ht, hmx, hb4, hR, oW, hb33⟩
    exact ⟨rfl, hsN.trans hs1, by have := hs1.len; have := tail_len hg1; have := tail_len hg; omega, by have := hs1.len; have := tail_len hg1; simp only [List.length_nil]; omega⟩
   intro ⟨l, Y, A, cap⟩ G35 w34 ⟨⟨hwe, hsY, hll, hl2⟩, HC, ht, hmx, hb4, hR, oW, hb3⟩
   change wp _ _ _ _ _ (upds (over _ _ G35) []) _ _
   have hgY := hsY.good
   refine x_seq <| sr rfl <| mP rfl <| Wp rfl <| st_call (ags := [_]) rfl rfl T.ent15 rfl (gtok_spec (Z := Y) hgY hR) ?_
   rintro _ w36 ⟨rfl, c37⟩
   replace HC := HC.then c37
   replace ht := ht.tr0 c37
   replace hmx := hmx.tr0 c37
   replace hb4 := hb4.tr0 c37
   replace hR := hR.tr0 c37
   replace oW := oW.tr0 c37
   replace hb3 := hb3.tr0 c37
   refine Wp rfl <| st_field (v := .int _ _) T.fone51_0 rfl rfl <| Wp rfl <| st_eql rfl rfl <| en <| x_cond rfl (fun h2 => ?_) (fun h2 => ?_)
   ·try simp only [nm, ne_eq] at h2
    have hk1 : (hd Y).kind = 1 := by first | assumption | simp_all
    refine x_skip <| then_n <| x_block <| x_draw [(0, 0), (1, 0), (2, 0), (3, 1), (4, 0), (5, 1), (6, 1), (7, 0), (8, 2)] T.mixed rfl rfl rfl (fun W => W.heap[b2]? = w36.heap[b2]? ∧ W.heap[b3]? = w36.heap[b3]? ∧ True) ⟨rfl, rfl, trivial⟩ ?_
    have o40 := hb4
    have o41 := hb3
    have c39 := Chg.drew w36
    generalize World.drew w36 = w38 at c39 ⊢
    replace HC := HC.then c39
    replace ht := ht.tr0 c39
    replace hmx := hmx.tr0 c39
    replace hb4 := hb4.tr0 c39
    replace hR := hR.tr0 c39
    replace oW := oW.tr0 c39
    replace hb3 := hb3.tr0 c39
    refine sq_q rfl (fun W hT => r_fieldAddr T.fld30_5 rfl) <| sq_q rfl (fun W hT => r_load1 (v := .slice _ _ _) T.one23 rfl (Blk.cell (show Blk W b3 _ _ from hT.2.1.trans o41) rfl)) <| sq_q rfl (fun W hT => r_move (v := .pointer _) rfl) <| sq_call1 rfl (r_call (ags := [_]) rfl rfl T.ent29 rfl) (gnext_spec (Z := Y) hgY hR hq) ?_
    rintro _ w42 ⟨rfl, hR, c43⟩
    replace HC := HC.trans c43 q4
    replace ht := ht.tr c43 q1
    replace hmx := hmx.tr c43 q1
    replace hb4 := hb4.tr1 c43 (by omega)
    replace oW := oW.trF flat_flat c43 (by intro k hk hx; have hD := oW.inD k hk; simp only [List.mem_cons, List.mem_nil_iff, or_false] at hx; first | omega)
    replace hb3 := hb3.tr1 c43 (by omega)
    refine ⟨_, fun _ h => h, ⟨(Eq.trans hb4 o40.symm), (Eq.trans hb3 o41.symm), trivial⟩, ?_⟩
    refine sq_q rfl (fun W hT => r_field (v := S _) T.fone51_1 rfl rfl) <| sq_lit1 (ps := [(0, .tmp 31)]) (vs := [S _]) rfl T.lit23 (by decide) rfl q6 rfl ?_
    intro b44 w45 e46 c47 hb48
    have ge_b44 := gB e46 HC.size
    have na_Wb44 : b44 ∉ ob A := oW.fresh (by rw [e46]; exact Nat.le_refl _)
    replace HC := HC.then c47
    replace ht := ht.tr0 c47
    replace hmx := hmx.tr0 c47
    replace hb4 := hb4.tr0 c47
    replace oW := oW.tr0 c47
    replace hb3 := hb3.tr0 c47
    replace hR := hR.tr0 c47
    clear e46
    refine ext_T (b := b44) ⟨(Eq.trans hb4 o40.symm), (Eq.trans hb3 o41.symm), trivial⟩ ?_
    have o49 := hb48
    have hszA := HC.size
    refine sq_append1 (c := sE) (D2 := fun _ => False) (xs := l) (ys := [(hd Y).text]) rfl T.slice23 rfl rfl oW rfl rfl (one_elem rfl (hb48.cells (n := 1) rfl)) (fun _ _ h => h.elim) (fun k hk => (by have h7 := HC.size; have h8 := hb4.lt; have h9 := hb3.lt; exact ⟨by omega, by omega, by omega⟩)) q7 q7 ?_
    intro A50 cap51 w52 ho53 c54 hg55
    replace HC := HC.trans c54 (fun k hk => .inr ((oW.inD k hk).1))
    replace ht := ht.tr c54 (fun hx => by first | (have h1 := (oW.inD _ hx).1; omega) | (have h1 : w.heap.size ≤ 0 := oW.inD _ hx; omega))
    replace hmx := hmx.tr c54 (by intro hx; have hD := oW.inD _ hx; omega)
    replace hb4 := hb4.tr c54 (fun hx => by first | (have h1 := oW.inD _ hx; omega) | exact na_Wb2 hx | exact hav _ hx (by simp))
    replace hb3 := hb3.tr c54 (fun hx => by first | (have h1 := oW.inD _ hx; omega) | exact na_Wb3 hx | exact hav _ hx (by simp))
    replace hR := hR.tr c54 (by intro k hk; have hD := oW.inD k hk; omega)
    replace hb48 := hb48.tr c54 (fun hx => by first | (have h1 := oW.inD _ hx; omega) | exact na_Wb44 hx | exact hav _ hx (by simp))
    refine ⟨_, fun _ h => h, ⟨(Eq.trans hb48 o49.symm), ⟨(Eq.trans hb4 o40.symm), (Eq.trans hb3 o41.symm), trivial⟩⟩, ?_⟩
    refine sq_q rfl (fun W hT => r_fieldAddr T.fld30_5 rfl) <| sq_store2 rfl T.size23 (v := .slice _ _ _) rfl rfl rfl hb3 rfl (Nat.le_of_ble_eq_true rfl) q5 rfl ?_
    intro w56 c57 hb58; simp only [setVs, setV] at hb58
    clear hb3
    replace HC := HC.then1 c57 ge_b3
    replace ht := ht.tr c57 q1
    replace hmx := hmx.tr c57 q1
    replace hb4 := hb4.tr1 c57 ne_b2_b3
    replace ho53 := ho53.trF flat_flat c57 (by intro k hk hx; have hD := ho53.inD k hk; simp only [List.mem_cons, List.mem_nil_iff, or_false] at hx; first | omega | (obtain rfl := hx; exact na_Wb3 hk))
    replace hR := hR.tr c57 q2
    clear o40
    clear o41
    clear o49
    refine sq_nil <| block_n <| then_n <| ⟨(l ++ [(hd Y).text], Y.tail, A50, cap51), ?_, ?_, rfl, trivial, ?_⟩
    ·refine ⟨?_, HC, ht, hmx, hb4, hR, ho53, (by rw [List.length_append]; exact hb58)⟩
     exact ⟨by rw [hwe, words_on hgY hk1], (Suf.tail hgY (by rw [hk1]; decide)).trans hsY, by have := tail_len hgY; omega, by have := tail_len hgY; simp only [List.length_append, List.length_cons, List.length_nil]; omega⟩
    ·show Y.tail.length < Y.length; have := tail_len hgY; omega
    exact q9
   ·try simp only [nm, ne_eq] at h2
    have hk1 : (hd Y).kind ≠ 1 := by first | assumption | simp_all
    have hwd := hwe.trans (words_off hgY hk1)
    refine x_exit <| then_x <| then_x <| block_x <| then_n <| x_seq <| sr rfl <| mP rfl <| Wp rfl <| st_lit (ps := [(0, .const (S [59]))]) (vs := [S _]) T.lit23 (by decide) rfl q6 rfl ?_
    intro b59 w60 e61 c62 hb63
    have ge_b59 := gB e61 HC.size
    have na_Wb59 : b59 ∉ ob A := oW.fresh (by rw [e61]; exact Nat.le_refl _)
    replace HC := HC.then c62
    replace ht := ht.tr0 c62
    replace hmx := hmx.tr0 c62
    replace hb4 := hb4.tr0 c62
    replace hR := hR.tr0 c62
    replace oW := oW.tr0 c62
    replace hb3 := hb3.tr0 c62
    clear e61
    refine Wp rfl <| st_call (ags := [_, _, _]) rfl rfl T.ent32 rfl (gis_spec (Z := Y) (l := [[59]]) 2 hgY hR (sl_str [[59]] hb63) (by simp)) ?_
    rintro _ w64 ⟨rfl, c65⟩
    replace HC := HC.then c65
    replace ht := ht.tr0 c65
    replace hmx := hmx.tr0 c65
    replace hb4 := hb4.tr0 c65
    replace hR := hR.tr0 c65
    replace oW := oW.tr0 c65
    replace hb3 := hb3.tr0 c65
    refine Wp rfl <| st_not rfl <| mB rfl <| w_split (d := 39) rfl (fun g66 => ?_) (fun g66 => ?_)
    ·try simp only [nm, ne_eq] at g66
     refine w_yes 4 39 true <| st_move (v := .pointer _) rfl <| w_yes 4 39 true <| st_call (ags := [_]) rfl rfl T.ent15 rfl (gtok_spec (Z := Y) hgY hR) ?_
     rintro _ w67 ⟨rfl, c68⟩
     replace HC := HC.then c68
     replace ht := ht.tr0 c68
     replace hmx := hmx.tr0 c68
     replace hb4 := hb4.tr0 c68
     replace hR := hR.tr0 c68
     replace oW := oW.tr0 c68
     replace hb3 := hb3.tr0 c68
     refine w_yes 4 39 true <| st_field (v := .int _ _) T.fone51_0 rfl rfl <| w_yes 4 39 true <| st_neq rfl rfl <| pT rfl rfl <| en <| x_cond rfl (fun h3 => ?_) (fun h3 => ?_)
     ·try simp only [nm, ne_eq] at h3
      have hse : isT 2 [[59]] Y = false ∧ (hd Y).kind ≠ 3 := by constructor <;> first | assumption | simp_all
      refine x_region rfl <| mP rfl <| w_plain rfl (st_callP (ags := [_, _]) rfl rfl T.ent17 rfl (gfail_spec 101 hgY hR) ?_ ?_)
      ·rintro _ w69 ⟨rfl, c70⟩
       replace HC := HC.then c70
       refine then_p <| then_p <| pp_panic ?_
       exact ⟨_, _, by simp only [eachG, hnm, Bool.true_eq_false, if_false, any_ok hyA, if_pos hin, hwd, if_pos hse, Rs.bind], hsY, rfl, HC⟩
      exact fun _ _ h9 => h9.elim
     ·try simp only [nm, ne_eq] at h3
      have hse : ¬ (isT 2 [[59]] Y = false ∧ (hd Y).kind ≠ 3) := by rintro ⟨h7, h8⟩; simp_all
      refine x_skip <| then_n ?_
      have hk0 : (hd Y).kind ≠ 0 := fun e => hse ⟨by unfold isT; rw [e]; rfl, by rw [e]; decide⟩
      refine x_region rfl <| mP rfl <| Wp rfl <| st_call (ags := [_]) rfl rfl T.ent29 rfl (gnext_spec (Z := Y) hgY hR hq) ?_
      rintro _ w71 ⟨rfl, hR, c72⟩
      replace HC := HC.trans c72 q4
      replace ht := ht.tr c72 q1
      replace hmx := hmx.tr c72 q1
      replace hb4 := hb4.tr1 c72 (by omega)
      replace oW := oW.trF flat_flat c72 (by intro k hk hx; have hD := oW.inD k hk; simp only [List.mem_cons, List.mem_nil_iff, or_false] at hx; first | omega)
      replace hb3 := hb3.tr1 c72 (by omega)
      refine en <| x_seq ?_
      have hsX0 : Suf Y.tail Z := (Suf.tail hgY hk0).trans hsY
      have hgX0 := hsX0.good
      refine x_region rfl <| mP rfl <| Wp rfl <| st_call (ags := [_]) rfl rfl T.ent14 rfl (glines_spec (Z := Y.tail) hgX0 hR hq) ?_
      rintro _ w73 ⟨hR, c74⟩
      replace HC := HC.trans c74 q4
      replace ht := ht.tr c74 q1
      replace hmx := hmx.tr c74 q1
      replace hb4 := hb4.tr1 c74 (by omega)
      replace oW := oW.trF flat_flat c74 (by intro k hk hx; have hD := oW.inD k hk; simp only [List.mem_cons, List.mem_nil_iff, or_false] at hx; first | omega)
      replace hb3 := hb3.tr1 c74 (by omega)
      refine en <| x_seq ?_
      have hsX := (lines_suf hgX0).trans hsX0
      have hgX := hsX.good
      have hzX := hsX.gb hz
      refine x_region rfl <| mP rfl ?_
      have ltD_b2 := hb4.lt
      have ltD_b3 := hb3.lt
      have olD_oW := oW.lt
      have szlD := HC.size
      refine w_plain rfl (st_callP (ags := [_]) rfl rfl T.ent100 rfl (gdo_spec hgX hzX hR hq hmx ht hcom) ?_ ?_)
      ·rintro _ w75 ⟨R9, e9, he9, hs9, rfl, c76⟩
       replace HC := HC.trans c76 q4
       refine then_p <| pp_panic ?_
       exact ⟨_, _, by simp only [eachG, hnm, Bool.true_eq_false, if_false, any_ok hyA, if_pos hin, hwd, if_neg hse, he9, Rs.bind], hs9.trans hsX, rfl, HC⟩
      rintro _ w77 ⟨cD, RD, vsD, heD, hsD, hlD, rfl, hvD, hR, c78⟩
      obtain ⟨A1D, n1D, A2D, n2D, A3D, n3D, A4D, n4D, A5D, n5D, rfl, hAD, k1D, k2D, k3D, k4D, k5D⟩ := cm_open hvD
      replace hvD := cmE.mono hvD (D' := (fun k => w73.heap.size ≤ k ∧ k < w77.heap.size)) (fun k hk h => ⟨h, hk⟩)
      have szD : w77.heap.size ≤ w77.heap.size := Nat.le_refl _
      have szmD := c78.size
      replace HC := HC.trans c78 q4
      replace hb4 := hb4.tr1 c78 (by omega)
      replace oW := oW.trF flat_flat c78 (by intro k hk hx; have hD := oW.inD k hk; simp only [List.mem_cons, List.mem_nil_iff, or_false] at hx; first | omega)
      replace hb3 := hb3.tr1 c78 (by omega)
      refine Wp rfl <| st_lit (ps := [(0, .tmp 55)]) (vs := [.int _ _, S _, .bool _, .bool _, .slice _ _ _, .slice _ _ _, .slice _ _ _, .slice _ _ _, .slice _ _ _]) T.lit27 (by decide) rfl q6 rfl ?_
      intro b79 w80 e81 c82 hb83
      have ge_b79 := gB e81 HC.size
      have ne_b2_b79 := nE e81 hb4.ne_size
      have ne_b3_b79 := nE e81 hb3.ne_size
      have na_Wb79 : b79 ∉ ob A := oW.fresh (by rw [e81]; exact Nat.le_refl _)
      have gq_szD_b79 : w77.heap.size ≤ b79 := by rw [e81]; exact szD
      replace HC := HC.then c82
      replace hb4 := hb4.tr0 c82
      replace oW := oW.tr0 c82
      replace hb3 := hb3.tr0 c82
      replace hR := hR.tr0 c82
      replace hvD := Enc.chg hvD c82 q8
      replace szD := Nat.le_trans szD c82.size
      clear e81
      refine fa T.fld30_7 rfl <| Wp rfl <| st_st (v := .slice _ _ _) T.size27 rfl rfl rfl hb3 ?_
      intro w84 c85 hb86; simp only [setVs, setV] at hb86
      clear hb3
      replace HC := HC.then1 c85 ge_b3
      replace hb4 := hb4.tr1 c85 ne_b2_b3
      replace oW := oW.trF flat_flat c85 (by intro k hk hx; have hD := oW.inD k hk; simp only [List.mem_cons, List.mem_nil_iff, or_false] at hx; first | omega | (obtain rfl := hx; exact na_Wb3 hk))
      replace hR := hR.tr c85 q2
      replace hvD := Enc.chg hvD c85 q3
      replace szD := Nat.le_trans szD c85.size
      replace hb83 := hb83.tr1 c85 (Ne.symm ne_b3_b79)
      refine en <| sr rfl <| Wp rfl <| st_loadA (vs := [_, _, _, _, _, _, _, _, _]) T.agg30 rfl (hb86.cells (n := 9) (vs := [_, _, _, _, _, _, _, _, _]) rfl) rfl <| Wp rfl <| st_st (v := .agg ⟨[_, _, _, _, _, _, _, _, _]⟩) T.size30 rfl rfl rfl hb4 ?_
      intro w87 c88 hb89; simp only [setVs, setV] at hb89
      clear hb4
      replace HC := HC.then1 c88 ge_b2
      replace oW := oW.trF flat_flat c88 (by intro k hk hx; have hD := oW.inD k hk; simp only [List.mem_cons, List.mem_nil_iff, or_false] at hx; first | omega | (obtain rfl := hx; exact na_Wb2 hk))
      replace hR := hR.tr c88 q2
      replace hvD := Enc.chg hvD c88 q3
      replace szD := Nat.le_trans szD c88.size
      replace hb83 := hb83.tr1 c88 (Ne.symm ne_b2_b79)
      refine en <| x_ret <| pp_ret <| ret_cellA (vs := [_, _, _, _, _, _, _, _, _]) rfl rfl T.agg30 (hb89.cells (n := 9) rfl) rfl ?_
      have oD : Own cmE 30 w87 (fun k => w.heap.size ≤ k ∧ k ≠ b2 ∧ k ≠ b3) (some ⟨b79, 0, none⟩) 1 [cD] := own_one hb83 ⟨by omega, (Ne.symm ne_b2_b79), (Ne.symm ne_b3_b79)⟩ hvD (fun k _ h => ⟨⟨by omega, by omega, by omega⟩, by omega⟩)
      exact ⟨.mk 12 (hd Z).text false true [] l [] [cD] [], RD, none, 0, _, _, _, _, none, 0, by simp only [eachG, hnm, Bool.true_eq_false, if_false, any_ok hyA, Rs.bind, if_pos hin, hwd, if_neg hse, heD], hsD.trans hsX, by have := hsX.len; omega, rfl, by rw [hin]; rfl, cm_shut ⟨.nil, oW.sl.mono (fun k _ h => h.1), .nil, oD.sl.mono (fun k _ h => h.1), .nil⟩ ⟨Nat.le_refl _, by decide⟩ oW.le ⟨Nat.le_refl _, by decide⟩ oD.le ⟨Nat.le_refl _, by decide⟩, hR, HC⟩
    ·try simp only [nm, ne_eq] at g66
     iterate 4 refine w_no 4 39 true ?_
     refine pF rfl rfl <| en <| x_cond (t := false) rfl (fun h3 => ?_) (fun h3 => ?_)
     · exact absurd h3 (by decide)
     have hse : ¬ (isT 2 [[59]] Y = false ∧ (hd Y).kind ≠ 3) := by rintro ⟨h7, h8⟩; simp_all
     refine x_skip <| then_n ?_
     have hk0 : (hd Y).kind ≠ 0 := fun e => hse ⟨by unfold isT; rw [e]; rfl, by rw [e]; decide⟩
     refine x_region rfl <| mP rfl <| Wp rfl <| st_call (ags := [_]) rfl rfl T.ent29 rfl (gnext_spec (Z := Y) hgY hR hq) ?_
     rintro _ w90 ⟨rfl, hR, c91⟩
     replace HC := HC.trans c91 q4
     replace ht := ht.tr c91 q1
     replace hmx := hmx.tr c91 q1
     replace hb4 := hb4.tr1 c91 (by omega)
     replace oW := oW.trF flat_flat c91 (by intro k hk hx; have hD := oW.inD k hk; simp only [List.mem_cons, List.mem_nil_iff, or_false] at hx; first | omega)
     replace hb3 := hb3.tr1 c91 (by omega)
     refine en <| x_seq ?_
     have hsX0 : Suf Y.tail Z := (Suf.tail hgY hk0).trans hsY
     have hgX0 := hsX0.good
     refine x_region rfl <| mP rfl <| Wp rfl <| st_call (ags := [_]) rfl rfl T.ent14 rfl (glines_spec (Z := Y.tail) hgX0 hR hq) ?_
     rintro _ w92 ⟨hR, c93⟩
     replace HC := HC.trans c93 q4
     replace ht := ht.tr c93 q1
     replace hmx := hmx.tr c93 q1
     replace hb4 := hb4.tr1 c93 (by omega)
     replace oW := oW.trF flat_flat c93 (by intro k hk hx; have hD := oW.inD k hk; simp only [List.mem_cons, List.mem_nil_iff, or_false] at hx; first | omega)
     replace hb3 := hb3.tr1 c93 (by omega)
     refine en <| x_seq ?_
     have hsX := (lines_suf hgX0).trans hsX0
     have hgX := hsX.good
     have hzX := hsX.gb hz
     refine x_region rfl <| mP rfl ?_
     have ltD_b2 := hb4.lt
     have ltD_b3 := hb3.lt
     have olD_oW := oW.lt
     have szlD := HC.size
     refine w_plain rfl (st_callP (ags := [_]) rfl rfl T.ent100 rfl (gdo_spec hgX hzX hR hq hmx ht hcom) ?_ ?_)
     ·rintro _ w94 ⟨R9, e9, he9, hs9, rfl, c95⟩
      replace HC := HC.trans c95 q4
      refine then_p <| pp_panic ?_
      exact ⟨_, _, by simp only [eachG, hnm, Bool.true_eq_false, if_false, any_ok hyA, if_pos hin, hwd, if_neg hse, he9, Rs.bind], hs9.trans hsX, rfl, HC⟩
     rintro _ w96 ⟨cD, RD, vsD, heD, hsD, hlD, rfl, hvD, hR, c97⟩
     obtain ⟨A1D, n1D, A2D, n2D, A3D, n3D, A4D, n4D, A5D, n5D, rfl, hAD, k1D, k2D, k3D, k4D, k5D⟩ := cm_open hvD
     replace hvD := cmE.mono hvD (D' := (fun k => w92.heap.size ≤ k ∧ k < w96.heap.size)) (fun k hk h => ⟨h, hk⟩)
     have szD : w96.heap.size ≤ w96.heap.size := Nat.le_refl _
     have szmD := c97.size
     replace HC := HC.trans c97 q4
     replace hb4 := hb4.tr1 c97 (by omega)
     replace oW := oW.trF flat_flat c97 (by intro k hk hx; have hD := oW.inD k hk; simp only [List.mem_cons, List.mem_nil_iff, or_false] at hx; first | omega)
     replace hb3 := hb3.tr1 c97 (by omega)
     refine Wp rfl <| st_lit (ps := [(0, .tmp 55)]) (vs := [.int _ _, S _, .bool _, .bool _, .slice _ _ _, .slice _ _ _, .slice _ _ _, .slice _ _ _, .slice _ _ _]) T.lit27 (by decide) rfl q6 rfl ?_
     intro b98 w99 e100 c101 hb102
     have ge_b98 := gB e100 HC.size
     have ne_b2_b98 := nE e100 hb4.ne_size
     have ne_b3_b98 := nE e100 hb3.ne_size
     have na_Wb98 : b98 ∉ ob A := oW.fresh (by rw [e100]; exact Nat.le_refl _)
     have gq_szD_b98 : w96.heap.size ≤ b98 := by rw [e100]; exact szD
     replace HC := HC.then c101
     replace hb4 := hb4.tr0 c101
     replace oW := oW.tr0 c101
     replace hb3 := hb3.tr0 c101
     replace hR := hR.tr0 c101
     replace hvD := Enc.chg hvD c101 q8
     replace szD := Nat.le_trans szD c101.size
     clear e100
     refine fa T.fld30_7 rfl <| Wp rfl <| st_st (v := .slice _ _ _) T.size27 rfl rfl rfl hb3 ?_
     intro w103 c104 hb105; simp only [setVs, setV] at hb105
     clear hb3
     replace HC := HC.then1 c104 ge_b3
     replace hb4 := hb4.tr1 c104 ne_b2_b3
     replace oW := oW.trF flat_flat c104 (by intro k hk hx; have hD := oW.inD k hk; simp only [List.mem_cons, List.mem_nil_iff, or_false] at hx; first | omega | (obtain rfl := hx; exact na_Wb3 hk))
     replace hR := hR.tr c104 q2
     replace hvD := Enc.chg hvD c104 q3
     replace szD := Nat.le_trans szD c104.size
     replace hb102 := hb102.tr1 c104 (Ne.symm ne_b3_b98)
     refine en <| sr rfl <| Wp rfl <| st_loadA (vs := [_, _, _, _, _, _, _, _, _]) T.agg30 rfl (hb105.cells (n := 9) (vs := [_, _, _, _, _, _, _, _, _]) rfl) rfl <| Wp rfl <| st_st (v := .agg ⟨[_, _, _, _, _, _, _, _, _]⟩) T.size30 rfl rfl rfl hb4 ?_
     intro w106 c107 hb108; simp only [setVs, setV] at hb108
     clear hb4
     replace HC := HC.then1 c107 ge_b2
     replace oW := oW.trF flat_flat c107 (by intro k hk hx; have hD := oW.inD k hk; simp only [List.mem_cons, List.mem_nil_iff, or_false] at hx; first | omega | (obtain rfl := hx; exact na_Wb2 hk))
     replace hR := hR.tr c107 q2
     replace hvD := Enc.chg hvD c107 q3
     replace szD := Nat.le_trans szD c107.size
     replace hb102 := hb102.tr1 c107 (Ne.symm ne_b2_b98)
     refine en <| x_ret <| pp_ret <| ret_cellA (vs := [_, _, _, _, _, _, _, _, _]) rfl rfl T.agg30 (hb108.cells (n := 9) rfl) rfl ?_
     have oD : Own cmE 30 w106 (fun k => w.heap.size ≤ k ∧ k ≠ b2 ∧ k ≠ b3) (some ⟨b98, 0, none⟩) 1 [cD] := own_one hb102 ⟨by omega, (Ne.symm ne_b2_b98), (Ne.symm ne_b3_b98)⟩ hvD (fun k _ h => ⟨⟨by omega, by omega, by omega⟩, by omega⟩)
     exact ⟨.mk 12 (hd Z).text false true [] l [] [cD] [], RD, none, 0, _, _, _, _, none, 0, by simp only [eachG, hnm, Bool.true_eq_false, if_false, any_ok hyA, Rs.bind, if_pos hin, hwd, if_neg hse, heD], hsD.trans hsX, by have := hsX.len; omega, rfl, by rw [hin]; rfl, cm_shut ⟨.nil, oW.sl.mono (fun k _ h => h.1), .nil, oD.sl.mono (fun k _ h => h.1), .nil⟩ ⟨Nat.le_refl _, by decide⟩ oW.le ⟨Nat.le_refl _, by decide⟩ oD.le ⟨Nat.le_refl _, by decide⟩, hR, HC⟩
  ·try simp only [nm, ne_eq] at h1
   have hin : isT 1 [[105, 110]] (linesG Z.tail) = false := by first | assumption | simp_all
   rw [if_neg (by rw [hin]; simp)] at hR
   refine x_region rfl <| mP rfl <| Wp rfl <| st_lit (ps := [(0, .const (S [59]))]) (vs := [S _]) T.lit23 (by decide) rfl q6 rfl ?_
   intro b109 w110 e111 c112 hb113
   have ge_b109 := gB e111 HC.size
   replace HC := HC.then c112
   replace ht := ht.tr0 c112
   replace hmx := hmx.tr0 c112
   replace hb4 := hb4.tr0 c112
   replace hR := hR.tr0 c112
   replace hb33 := hb33.tr0 c112
   clear e111
   refine Wp rfl <| st_call (ags := [_, _, _]) rfl rfl T.ent63 rfl (gtake_spec (Z := (linesG Z.tail)) (l := [[59]]) 2 hg1 hR hq (sl_str [[59]] hb113) (by simp)) ?_
   rintro _ w114 ⟨rfl, hR, c115⟩
   replace HC := HC.trans c115 q4
   replace ht := ht.tr c115 q1
   replace hmx := hmx.tr c115 q1
   replace hb4 := hb4.tr1 c115 (by omega)
   replace hb33 := hb33.tr1 c115 (by omega)
   refine en <| x_seq ?_
   have hsX0 : Suf (if isT 2 [[59]] (linesG Z.tail) = true then (linesG Z.tail).tail else linesG Z.tail) Z := (suf_take hg1 (by decide)).trans hs1
   have hgX0 := hsX0.good
   refine x_region rfl <| mP rfl <| Wp rfl <| st_call (ags := [_]) rfl rfl T.ent14 rfl (glines_spec (Z := (if isT 2 [[59]] (linesG Z.tail) = true then (linesG Z.tail).tail else linesG Z.tail)) hgX0 hR hq) ?_
   rintro _ w116 ⟨hR, c117⟩
   replace HC := HC.trans c117 q4
   replace ht := ht.tr c117 q1
   replace hmx := hmx.tr c117 q1
   replace hb4 := hb4.tr1 c117 (by omega)
   replace hb33 := hb33.tr1 c117 (by omega)
   refine en <| x_seq ?_
   have hsX := (lines_suf hgX0).trans hsX0
   have hgX := hsX.good
   have hzX := hsX.gb hz
   refine x_region rfl <| mP rfl ?_
   have ltD_b2 := hb4.lt
   have ltD_b3 := hb33.lt
   have szlD := HC.size
   refine w_plain rfl (st_callP (ags := [_]) rfl rfl T.ent100 rfl (gdo_spec hgX hzX hR hq hmx ht hcom) ?_ ?_)
   ·rintro _ w118 ⟨R9, e9, he9, hs9, rfl, c119⟩
    replace HC := HC.trans c119 q4
    refine then_p <| pp_panic ?_
    exact ⟨_, _, by simp only [eachG, hnm, Bool.true_eq_false, if_false, any_ok hyA, hin, Bool.false_eq_true, if_false, he9, Rs.bind], hs9.trans hsX, rfl, HC⟩
   rintro _ w120 ⟨cD, RD, vsD, heD, hsD, hlD, rfl, hvD, hR, c121⟩
   obtain ⟨A1D, n1D, A2D, n2D, A3D, n3D, A4D, n4D, A5D, n5D, rfl, hAD, k1D, k2D, k3D, k4D, k5D⟩ := cm_open hvD
   replace hvD := cmE.mono hvD (D' := (fun k => w116.heap.size ≤ k ∧ k < w120.heap.size)) (fun k hk h => ⟨h, hk⟩)
   have szD : w120.heap.size ≤ w120.heap.size := Nat.le_refl _
   have szmD := c121.size
   replace HC := HC.trans c121 q4
   replace hb4 := hb4.tr1 c121 (by omega)
   replace hb33 := hb33.tr1 c121 (by omega)
   refine Wp rfl <| st_lit (ps := [(0, .tmp 55)]) (vs := [.int _ _, S _, .bool _, .bool _, .slice _ _ _, .slice _ _ _, .slice _ _ _, .slice _ _ _, .slice _ _ _]) T.lit27 (by decide) rfl q6 rfl ?_
   intro b122 w123 e124 c125 hb126
   have ge_b122 := gB e124 HC.size
   have ne_b2_b122 := nE e124 hb4.ne_size
   have ne_b3_b122 := nE e124 hb33.ne_size
   have gq_szD_b122 : w120.heap.size ≤ b122 := by rw [e124]; exact szD
   replace HC := HC.then c125
   replace hb4 := hb4.tr0 c125
   replace hb33 := hb33.tr0 c125
   replace hR := hR.tr0 c125
   replace hvD := Enc.chg hvD c125 q8
   replace szD := Nat.le_trans szD c125.size
   clear e124
   refine fa T.fld30_7 rfl <| Wp rfl <| st_st (v := .slice _ _ _) T.size27 rfl rfl rfl hb33 ?_
   intro w127 c128 hb129; simp only [setVs, setV] at hb129
   clear hb33
   replace HC := HC.then1 c128 ge_b3
   replace hb4 := hb4.tr1 c128 ne_b2_b3
   replace hR := hR.tr c128 q2
   replace hvD := Enc.chg hvD c128 q3
   replace szD := Nat.le_trans szD c128.size
   replace hb126 := hb126.tr1 c128 (Ne.symm ne_b3_b122)
   refine en <| sr rfl <| Wp rfl <| st_loadA (vs := [_, _, _, _, _, _, _, _, _]) T.agg30 rfl (hb129.cells (n := 9) (vs := [_, _, _, _, _, _, _, _, _]) rfl) rfl <| Wp rfl <| st_st (v := .agg ⟨[_, _, _, _, _, _, _, _, _]⟩) T.size30 rfl rfl rfl hb4 ?_
   intro w130 c131 hb132; simp only [setVs, setV] at hb132
   clear hb4
   replace HC := HC.then1 c131 ge_b2
   replace hR := hR.tr c131 q2
   replace hvD := Enc.chg hvD c131 q3
   replace szD := Nat.le_trans szD c131.size
   replace hb126 := hb126.tr1 c131 (Ne.symm ne_b2_b122)
   refine en <| x_ret <| pp_ret <| ret_cellA (vs := [_, _, _, _, _, _, _, _, _]) rfl rfl T.agg30 (hb132.cells (n := 9) rfl) rfl ?_
   have oD : Own cmE 30 w130 (fun k => w.heap.size ≤ k ∧ k ≠ b2 ∧ k ≠ b3) (some ⟨b122, 0, none⟩) 1 [cD] := own_one hb126 ⟨by omega, (Ne.symm ne_b2_b122), (Ne.symm ne_b3_b122)⟩ hvD (fun k _ h => ⟨⟨by omega, by omega, by omega⟩, by omega⟩)
   exact ⟨.mk 12 (hd Z).text false false [] [] [] [cD] [], RD, none, 0, none, 0, _, _, none, 0, by simp only [eachG, hnm, Bool.true_eq_false, if_false, any_ok hyA, Rs.bind, hin, Bool.false_eq_true, heD], hsD.trans hsX, by have := hsX.len; omega, rfl, by rw [hin]; rfl, cm_shut ⟨.nil, .nil, .nil, oD.sl.mono (fun k _ h => h.1), .nil⟩ ⟨Nat.le_refl _, by decide⟩ ⟨Nat.le_refl _, by decide⟩ ⟨Nat.le_refl _, by decide⟩ oD.le ⟨Nat.le_refl _, by decide⟩, hR, HC⟩

end Go.Proofs.YtghjmiggobpmoaaGreatDoor.K
