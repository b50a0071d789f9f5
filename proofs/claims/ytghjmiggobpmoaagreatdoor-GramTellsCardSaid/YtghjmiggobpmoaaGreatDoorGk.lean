import Derived.Test.YtghjmiggobpmoaaGreatDoorTok
import Derived.Test.YtghjmiggobpmoaaGreatDoorGj
set_option linter.unusedVariables false
set_option linter.unusedSimpArgs false
set_option autoImplicit false
set_option maxRecDepth 20000
namespace Go.Proofs.YtghjmiggobpmoaaGreatDoor.K
open Go Go.Proofs Go.RowKit

theorem cm_at {w : World} {D : Nat → Prop} {c : Cm} {A1 A2 A3 A4 A5 : Option Addr} {c1 c2 c3 c4 c5 : Nat} (h : cmE.R w D c (cmC c A1 c1 A2 c2 A3 c3 A4 c4 A5 c5)) : CmAt w D c A1 A2 A3 A4 A5 ∧ capOk c.asg.length c1 ∧ capOk c.words.length c2 ∧ capOk c.rds.length c3 ∧ capOk c.kids.length c4 ∧ capOk c.items.length c5 := by
  obtain ⟨B1, b1, B2, b2, B3, b3, B4, b4, B5, b5, he, hA, ks⟩ := cm_open h
  simp only [cmC, List.cons.injEq, Value.slice.injEq, and_true, true_and] at he
  obtain ⟨⟨rfl, rfl⟩, ⟨rfl, rfl⟩, ⟨rfl, rfl⟩, ⟨rfl, rfl⟩, rfl, rfl⟩ := he
  exact ⟨hA, ks⟩
theorem CmAt.chg {w w' : World} {D : Nat → Prop} {c : Cm} {A1 A2 A3 A4 A5 : Option Addr} {bs : List Nat} (h : CmAt w D c A1 A2 A3 A4 A5) (k : Chg bs w w') (hb : ∀ b, b ∈ bs → ¬ D b) : CmAt w' D c A1 A2 A3 A4 A5 :=
  ⟨h.asg.tr k hb, h.words.tr k hb, h.rds.tr k hb, h.kids.tr k hb, h.items.tr k hb⟩
theorem CmAt.mono {w : World} {D D' : Nat → Prop} {c : Cm} {A1 A2 A3 A4 A5 : Option Addr} (h : CmAt w D c A1 A2 A3 A4 A5) (hm : ∀ k, k < w.heap.size → D k → D' k) : CmAt w D' c A1 A2 A3 A4 A5 :=
  ⟨h.asg.mono hm, h.words.mono hm, h.rds.mono hm, h.kids.mono hm, h.items.mono hm⟩
def resX : Nat → List Rdr → Option Rdr → List Tok → Rs (List Rdr)
  | n, l, none, Y => .ok l Y
  | n, l, some r, Y => redirsG n (l ++ [r]) Y
theorem redirs_step {n : Nat} {l : List Rdr} {x : Option Rdr} {Y R : List Tok} (h : redirG Y = .ok x R) : redirsG (n + 1) l Y = resX n l x R := by
  rw [redirsG, h]; cases x <;> rfl
theorem redirs_er {n : Nat} {l : List Rdr} {Y R : List Tok} {e : Int} (h : redirG Y = .er R e) : redirsG (n + 1) l Y = .er R e := by rw [redirsG, h]; rfl
theorem opens_kind {Z : List Tok} (h : opensB Z = true) : (hd Z).kind ≠ 0 := by
  intro e; unfold opensB isT at h; rw [e] at h; exact absurd h (by simp)

set_option maxHeartbeats 3200000 in
theorem gcomp_spec {Z : List Tok} {rb tb : Nat} {d : Int} {w : World} (hg : GT Z) (hz : GB Z) (hR : RdAt w rb tb d Z) (hq : QOk rb tb) (hmx : MaxT w) (ht : Tab w) {com : List Tok → Rs Cm} (hcom : ReadsC 64 com rb tb d) (hk0 : (hd Z).kind ≠ 0) : CallP Tryz.prog 79 #[.pointer (some ⟨rb, 0, none⟩)] w (fun v w' => OkC (compG com Z) Z rb tb d w w' v) (fun v w' => ErT (compG com Z) Z rb w w' v) := by
 refine callP_of_wp (args := [_]) Tryz.func79 rfl (Nat.le_of_ble_eq_true rfl) ?_
 have HC : Chg [rb] w w := .refl _
 have hrl := hR.lt hg
 have hq9 := hq
 obtain ⟨hq1, hq2, hq3⟩ := hq9
 have ht1 := ht.lt
 have hm1 := hmx.lt
 have hzl := hz.1
 refine sr rfl <| Wp rfl <| st_alloc T.zero30 ?_
 intro b2 w1 e2 c3 hb4
 have ge_b2 := gB e2 HC.size
 replace HC := HC.then c3
 replace hR := hR.tr0 c3
 replace ht := ht.tr0 c3
 replace hmx := hmx.tr0 c3
 clear e2
 refine en <| sr rfl <| mP rfl <| Wp rfl <| st_call (ags := [_]) rfl rfl T.ent29 rfl (gnext_spec (Z := Z) hg hR hq) ?_
 rintro _ w5 ⟨rfl, hR, c6⟩
 replace HC := HC.trans c6 q4
 replace ht := ht.tr c6 q1
 replace hmx := hmx.tr c6 q1
 replace hb4 := hb4.tr1 c6 (by omega)
 refine Wp rfl <| st_alloc T.zero51 ?_
 intro b3 w7 e8 c9 hb10
 have ge_b3 := gB e8 HC.size
 have ne_b2_b3 := nE e8 hb4.ne_size
 replace HC := HC.then c9
 replace ht := ht.tr0 c9
 replace hmx := hmx.tr0 c9
 replace hb4 := hb4.tr0 c9
 replace hR := hR.tr0 c9
 clear e8
 refine Wp rfl <| st_st (v := .agg ⟨[_, _, _, _, _]⟩) T.size51 rfl rfl rfl hb10 ?_
 intro w11 c12 hb13; simp only [setVs, setV] at hb13
 clear hb10
 replace HC := HC.then1 c12 ge_b3
 replace ht := ht.tr c12 q1
 replace hmx := hmx.tr c12 q1
 replace hb4 := hb4.tr1 c12 ne_b2_b3
 replace hR := hR.tr c12 q2
 refine en <| x_seq ?_
 have hsT := Suf.tail hg hk0
 have hgT := hsT.good
 have hzT := hsT.gb hz
 have hlT := tail_len hg
 refine x_region rfl <| Wp rfl <| st_bld (ps := []) (vs := [.int _ _, S _, .bool _, .bool _, .slice _ _ _, .slice _ _ _, .slice _ _ _, .slice _ _ _, .slice _ _ _]) T.bld30 rfl <| Wp rfl <| st_alloc T.zero30 ?_
 intro b4 w14 e15 c16 hb17
 have ge_b4 := gB e15 HC.size
 have ne_b2_b4 := nE e15 hb4.ne_size
 have ne_b3_b4 := nE e15 hb13.ne_size
 replace HC := HC.then c16
 replace ht := ht.tr0 c16
 replace hmx := hmx.tr0 c16
 replace hb4 := hb4.tr0 c16
 replace hR := hR.tr0 c16
 replace hb13 := hb13.tr0 c16
 clear e15
 refine Wp rfl <| st_st (v := .agg ⟨[_, _, _, _, _, _, _, _, _]⟩) T.size30 rfl rfl rfl hb17 ?_
 intro w18 c19 hb20; simp only [setVs, setV] at hb20
 clear hb17
 replace HC := HC.then1 c19 ge_b4
 replace ht := ht.tr c19 q1
 replace hmx := hmx.tr c19 q1
 replace hb4 := hb4.tr1 c19 ne_b2_b4
 replace hR := hR.tr c19 q2
 replace hb13 := hb13.tr1 c19 ne_b3_b4
 refine en <| x_seq <| sr rfl <| fa T.fld51_1 rfl <| lS T.one9 rfl (hb13.cell rfl) <| en <| x_block <| sr rfl <| Wp rfl <| st_seql rfl rfl <| aB rfl <| en <| x_cond rfl (fun h0 => ?_) (fun h0 => ?_)
 ·try simp only [nm, ne_eq] at h0
  refine sr rfl <| mP rfl ?_
  have ltB_b2 := hb4.lt
  have ltB_b3 := hb13.lt
  have ltB_b4 := hb20.lt
  have szlB := HC.size
  refine w_plain rfl (st_callP (ags := [_]) rfl rfl T.ent97 rfl (gbody_spec hgT hzT hR hq hmx ht hcom) ?_ ?_)
  ·rintro _ w21 ⟨R9, e9, he9, hs9, rfl, c22⟩
   replace HC := HC.trans c22 q4
   refine then_p <| block_p <| then_p <| pp_panic ?_
   have hin : innerG com Z = .er R9 e9 := by unfold innerG; rw [if_pos h0]; simp only [he9, Rs.bind]
   exact ⟨_, _, by rw [compG, hin]; rfl, hs9.trans hsT, rfl, HC⟩
  rintro _ w23 ⟨cB, RB, vsB, heB, hsB, hlB, rfl, hvB, hR, c24⟩
  obtain ⟨A1B, n1B, A2B, n2B, A3B, n3B, A4B, n4B, A5B, n5B, rfl, hAB, k1B, k2B, k3B, k4B, k5B⟩ := cm_open hvB
  replace hvB := cmE.mono hvB (D' := (fun k => w18.heap.size ≤ k ∧ k < w23.heap.size)) (fun k hk h => ⟨h, hk⟩)
  have szB : w23.heap.size ≤ w23.heap.size := Nat.le_refl _
  have szmB := c24.size
  replace HC := HC.trans c24 q4
  replace ht := ht.tr c24 q1
  replace hmx := hmx.tr c24 q1
  replace hb4 := hb4.tr1 c24 (by omega)
  replace hb20 := hb20.tr1 c24 (by omega)
  refine Wp rfl <| st_lit (ps := [(0, .tmp 17)]) (vs := [.int _ _, S _, .bool _, .bool _, .slice _ _ _, .slice _ _ _, .slice _ _ _, .slice _ _ _, .slice _ _ _]) T.lit27 (by decide) rfl q6 rfl ?_
  intro b25 w26 e27 c28 hb29
  have ge_b25 := gB e27 HC.size
  have ne_b2_b25 := nE e27 hb4.ne_size
  have ne_b4_b25 := nE e27 hb20.ne_size
  have gq_szB_b25 : w23.heap.size ≤ b25 := by rw [e27]; exact szB
  replace HC := HC.then c28
  replace ht := ht.tr0 c28
  replace hmx := hmx.tr0 c28
  replace hb4 := hb4.tr0 c28
  replace hb20 := hb20.tr0 c28
  replace hR := hR.tr0 c28
  replace hvB := Enc.chg hvB c28 q8
  replace szB := Nat.le_trans szB c28.size
  clear e27
  refine fa T.fld30_0 rfl <| Wp rfl <| st_st (v := .int _ _) T.size3 rfl rfl rfl hb20 ?_
  intro w30 c31 hb32; simp only [setVs, setV] at hb32
  clear hb20
  replace HC := HC.then1 c31 ge_b4
  replace ht := ht.tr c31 q1
  replace hmx := hmx.tr c31 q1
  replace hb4 := hb4.tr1 c31 ne_b2_b4
  replace hR := hR.tr c31 q2
  replace hvB := Enc.chg hvB c31 q3
  replace szB := Nat.le_trans szB c31.size
  replace hb29 := hb29.tr1 c31 (Ne.symm ne_b4_b25)
  refine fa T.fld30_7 rfl <| Wp rfl <| st_st (v := .slice _ _ _) T.size27 rfl rfl rfl hb32 ?_
  intro w33 c34 hb35; simp only [setVs, setV] at hb35
  clear hb32
  replace HC := HC.then1 c34 ge_b4
  replace ht := ht.tr c34 q1
  replace hmx := hmx.tr c34 q1
  replace hb4 := hb4.tr1 c34 ne_b2_b4
  replace hR := hR.tr c34 q2
  replace hvB := Enc.chg hvB c34 q3
  replace szB := Nat.le_trans szB c34.size
  replace hb29 := hb29.tr1 c34 (Ne.symm ne_b4_b25)
  refine en ?_
  have oK : Own cmE 30 w33 (fun k => w.heap.size ≤ k ∧ k ≠ b2 ∧ k ≠ b4) (some ⟨b25, 0, none⟩) 1 [cB] := own_one hb29 ⟨by omega, (Ne.symm ne_b2_b25), (Ne.symm ne_b4_b25)⟩ hvB (fun k _ h => ⟨⟨by omega, by omega, by omega⟩, by omega⟩)
  have hgB := hsB.good
  refine x_region rfl <| mP rfl <| w_plain rfl (st_callP (ags := [_, _, _]) rfl rfl T.ent98 rfl (gwant_spec (Z := RB) 2 [41] hgB hR hq) ?_ ?_)
  ·rintro _ w36 ⟨hwW, rfl, c37⟩
   replace HC := HC.trans c37 q4
   replace szB := Nat.le_trans szB c37.size
   refine block_p <| then_p <| pp_panic ?_
   have hin : innerG com Z = .er RB 101 := by unfold innerG; rw [if_pos h0]; simp only [heB, want_er hwW, Rs.bind]
   exact ⟨_, _, by rw [compG, hin]; rfl, hsB.trans hsT, rfl, HC⟩
  rintro _ w38 ⟨hwW, hR, c39⟩
  replace HC := HC.trans c39 q4
  replace ht := ht.tr c39 q1
  replace hmx := hmx.tr c39 q1
  replace hb4 := hb4.tr1 c39 (by omega)
  replace szB := Nat.le_trans szB c39.size
  replace hb35 := hb35.tr1 c39 (by omega)
  replace oK := oK.tr c39 q3
  refine wops_nil <| block_n <| then_n <| x_seq <| x_seq ?_
  obtain ⟨cI, A1I, n1I, A2I, n2I, A4I, n4I, A5I, n5I, RI, hin, hsI, hlI, hrI, hb4I, ⟨hAI, k1I, k2I, k3I, k4I, k5I⟩, hRI⟩ : ∃ cI A1I n1I A2I n2I A4I n4I A5I n5I RI, innerG com Z = .ok cI RI ∧ Suf RI Z ∧ RI.length < Z.length ∧ cI.rds = [] ∧ Blk w38 b4 [.int .i64 cI.kind, S cI.name, .bool cI.bang, .bool cI.inn, .slice A1I cI.asg.length n1I, .slice A2I cI.words.length n2I, .slice none 0 0, .slice A4I cI.kids.length n4I, .slice A5I cI.items.length n5I] 30 ∧ (CmAt w38 (fun k => (w.heap.size ≤ k ∧ k ≠ b2 ∧ k ≠ b4) ∧ k < w38.heap.size) cI A1I A2I none A4I A5I ∧ capOk cI.asg.length n1I ∧ capOk cI.words.length n2I ∧ capOk cI.rds.length 0 ∧ capOk cI.kids.length n4I ∧ capOk cI.items.length n5I) ∧ RdAt w38 rb tb d RI := ⟨kidsC 8 [cB], none, 0, none, 0, _, _, none, 0, RB.tail, (by unfold innerG; rw [if_pos h0]; simp only [heB, Rs.bind, want_ok hwW]), (suf_isT hgB hwW (by decide)).trans (hsB.trans hsT), by have := tail_len hgB; omega, rfl, hb35, ⟨⟨.nil, .nil, .nil, oK.sl.mono (fun k hk h => ⟨h, hk⟩), .nil⟩, ⟨Nat.le_refl _, by decide⟩, ⟨Nat.le_refl _, by decide⟩, ⟨Nat.le_refl _, by decide⟩, oK.le, ⟨Nat.le_refl _, by decide⟩⟩, hR⟩
  have hgI := hsI.good
  have hzI := hsI.gb hz
  have szWI : w38.heap.size ≤ w38.heap.size := Nat.le_refl _
  have szl0 := HC.size
  have lt0_b4 := hb35.lt
  have lt0_b2 := hb4.lt
  refine x_region rfl <| mP rfl <| w_plain rfl (st_callP (ags := [_]) rfl rfl T.ent103 rfl (gredir_spec (Z := RI) hgI hRI hq ht) ?_ ?_)
  ·rintro _ w40 ⟨R9, e9, he9, hs9, rfl, c41⟩
   replace HC := HC.trans c41 q4
   replace szWI := Nat.le_trans szWI c41.size
   refine then_p <| then_p <| pp_panic ?_
   exact ⟨_, _, by simp only [compG, hin, Rs.bind, hrI]; rw [show RI.length = RI.length - 1 + 1 by (have := hgI.pos; omega), redirs_er he9], hs9.trans hsI, rfl, HC⟩
  rintro _ w42 ⟨x0, R0, he0, hs0, hn0, hx0, rfl, hR, c43⟩
  replace HC := HC.trans c43 q4
  replace ht := ht.tr c43 q1
  replace hmx := hmx.tr c43 q1
  replace hb4 := hb4.tr1 c43 (by omega)
  replace hb4I := hb4I.tr1 c43 (by omega)
  replace szWI := Nat.le_trans szWI c43.size
  replace hAI := CmAt.chg hAI c43 q3
  refine mv (v := .tuple ⟨[_, _]⟩) rfl <| Wp rfl <| st_extract (vs := [_, _]) (v := .agg ⟨[.int _ _, S _, S _, S _, .bool _]⟩) rfl rfl <| Wp rfl <| st_extract (vs := [_, _]) (v := .bool _) rfl rfl <| Wp rfl <| st_alloc T.zero40 ?_
  intro b44 w45 e46 c47 hb48
  have ge_b44 := gB e46 HC.size
  have ne_b2_b44 := nE e46 hb4.ne_size
  have ne_b4_b44 := nE e46 hb4I.ne_size
  have gq_szWI_b44 : w38.heap.size ≤ b44 := by rw [e46]; exact szWI
  replace HC := HC.then c47
  replace ht := ht.tr0 c47
  replace hmx := hmx.tr0 c47
  replace hb4 := hb4.tr0 c47
  replace hb4I := hb4I.tr0 c47
  replace szWI := Nat.le_trans szWI c47.size
  replace hAI := CmAt.chg hAI c47 q8
  replace hR := hR.tr0 c47
  clear e46
  refine Wp rfl <| st_st (v := .agg ⟨[_, _, _, _, _]⟩) T.size40 rfl rfl rfl hb48 ?_
  intro w49 c50 hb51; simp only [setVs, setV] at hb51
  clear hb48
  replace HC := HC.then1 c50 ge_b44
  replace ht := ht.tr c50 q1
  replace hmx := hmx.tr c50 q1
  replace hb4 := hb4.tr1 c50 ne_b2_b44
  replace hb4I := hb4I.tr1 c50 ne_b4_b44
  replace szWI := Nat.le_trans szWI c50.size
  replace hAI := CmAt.chg hAI c50 q3
  replace hR := hR.tr c50 q2
  refine aB rfl <| en <| x_block ?_
  have oR : Own rdrE 40 w49 (fun k => w.heap.size ≤ k ∧ w38.heap.size ≤ k) none 0 [] := Own.nil
  refine x_loop (ι := Nat × List Rdr × List Tok × Option Rdr × Option Addr × Nat × Nat) [5, 6, 64, 65, 66, 67, 68, 69, 70, 71, 72, 73, 74, 75, 76] (fun ⟨n, l, Y, x, A, cap, bx⟩ => [(5, .pointer (some ⟨bx, 0, none⟩)), (6, .bool x.isSome)]) (fun ⟨n, l, Y, x, A, cap, bx⟩ W => (redirsG RI.length [] RI = resX n l x Y ∧ Suf Y Z ∧ (x ≠ none → Y.length ≤ n) ∧ l.length + (if x.isSome = true then 1 else 0) + Y.length ≤ Z.length ∧ Y.length < Z.length ∧ (bx ≠ b2 ∧ bx ≠ b4) ∧ w38.heap.size ≤ bx ∧ bx ∉ ob A) ∧ (Chg [rb] w W) ∧ (Tab W) ∧ (MaxT W) ∧ (Blk W b2 [.int .i64 0, S [], .bool false, .bool false, .slice none 0 0, .slice none 0 0, .slice none 0 0, .slice none 0 0, .slice none 0 0] 30) ∧ (w38.heap.size ≤ W.heap.size) ∧ (CmAt W (fun k => (w.heap.size ≤ k ∧ k ≠ b2 ∧ k ≠ b4) ∧ k < w38.heap.size) cI A1I A2I none A4I A5I) ∧ (RdAt W rb tb d Y) ∧ (Own rdrE 40 W (fun k => w.heap.size ≤ k ∧ w38.heap.size ≤ k) A cap l) ∧ (Blk W b4 [.int .i64 cI.kind, S cI.name, .bool cI.bang, .bool cI.inn, .slice A1I cI.asg.length n1I, .slice A2I cI.words.length n2I, .slice A l.length cap, .slice A4I cI.kids.length n4I, .slice A5I cI.items.length n5I] 30) ∧ (Blk W bx [.int .i64 (x.getD rnone).fd, S (x.getD rnone).op, S (x.getD rnone).word, S (x.getD rnone).here, .bool (x.getD rnone).raw] 40)) (fun ⟨n, l, Y, x, A, cap, bx⟩ => (if x.isSome = true then 1 else 0) + Y.length) (RI.length - 1, [], R0, x0, none, 0, b44) ?_ ?_ ?_
  · exact ⟨rfl, rfl, trivial⟩
  ·refine ⟨?_, HC, ht, hmx, hb4, szWI, hAI, hR, oR, hb4I, hb51⟩
   exact ⟨(by have h7 := hgI.pos; rw [show RI.length = RI.length - 1 + 1 by omega]; exact redirs_step he0), hs0.trans hsI, fun h => by have := hx0 h; omega, (by have h7 := hs0.len; have h8 := hsI.len; cases x0 with | none => simp; omega | some r0 => have h9 := hx0 (by simp); simp; omega), by have := hs0.len; omega, ⟨Ne.symm ne_b2_b44, Ne.symm ne_b4_b44⟩, gq_szWI_b44, by simp [ob]⟩
  intro ⟨n, l, Y, x, A, cap, bx⟩ G53 w52 ⟨⟨hre, hsY, hn, hll, hlz, hbx, hbx2, hbA⟩, HC, ht, hmx, hb4, szWI, hAI, hR, oR, hq4, hqx⟩
  change wp _ _ _ _ _ (upds (over _ _ G53) [(5, .pointer (some ⟨bx, 0, none⟩)), (6, .bool x.isSome)]) _ _
  have hgY := hsY.good
  have hpY := hgY.pos
  have gbx : w.heap.size ≤ bx := by omega
  refine x_seq <| sr rfl <| mB rfl <| en <| x_cond rfl (fun h7 => ?_) (fun h7 => ?_)
  ·try simp only [nm, ne_eq] at h7
   obtain ⟨r, rfl⟩ := Option.isSome_iff_exists.1 (show x.isSome = true by first | assumption | simp_all)
   have hn := hn (by simp)
   obtain ⟨n, rfl⟩ : ∃ m, n = m + 1 := ⟨n - 1, by omega⟩
   replace hll : l.length + 1 + Y.length ≤ Z.length := hll
   refine x_skip <| then_n <| x_seq <| x_block <| x_region rfl <| fa T.fld30_6 rfl <| lL T.one26 rfl (hq4.cell rfl) <| Wp rfl <| st_loadA (vs := [_, _, _, _, _]) T.agg40 rfl (hqx.cells (n := 5) (vs := [_, _, _, _, _]) rfl) rfl <| Wp rfl <| st_lit (ps := [(0, .tmp 72)]) (vs := [.int _ _, S _, S _, S _, .bool _]) T.lit26 (by decide) rfl q6 rfl ?_
   intro b54 w55 e56 c57 hb58
   have ge_b54 := gB e56 HC.size
   have gq_szWI_b54 : w38.heap.size ≤ b54 := by rw [e56]; exact szWI
   have na_Rb54 : b54 ∉ ob A := oR.fresh (by rw [e56]; exact Nat.le_refl _)
   replace HC := HC.then c57
   replace ht := ht.tr0 c57
   replace hmx := hmx.tr0 c57
   replace hb4 := hb4.tr0 c57
   replace szWI := Nat.le_trans szWI c57.size
   replace hAI := CmAt.chg hAI c57 q8
   replace hR := hR.tr0 c57
   replace oR := oR.tr0 c57
   replace hq4 := hq4.tr0 c57
   replace hqx := hqx.tr0 c57
   clear e56
   have hszA := HC.size
   refine Wp rfl <| st_append2 (c := rdrE) (D2 := fun _ => False) (xs := l) (ys := [r]) T.slice26 rfl rfl oR rfl rfl (one_elem rfl (hb58.cells (n := 5) rfl)) (fun _ _ h => h.elim) (fun k hk => (by have h8 := szWI; have h9 := HC.size; exact ⟨by omega, by omega⟩)) q7 q7 ?_
   intro A59 cap60 w61 ho62 c63 hg64
   replace HC := HC.trans c63 (fun k hk => .inr ((oR.inD k hk).1))
   replace ht := ht.tr c63 (fun hx => by first | (have h1 := (oR.inD _ hx).1; omega) | (have h1 : w.heap.size ≤ 0 := oR.inD _ hx; omega))
   replace hmx := hmx.tr c63 (by intro hx; have hD := oR.inD _ hx; omega)
   replace hb4 := hb4.tr c63 (fun hx => by first | (have h1 := oR.inD _ hx; omega) | exact na_Rb2 hx | exact hav _ hx (by simp))
   replace szWI := Nat.le_trans szWI c63.size
   replace hAI := CmAt.chg hAI c63 (by intro k hk hD; have h7 := (oR.inD k hk).2; omega)
   replace hR := hR.tr c63 (by intro k hk; have hD := oR.inD k hk; omega)
   replace hq4 := hq4.tr c63 (fun hx => by first | (have h1 := oR.inD _ hx; omega) | exact na_Rb4 hx | exact hav _ hx (by simp))
   replace hqx := hqx.tr c63 (fun hx => hbA hx)
   refine fa T.fld30_6 rfl <| Wp rfl <| st_st (v := .slice _ _ _) T.size26 rfl rfl rfl hq4 ?_
   intro w65 c66 hb67; simp only [setVs, setV] at hb67
   clear hq4
   replace HC := HC.then1 c66 ge_b4
   replace ht := ht.tr c66 q1
   replace hmx := hmx.tr c66 q1
   replace hb4 := hb4.tr1 c66 ne_b2_b4
   replace szWI := Nat.le_trans szWI c66.size
   replace hAI := CmAt.chg hAI c66 q3
   replace hR := hR.tr c66 q2
   replace ho62 := ho62.trF flat_flat c66 (by intro k hk hx; have hD := ho62.inD k hk; simp only [List.mem_cons, List.mem_nil_iff, or_false] at hx; first | omega | (obtain rfl := hx; exact na_Rb4 hk))
   replace hqx := hqx.tr1 c66 (by omega)
   refine wops_nil <| block_n <| then_n <| x_seq <| sr rfl <| Wp rfl <| st_loadA (vs := [_, _, _, _, _]) T.agg40 rfl (hqx.cells (n := 5) (vs := [_, _, _, _, _]) rfl) rfl <| en <| x_region rfl <| Wp rfl <| st_alloc T.zero40 ?_
   intro b68 w69 e70 c71 hb72
   have ge_b68 := gB e70 HC.size
   have ne_b2_b68 := nE e70 hb4.ne_size
   have ne_b4_b68 := nE e70 hb67.ne_size
   have gq_szWI_b68 : w38.heap.size ≤ b68 := by rw [e70]; exact szWI
   have na_Rb68 : b68 ∉ ob A59 := ho62.fresh (by rw [e70]; exact Nat.le_refl _)
   replace HC := HC.then c71
   replace ht := ht.tr0 c71
   replace hmx := hmx.tr0 c71
   replace hb4 := hb4.tr0 c71
   replace szWI := Nat.le_trans szWI c71.size
   replace hAI := CmAt.chg hAI c71 q8
   replace hR := hR.tr0 c71
   replace ho62 := ho62.tr0 c71
   replace hb67 := hb67.tr0 c71
   clear e70
   refine Wp rfl <| st_st (v := .agg ⟨[_, _, _, _, _]⟩) T.size40 rfl rfl rfl hb72 ?_
   intro w73 c74 hb75; simp only [setVs, setV] at hb75
   clear hb72
   replace HC := HC.then1 c74 ge_b68
   replace ht := ht.tr c74 q1
   replace hmx := hmx.tr c74 q1
   replace hb4 := hb4.tr1 c74 ne_b2_b68
   replace szWI := Nat.le_trans szWI c74.size
   replace hAI := CmAt.chg hAI c74 q3
   replace hR := hR.tr c74 q2
   replace ho62 := ho62.trF flat_flat c74 (by intro k hk hx; have hD := ho62.inD k hk; simp only [List.mem_cons, List.mem_nil_iff, or_false] at hx; first | omega | (obtain rfl := hx; exact na_Rb68 hk))
   replace hb67 := hb67.tr1 c74 ne_b4_b68
   refine en <| x_region rfl <| mP rfl <| w_plain rfl (st_callP (ags := [_]) rfl rfl T.ent103 rfl (gredir_spec (Z := Y) hgY hR hq ht) ?_ ?_)
   ·rintro _ w76 ⟨R9, e9, he9, hs9, rfl, c77⟩
    replace HC := HC.trans c77 q4
    replace szWI := Nat.le_trans szWI c77.size
    refine then_p <| block_p <| then_p <| pp_panic ?_
    exact ⟨_, _, by simp only [compG, hin, Rs.bind, hrI]; rw [hre]; show Rs.bind (redirsG (n + 1) (l ++ [r]) Y) _ = _; rw [redirs_er he9]; rfl, hs9.trans hsY, rfl, HC⟩
   rintro _ w78 ⟨x1, R1, he1, hs1, hn1, hx1, rfl, hR, c79⟩
   replace HC := HC.trans c79 q4
   replace ht := ht.tr c79 q1
   replace hmx := hmx.tr c79 q1
   replace hb4 := hb4.tr1 c79 (by omega)
   replace szWI := Nat.le_trans szWI c79.size
   replace hAI := CmAt.chg hAI c79 q3
   replace ho62 := ho62.trF flat_flat c79 (by intro k hk hx; have hD := ho62.inD k hk; simp only [List.mem_cons, List.mem_nil_iff, or_false] at hx; first | omega)
   replace hb67 := hb67.tr1 c79 (by omega)
   replace hb75 := hb75.tr1 c79 (by omega)
   refine mv (v := .tuple ⟨[_, _]⟩) rfl <| Wp rfl <| st_extract (vs := [_, _]) (v := .agg ⟨[.int _ _, S _, S _, S _, .bool _]⟩) rfl rfl <| Wp rfl <| st_extract (vs := [_, _]) (v := .bool _) rfl rfl <| Wp rfl <| st_st (v := .agg ⟨[_, _, _, _, _]⟩) T.size40 rfl rfl rfl hb75 ?_
   intro w80 c81 hb82; simp only [setVs, setV] at hb82
   clear hb75
   replace HC := HC.then1 c81 ge_b68
   replace ht := ht.tr c81 q1
   replace hmx := hmx.tr c81 q1
   replace hb4 := hb4.tr1 c81 ne_b2_b68
   replace szWI := Nat.le_trans szWI c81.size
   replace hAI := CmAt.chg hAI c81 q3
   replace ho62 := ho62.trF flat_flat c81 (by intro k hk hx; have hD := ho62.inD k hk; simp only [List.mem_cons, List.mem_nil_iff, or_false] at hx; first | omega | (obtain rfl := hx; exact na_Rb68 hk))
   replace hb67 := hb67.tr1 c81 ne_b4_b68
   replace hR := hR.tr c81 q2
   refine aB rfl <| en <| ⟨(n, l ++ [r], R1, x1, A59, cap60, b68), ?_, ?_, rfl, ⟨rfl, rfl, trivial⟩, ?_⟩
   ·refine ⟨?_, HC, ht, hmx, hb4, szWI, hAI, hR, ho62, hb67, hb82⟩
    exact ⟨by rw [hre]; show redirsG (n + 1) (l ++ [r]) Y = _; exact redirs_step he1, hs1.trans hsY, fun h => by have := hx1 h; omega, (by have h7 := hs1.len; simp only [List.length_append, List.length_cons, List.length_nil]; cases x1 with | none => simp; omega | some r1 => have h9 := hx1 (by simp); simp; omega), by have := hs1.len; omega, ⟨Ne.symm ne_b2_b68, Ne.symm ne_b4_b68⟩, gq_szWI_b68, na_Rb68⟩
   ·have hmu : (if x1.isSome = true then 1 else 0) + R1.length < 1 + Y.length := by cases x1 with | none => (have h7 := hn1 rfl; rw [h7]; simp) | some r1 => (have h9 := hx1 (by simp); simp; omega)
    exact hmu
   exact q9
  ·try simp only [nm, ne_eq] at h7
   obtain rfl : x = none := by cases x with | none => rfl | some _ => simp_all
   have hfin : redirsG RI.length [] RI = .ok l Y := hre
   refine x_exit <| then_x <| then_x <| block_x <| then_n <| sr rfl <| Wp rfl <| st_loadA (vs := [_, _, _, _, _, _, _, _, _]) T.agg30 rfl (hq4.cells (n := 9) (vs := [_, _, _, _, _, _, _, _, _]) rfl) rfl <| Wp rfl <| st_st (v := .agg ⟨[_, _, _, _, _, _, _, _, _]⟩) T.size30 rfl rfl rfl hb4 ?_
   intro w83 c84 hb85; simp only [setVs, setV] at hb85
   clear hb4
   replace HC := HC.then1 c84 ge_b2
   replace szWI := Nat.le_trans szWI c84.size
   replace hAI := CmAt.chg hAI c84 q3
   replace hR := hR.tr c84 q2
   replace oR := oR.trF flat_flat c84 (by intro k hk hx; have hD := oR.inD k hk; simp only [List.mem_cons, List.mem_nil_iff, or_false] at hx; first | omega | (obtain rfl := hx; exact na_Rb2 hk))
   refine en <| x_ret <| pp_ret <| ret_cellA (vs := [_, _, _, _, _, _, _, _, _]) rfl rfl T.agg30 (hb85.cells (n := 9) rfl) rfl ?_
   exact ⟨addR cI l, Y, _, by simp only [compG, hin, Rs.bind, hrI]; rw [hfin], hsY, hlz, rfl, cm_shut (c := addR cI l) ⟨hAI.asg.mono (fun k _ h => h.1.1), hAI.words.mono (fun k _ h => h.1.1), oR.sl.mono (fun k _ h => h.1), hAI.kids.mono (fun k _ h => h.1.1), hAI.items.mono (fun k _ h => h.1.1)⟩ k1I k2I oR.le k4I k5I, hR, HC⟩
 ·try simp only [nm, ne_eq] at h0
  refine sr rfl <| Wp rfl <| st_seql rfl rfl <| aB rfl <| en <| x_cond rfl (fun h1 => ?_) (fun h1 => ?_)
  ·try simp only [nm, ne_eq] at h1
   refine sr rfl <| mP rfl ?_
   have ltB_b2 := hb4.lt
   have ltB_b3 := hb13.lt
   have ltB_b4 := hb20.lt
   have szlB := HC.size
   refine w_plain rfl (st_callP (ags := [_]) rfl rfl T.ent97 rfl (gbody_spec hgT hzT hR hq hmx ht hcom) ?_ ?_)
   ·rintro _ w86 ⟨R9, e9, he9, hs9, rfl, c87⟩
    replace HC := HC.trans c87 q4
    refine then_p <| block_p <| then_p <| pp_panic ?_
    have hin : innerG com Z = .er R9 e9 := by unfold innerG; rw [if_neg h0, if_pos h1]; simp only [he9, Rs.bind]
    exact ⟨_, _, by rw [compG, hin]; rfl, hs9.trans hsT, rfl, HC⟩
   rintro _ w88 ⟨cB, RB, vsB, heB, hsB, hlB, rfl, hvB, hR, c89⟩
   obtain ⟨A1B, n1B, A2B, n2B, A3B, n3B, A4B, n4B, A5B, n5B, rfl, hAB, k1B, k2B, k3B, k4B, k5B⟩ := cm_open hvB
   replace hvB := cmE.mono hvB (D' := (fun k => w18.heap.size ≤ k ∧ k < w88.heap.size)) (fun k hk h => ⟨h, hk⟩)
   have szB : w88.heap.size ≤ w88.heap.size := Nat.le_refl _
   have szmB := c89.size
   replace HC := HC.trans c89 q4
   replace ht := ht.tr c89 q1
   replace hmx := hmx.tr c89 q1
   replace hb4 := hb4.tr1 c89 (by omega)
   replace hb20 := hb20.tr1 c89 (by omega)
   refine Wp rfl <| st_lit (ps := [(0, .tmp 26)]) (vs := [.int _ _, S _, .bool _, .bool _, .slice _ _ _, .slice _ _ _, .slice _ _ _, .slice _ _ _, .slice _ _ _]) T.lit27 (by decide) rfl q6 rfl ?_
   intro b90 w91 e92 c93 hb94
   have ge_b90 := gB e92 HC.size
   have ne_b2_b90 := nE e92 hb4.ne_size
   have ne_b4_b90 := nE e92 hb20.ne_size
   have gq_szB_b90 : w88.heap.size ≤ b90 := by rw [e92]; exact szB
   replace HC := HC.then c93
   replace ht := ht.tr0 c93
   replace hmx := hmx.tr0 c93
   replace hb4 := hb4.tr0 c93
   replace hb20 := hb20.tr0 c93
   replace hR := hR.tr0 c93
   replace hvB := Enc.chg hvB c93 q8
   replace szB := Nat.le_trans szB c93.size
   clear e92
   refine fa T.fld30_0 rfl <| Wp rfl <| st_st (v := .int _ _) T.size3 rfl rfl rfl hb20 ?_
   intro w95 c96 hb97; simp only [setVs, setV] at hb97
   clear hb20
   replace HC := HC.then1 c96 ge_b4
   replace ht := ht.tr c96 q1
   replace hmx := hmx.tr c96 q1
   replace hb4 := hb4.tr1 c96 ne_b2_b4
   replace hR := hR.tr c96 q2
   replace hvB := Enc.chg hvB c96 q3
   replace szB := Nat.le_trans szB c96.size
   replace hb94 := hb94.tr1 c96 (Ne.symm ne_b4_b90)
   refine fa T.fld30_7 rfl <| Wp rfl <| st_st (v := .slice _ _ _) T.size27 rfl rfl rfl hb97 ?_
   intro w98 c99 hb100; simp only [setVs, setV] at hb100
   clear hb97
   replace HC := HC.then1 c99 ge_b4
   replace ht := ht.tr c99 q1
   replace hmx := hmx.tr c99 q1
   replace hb4 := hb4.tr1 c99 ne_b2_b4
   replace hR := hR.tr c99 q2
   replace hvB := Enc.chg hvB c99 q3
   replace szB := Nat.le_trans szB c99.size
   replace hb94 := hb94.tr1 c99 (Ne.symm ne_b4_b90)
   refine en ?_
   have oK : Own cmE 30 w98 (fun k => w.heap.size ≤ k ∧ k ≠ b2 ∧ k ≠ b4) (some ⟨b90, 0, none⟩) 1 [cB] := own_one hb94 ⟨by omega, (Ne.symm ne_b2_b90), (Ne.symm ne_b4_b90)⟩ hvB (fun k _ h => ⟨⟨by omega, by omega, by omega⟩, by omega⟩)
   have hgB := hsB.good
   refine x_region rfl <| mP rfl <| w_plain rfl (st_callP (ags := [_, _, _]) rfl rfl T.ent98 rfl (gwant_spec (Z := RB) 1 [125] hgB hR hq) ?_ ?_)
   ·rintro _ w101 ⟨hwW, rfl, c102⟩
    replace HC := HC.trans c102 q4
    replace szB := Nat.le_trans szB c102.size
    refine block_p <| then_p <| pp_panic ?_
    have hin : innerG com Z = .er RB 101 := by unfold innerG; rw [if_neg h0, if_pos h1]; simp only [heB, want_er hwW, Rs.bind]
    exact ⟨_, _, by rw [compG, hin]; rfl, hsB.trans hsT, rfl, HC⟩
   rintro _ w103 ⟨hwW, hR, c104⟩
   replace HC := HC.trans c104 q4
   replace ht := ht.tr c104 q1
   replace hmx := hmx.tr c104 q1
   replace hb4 := hb4.tr1 c104 (by omega)
   replace szB := Nat.le_trans szB c104.size
   replace hb100 := hb100.tr1 c104 (by omega)
   replace oK := oK.tr c104 q3
   refine wops_nil <| block_n <| then_n <| x_seq <| x_seq ?_
   obtain ⟨cI, A1I, n1I, A2I, n2I, A4I, n4I, A5I, n5I, RI, hin, hsI, hlI, hrI, hb4I, ⟨hAI, k1I, k2I, k3I, k4I, k5I⟩, hRI⟩ : ∃ cI A1I n1I A2I n2I A4I n4I A5I n5I RI, innerG com Z = .ok cI RI ∧ Suf RI Z ∧ RI.length < Z.length ∧ cI.rds = [] ∧ Blk w103 b4 [.int .i64 cI.kind, S cI.name, .bool cI.bang, .bool cI.inn, .slice A1I cI.asg.length n1I, .slice A2I cI.words.length n2I, .slice none 0 0, .slice A4I cI.kids.length n4I, .slice A5I cI.items.length n5I] 30 ∧ (CmAt w103 (fun k => (w.heap.size ≤ k ∧ k ≠ b2 ∧ k ≠ b4) ∧ k < w103.heap.size) cI A1I A2I none A4I A5I ∧ capOk cI.asg.length n1I ∧ capOk cI.words.length n2I ∧ capOk cI.rds.length 0 ∧ capOk cI.kids.length n4I ∧ capOk cI.items.length n5I) ∧ RdAt w103 rb tb d RI := ⟨kidsC 7 [cB], none, 0, none, 0, _, _, none, 0, RB.tail, (by unfold innerG; rw [if_neg h0, if_pos h1]; simp only [heB, Rs.bind, want_ok hwW]), (suf_isT hgB hwW (by decide)).trans (hsB.trans hsT), by have := tail_len hgB; omega, rfl, hb100, ⟨⟨.nil, .nil, .nil, oK.sl.mono (fun k hk h => ⟨h, hk⟩), .nil⟩, ⟨Nat.le_refl _, by decide⟩, ⟨Nat.le_refl _, by decide⟩, ⟨Nat.le_refl _, by decide⟩, oK.le, ⟨Nat.le_refl _, by decide⟩⟩, hR⟩
   have hgI := hsI.good
   have hzI := hsI.gb hz
   have szWI : w103.heap.size ≤ w103.heap.size := Nat.le_refl _
   have szl0 := HC.size
   have lt0_b4 := hb100.lt
   have lt0_b2 := hb4.lt
   refine x_region rfl <| mP rfl <| w_plain rfl (st_callP (ags := [_]) rfl rfl T.ent103 rfl (gredir_spec (Z := RI) hgI hRI hq ht) ?_ ?_)
   ·rintro _ w105 ⟨R9, e9, he9, hs9, rfl, c106⟩
    replace HC := HC.trans c106 q4
    replace szWI := Nat.le_trans szWI c106.size
    refine then_p <| then_p <| pp_panic ?_
    exact ⟨_, _, by simp only [compG, hin, Rs.bind, hrI]; rw [show RI.length = RI.length - 1 + 1 by (have := hgI.pos; omega), redirs_er he9], hs9.trans hsI, rfl, HC⟩
   rintro _ w107 ⟨x0, R0, he0, hs0, hn0, hx0, rfl, hR, c108⟩
   replace HC := HC.trans c108 q4
   replace ht := ht.tr c108 q1
   replace hmx := hmx.tr c108 q1
   replace hb4 := hb4.tr1 c108 (by omega)
   replace hb4I := hb4I.tr1 c108 (by omega)
   replace szWI := Nat.le_trans szWI c108.size
   replace hAI := CmAt.chg hAI c108 q3
   refine mv (v := .tuple ⟨[_, _]⟩) rfl <| Wp rfl <| st_extract (vs := [_, _]) (v := .agg ⟨[.int _ _, S _, S _, S _, .bool _]⟩) rfl rfl <| Wp rfl <| st_extract (vs := [_, _]) (v := .bool _) rfl rfl <| Wp rfl <| st_alloc T.zero40 ?_
   intro b109 w110 e111 c112 hb113
   have ge_b109 := gB e111 HC.size
   have ne_b2_b109 := nE e111 hb4.ne_size
   have ne_b4_b109 := nE e111 hb4I.ne_size
   have gq_szWI_b109 : w103.heap.size ≤ b109 := by rw [e111]; exact szWI
   replace HC := HC.then c112
   replace ht := ht.tr0 c112
   replace hmx := hmx.tr0 c112
   replace hb4 := hb4.tr0 c112
   replace hb4I := hb4I.tr0 c112
   replace szWI := Nat.le_trans szWI c112.size
   replace hAI := CmAt.chg hAI c112 q8
   replace hR := hR.tr0 c112
   clear e111
   refine Wp rfl <| st_st (v := .agg ⟨[_, _, _, _, _]⟩) T.size40 rfl rfl rfl hb113 ?_
   intro w114 c115 hb116; simp only [setVs, setV] at hb116
   clear hb113
   replace HC := HC.then1 c115 ge_b109
   replace ht := ht.tr c115 q1
   replace hmx := hmx.tr c115 q1
   replace hb4 := hb4.tr1 c115 ne_b2_b109
   replace hb4I := hb4I.tr1 c115 ne_b4_b109
   replace szWI := Nat.le_trans szWI c115.size
   replace hAI := CmAt.chg hAI c115 q3
   replace hR := hR.tr c115 q2
   refine aB rfl <| en <| x_block ?_
   have oR : Own rdrE 40 w114 (fun k => w.heap.size ≤ k ∧ w103.heap.size ≤ k) none 0 [] := Own.nil
   refine x_loop (ι := Nat × List Rdr × List Tok × Option Rdr × Option Addr × Nat × Nat) [5, 6, 64, 65, 66, 67, 68, 69, 70, 71, 72, 73, 74, 75, 76] (fun ⟨n, l, Y, x, A, cap, bx⟩ => [(5, .pointer (some ⟨bx, 0, none⟩)), (6, .bool x.isSome)]) (fun ⟨n, l, Y, x, A, cap, bx⟩ W => (redirsG RI.length [] RI = resX n l x Y ∧ Suf Y Z ∧ (x ≠ none → Y.length ≤ n) ∧ l.length + (if x.isSome = true then 1 else 0) + Y.length ≤ Z.length ∧ Y.length < Z.length ∧ (bx ≠ b2 ∧ bx ≠ b4) ∧ w103.heap.size ≤ bx ∧ bx ∉ ob A) ∧ (Chg [rb] w W) ∧ (Tab W) ∧ (MaxT W) ∧ (Blk W b2 [.int .i64 0, S [], .bool false, .bool false, .slice none 0 0, .slice none 0 0, .slice none 0 0, .slice none 0 0, .slice none 0 0] 30) ∧ (w103.heap.size ≤ W.heap.size) ∧ (CmAt W (fun k => (w.heap.size ≤ k ∧ k ≠ b2 ∧ k ≠ b4) ∧ k < w103.heap.size) cI A1I A2I none A4I A5I) ∧ (RdAt W rb tb d Y) ∧ (Own rdrE 40 W (fun k => w.heap.size ≤ k ∧ w103.heap.size ≤ k) A cap l) ∧ (Blk W b4 [.int .i64 cI.kind, S cI.name, .bool cI.bang, .bool cI.inn, .slice A1I cI.asg.length n1I, .slice A2I cI.words.length n2I, .slice A l.length cap, .slice A4I cI.kids.length n4I, .slice A5I cI.items.length n5I] 30) ∧ (Blk W bx [.int .i64 (x.getD rnone).fd, S (x.getD rnone).op, S (x.getD rnone).word, S (x.getD rnone).here, .bool (x.getD rnone).raw] 40)) (fun ⟨n, l, Y, x, A, cap, bx⟩ => (if x.isSome = true then 1 else 0) + Y.length) (RI.length - 1, [], R0, x0, none, 0, b109) ?_ ?_ ?_
   · exact ⟨rfl, rfl, trivial⟩
   ·refine ⟨?_, HC, ht, hmx, hb4, szWI, hAI, hR, oR, hb4I, hb116⟩
    exact ⟨(by have h7 := hgI.pos; rw [show RI.length = RI.length - 1 + 1 by omega]; exact redirs_step he0), hs0.trans hsI, fun h => by have := hx0 h; omega, (by have h7 := hs0.len; have h8 := hsI.len; cases x0 with | none => simp; omega | some r0 => have h9 := hx0 (by simp); simp; omega), by have := hs0.len; omega, ⟨Ne.symm ne_b2_b109, Ne.symm ne_b4_b109⟩, gq_szWI_b109, by simp [ob]⟩
   intro ⟨n, l, Y, x, A, cap, bx⟩ G118 w117 ⟨⟨hre, hsY, hn, hll, hlz, hbx, hbx2, hbA⟩, HC, ht, hmx, hb4, szWI, hAI, hR, oR, hq4, hqx⟩
   change wp _ _ _ _ _ (upds (over _ _ G118) [(5, .pointer (some ⟨bx, 0, none⟩)), (6, .bool x.isSome)]) _ _
   have hgY := hsY.good
   have hpY := hgY.pos
   have gbx : w.heap.size ≤ bx := by omega
   refine x_seq <| sr rfl <| mB rfl <| en <| x_cond rfl (fun h7 => ?_) (fun h7 => ?_)
   ·try simp only [nm, ne_eq] at h7
    obtain ⟨r, rfl⟩ := Option.isSome_iff_exists.1 (show x.isSome = true by first | assumption | simp_all)
    have hn := hn (by simp)
    obtain ⟨n, rfl⟩ : ∃ m, n = m + 1 := ⟨n - 1, by omega⟩
    replace hll : l.length + 1 + Y.length ≤ Z.length := hll
    refine x_skip <| then_n <| x_seq <| x_block <| x_region rfl <| fa T.fld30_6 rfl <| lL T.one26 rfl (hq4.cell rfl) <| Wp rfl <| st_loadA (vs := [_, _, _, _, _]) T.agg40 rfl (hqx.cells (n := 5) (vs := [_, _, _, _, _]) rfl) rfl <| Wp rfl <| st_lit (ps := [(0, .tmp 72)]) (vs := [.int _ _, S _, S _, S _, .bool _]) T.lit26 (by decide) rfl q6 rfl ?_
    intro b119 w120 e121 c122 hb123
    have ge_b119 := gB e121 HC.size
    have gq_szWI_b119 : w103.heap.size ≤ b119 := by rw [e121]; exact szWI
    have na_Rb119 : b119 ∉ ob A := oR.fresh (by rw [e121]; exact Nat.le_refl _)
    replace HC := HC.then c122
    replace ht := ht.tr0 c122
    replace hmx := hmx.tr0 c122
    replace hb4 := hb4.tr0 c122
    replace szWI := Nat.le_trans szWI c122.size
    replace hAI := CmAt.chg hAI c122 q8
    replace hR := hR.tr0 c122
    replace oR := oR.tr0 c122
    replace hq4 := hq4.tr0 c122
    replace hqx := hqx.tr0 c122
    clear e121
    have hszA := HC.size
    refine Wp rfl <| st_append2 (c := rdrE) (D2 := fun _ => False) (xs := l) (ys := [r]) T.slice26 rfl rfl oR rfl rfl (one_elem rfl (hb123.cells (n := 5) rfl)) (fun _ _ h => h.elim) (fun k hk => (by have h8 := szWI; have h9 := HC.size; exact ⟨by omega, by omega⟩)) q7 q7 ?_
    intro A124 cap125 w126 ho127 c128 hg129
    replace HC := HC.trans c128 (fun k hk => .inr ((oR.inD k hk).1))
    replace ht := ht.tr c128 (fun hx => by first | (have h1 := (oR.inD _ hx).1; omega) | (have h1 : w.heap.size ≤ 0 := oR.inD _ hx; omega))
    replace hmx := hmx.tr c128 (by intro hx; have hD := oR.inD _ hx; omega)
    replace hb4 := hb4.tr c128 (fun hx => by first | (have h1 := oR.inD _ hx; omega) | exact na_Rb2 hx | exact hav _ hx (by simp))
    replace szWI := Nat.le_trans szWI c128.size
    replace hAI := CmAt.chg hAI c128 (by intro k hk hD; have h7 := (oR.inD k hk).2; omega)
    replace hR := hR.tr c128 (by intro k hk; have hD := oR.inD k hk; omega)
    replace hq4 := hq4.tr c128 (fun hx => by first | (have h1 := oR.inD _ hx; omega) | exact na_Rb4 hx | exact hav _ hx (by simp))
    replace hqx := hqx.tr c128 (fun hx => hbA hx)
    refine fa T.fld30_6 rfl <| Wp rfl <| st_st (v := .slice _ _ _) T.size26 rfl rfl rfl hq4 ?_
    intro w130 c131 hb132; simp only [setVs, setV] at hb132
    clear hq4
    replace HC := HC.then1 c131 ge_b4
    replace ht := ht.tr c131 q1
    replace hmx := hmx.tr c131 q1
    replace hb4 := hb4.tr1 c131 ne_b2_b4
    replace szWI := Nat.le_trans szWI c131.size
    replace hAI := CmAt.chg hAI c131 q3
    replace hR := hR.tr c131 q2
    replace ho127 := ho127.trF flat_flat c131 (by intro k hk hx; have hD := ho127.inD k hk; simp only [List.mem_cons, List.mem_nil_iff, or_false] at hx; first | omega | (obtain rfl := hx; exact na_Rb4 hk))
    replace hqx := hqx.tr1 c131 (by omega)
    refine wops_nil <| block_n <| then_n <| x_seq <| sr rfl <| Wp rfl <| st_loadA (vs := [_, _, _, _, _]) T.agg40 rfl (hqx.cells (n := 5) (vs := [_, _, _, _, _]) rfl) rfl <| en <| x_region rfl <| Wp rfl <| st_alloc T.zero40 ?_
    intro b133 w134 e135 c136 hb137
    have ge_b133 := gB e135 HC.size
    have ne_b2_b133 := nE e135 hb4.ne_size
    have ne_b4_b133 := nE e135 hb132.ne_size
    have gq_szWI_b133 : w103.heap.size ≤ b133 := by rw [e135]; exact szWI
    have na_Rb133 : b133 ∉ ob A124 := ho127.fresh (by rw [e135]; exact Nat.le_refl _)
    replace HC := HC.then c136
    replace ht := ht.tr0 c136
    replace hmx := hmx.tr0 c136
    replace hb4 := hb4.tr0 c136
    replace szWI := Nat.le_trans szWI c136.size
    replace hAI := CmAt.chg hAI c136 q8
    replace hR := hR.tr0 c136
    replace ho127 := ho127.tr0 c136
    replace hb132 := hb132.tr0 c136
    clear e135
    refine Wp rfl <| st_st (v := .agg ⟨[_, _, _, _, _]⟩) T.size40 rfl rfl rfl hb137 ?_
    intro w138 c139 hb140; simp only [setVs, setV] at hb140
    clear hb137
    replace HC := HC.then1 c139 ge_b133
    replace ht := ht.tr c139 q1
    replace hmx := hmx.tr c139 q1
    replace hb4 := hb4.tr1 c139 ne_b2_b133
    replace szWI := Nat.le_trans szWI c139.size
    replace hAI := CmAt.chg hAI c139 q3
    replace hR := hR.tr c139 q2
    replace ho127 := ho127.trF flat_flat c139 (by intro k hk hx; have hD := ho127.inD k hk; simp only [List.mem_cons, List.mem_nil_iff, or_false] at hx; first | omega | (obtain rfl := hx; exact na_Rb133 hk))
    replace hb132 := hb132.tr1 c139 ne_b4_b133
    refine en <| x_region rfl <| mP rfl <| w_plain rfl (st_callP (ags := [_]) rfl rfl T.ent103 rfl (gredir_spec (Z := Y) hgY hR hq ht) ?_ ?_)
    ·rintro _ w141 ⟨R9, e9, he9, hs9, rfl, c142⟩
     replace HC := HC.trans c142 q4
     replace szWI := Nat.le_trans szWI c142.size
     refine then_p <| block_p <| then_p <| pp_panic ?_
     exact ⟨_, _, by simp only [compG, hin, Rs.bind, hrI]; rw [hre]; show Rs.bind (redirsG (n + 1) (l ++ [r]) Y) _ = _; rw [redirs_er he9]; rfl, hs9.trans hsY, rfl, HC⟩
    rintro _ w143 ⟨x1, R1, he1, hs1, hn1, hx1, rfl, hR, c144⟩
    replace HC := HC.trans c144 q4
    replace ht := ht.tr c144 q1
    replace hmx := hmx.tr c144 q1
    replace hb4 := hb4.tr1 c144 (by omega)
    replace szWI := Nat.le_trans szWI c144.size
    replace hAI := CmAt.chg hAI c144 q3
    replace ho127 := ho127.trF flat_flat c144 (by intro k hk hx; have hD := ho127.inD k hk; simp only [List.mem_cons, List.mem_nil_iff, or_false] at hx; first | omega)
    replace hb132 := hb132.tr1 c144 (by omega)
    replace hb140 := hb140.tr1 c144 (by omega)
    refine mv (v := .tuple ⟨[_, _]⟩) rfl <| Wp rfl <| st_extract (vs := [_, _]) (v := .agg ⟨[.int _ _, S _, S _, S _, .bool _]⟩) rfl rfl <| Wp rfl <| st_extract (vs := [_, _]) (v := .bool _) rfl rfl <| Wp rfl <| st_st (v := .agg ⟨[_, _, _, _, _]⟩) T.size40 rfl rfl rfl hb140 ?_
    intro w145 c146 hb147; simp only [setVs, setV] at hb147
    clear hb140
    replace HC := HC.then1 c146 ge_b133
    replace ht := ht.tr c146 q1
    replace hmx := hmx.tr c146 q1
    replace hb4 := hb4.tr1 c146 ne_b2_b133
    replace szWI := Nat.le_trans szWI c146.size
    replace hAI := CmAt.chg hAI c146 q3
    replace ho127 := ho127.trF flat_flat c146 (by intro k hk hx; have hD := ho127.inD k hk; simp only [List.mem_cons, List.mem_nil_iff, or_false] at hx; first | omega | (obtain rfl := hx; exact na_Rb133 hk))
    replace hb132 := hb132.tr1 c146 ne_b4_b133
    replace hR := hR.tr c146 q2
    refine aB rfl <| en <| ⟨(n, l ++ [r], R1, x1, A124, cap125, b133), ?_, ?_, rfl, ⟨rfl, rfl, trivial⟩, ?_⟩
    ·refine ⟨?_, HC, ht, hmx, hb4, szWI, hAI, hR, ho127, hb132, hb147⟩
     exact ⟨by rw [hre]; show redirsG (n + 1) (l ++ [r]) Y = _; exact redirs_step he1, hs1.trans hsY, fun h => by have := hx1 h; omega, (by have h7 := hs1.len; simp only [List.length_append, List.length_cons, List.length_nil]; cases x1 with | none => simp; omega | some r1 => have h9 := hx1 (by simp); simp; omega), by have := hs1.len; omega, ⟨Ne.symm ne_b2_b133, Ne.symm ne_b4_b133⟩, gq_szWI_b133, na_Rb133⟩
    ·have hmu : (if x1.isSome = true then 1 else 0) + R1.length < 1 + Y.length := by cases x1 with | none => (have h7 := hn1 rfl; rw [h7]; simp) | some r1 => (have h9 := hx1 (by simp); simp; omega)
     exact hmu
    exact q9
   ·try simp only [nm, ne_eq] at h7
    obtain rfl : x = none := by cases x with | none => rfl | some _ => simp_all
    have hfin : redirsG RI.length [] RI = .ok l Y := hre
    refine x_exit <| then_x <| then_x <| block_x <| then_n <| sr rfl <| Wp rfl <| st_loadA (vs := [_, _, _, _, _, _, _, _, _]) T.agg30 rfl (hq4.cells (n := 9) (vs := [_, _, _, _, _, _, _, _, _]) rfl) rfl <| Wp rfl <| st_st (v := .agg ⟨[_, _, _, _, _, _, _, _, _]⟩) T.size30 rfl rfl rfl hb4 ?_
    intro w148 c149 hb150; simp only [setVs, setV] at hb150
    clear hb4
    replace HC := HC.then1 c149 ge_b2
    replace szWI := Nat.le_trans szWI c149.size
    replace hAI := CmAt.chg hAI c149 q3
    replace hR := hR.tr c149 q2
    replace oR := oR.trF flat_flat c149 (by intro k hk hx; have hD := oR.inD k hk; simp only [List.mem_cons, List.mem_nil_iff, or_false] at hx; first | omega | (obtain rfl := hx; exact na_Rb2 hk))
    refine en <| x_ret <| pp_ret <| ret_cellA (vs := [_, _, _, _, _, _, _, _, _]) rfl rfl T.agg30 (hb150.cells (n := 9) rfl) rfl ?_
    exact ⟨addR cI l, Y, _, by simp only [compG, hin, Rs.bind, hrI]; rw [hfin], hsY, hlz, rfl, cm_shut (c := addR cI l) ⟨hAI.asg.mono (fun k _ h => h.1.1), hAI.words.mono (fun k _ h => h.1.1), oR.sl.mono (fun k _ h => h.1), hAI.kids.mono (fun k _ h => h.1.1), hAI.items.mono (fun k _ h => h.1.1)⟩ k1I k2I oR.le k4I k5I, hR, HC⟩
  ·try simp only [nm, ne_eq] at h1
   refine sr rfl <| Wp rfl <| st_seql rfl rfl <| aB rfl <| en <| x_cond rfl (fun h2 => ?_) (fun h2 => ?_)
   ·try simp only [nm, ne_eq] at h2
    refine x_region rfl <| mP rfl ?_
    have ltB_b2 := hb4.lt
    have ltB_b3 := hb13.lt
    have ltB_b4 := hb20.lt
    have szlB := HC.size
    refine w_plain rfl (st_callP (ags := [_]) rfl rfl T.ent99 rfl ((gbranch_spec hcom hq Z.length Z.tail _ (by omega) hgT hzT hR hmx ht)) ?_ ?_)
    ·rintro _ w151 ⟨R9, e9, he9, hs9, rfl, c152⟩
     replace HC := HC.trans c152 q4
     refine block_p <| then_p <| pp_panic ?_
     have hin : innerG com Z = .er R9 e9 := by unfold innerG; rw [if_neg h0, if_neg h1, if_pos h2]; exact he9
     exact ⟨_, _, by rw [compG, hin]; rfl, hs9.trans hsT, rfl, HC⟩
    rintro _ w153 ⟨cB, RB, A1B, n1B, A2B, n2B, A4B, n4B, A5B, n5B, heB, hsB, hlB, hrB, rfl, hvB, hR, c154⟩
    replace hvB := cmE.mono hvB (D' := (fun k => w18.heap.size ≤ k ∧ k < w153.heap.size)) (fun k hk h => ⟨h, hk⟩)
    have szB : w153.heap.size ≤ w153.heap.size := Nat.le_refl _
    have szmB := c154.size
    replace HC := HC.trans c154 q4
    replace ht := ht.tr c154 q1
    replace hmx := hmx.tr c154 q1
    replace hb4 := hb4.tr1 c154 (by omega)
    replace hb20 := hb20.tr1 c154 (by omega)
    refine Wp rfl <| st_st (v := .agg ⟨[_, _, _, _, _, _, _, _, _]⟩) T.size30 rfl rfl rfl hb20 ?_
    intro w155 c156 hb157; simp only [setVs, setV] at hb157
    clear hb20
    replace HC := HC.then1 c156 ge_b4
    replace ht := ht.tr c156 q1
    replace hmx := hmx.tr c156 q1
    replace hb4 := hb4.tr1 c156 ne_b2_b4
    replace hR := hR.tr c156 q2
    replace hvB := Enc.chg hvB c156 q3
    replace szB := Nat.le_trans szB c156.size
    refine wops_nil <| block_n <| then_n <| x_seq <| x_seq ?_
    obtain ⟨cI, A1I, n1I, A2I, n2I, A4I, n4I, A5I, n5I, RI, hin, hsI, hlI, hrI, hb4I, ⟨hAI, k1I, k2I, k3I, k4I, k5I⟩, hRI⟩ : ∃ cI A1I n1I A2I n2I A4I n4I A5I n5I RI, innerG com Z = .ok cI RI ∧ Suf RI Z ∧ RI.length < Z.length ∧ cI.rds = [] ∧ Blk w155 b4 [.int .i64 cI.kind, S cI.name, .bool cI.bang, .bool cI.inn, .slice A1I cI.asg.length n1I, .slice A2I cI.words.length n2I, .slice none 0 0, .slice A4I cI.kids.length n4I, .slice A5I cI.items.length n5I] 30 ∧ (CmAt w155 (fun k => (w.heap.size ≤ k ∧ k ≠ b2 ∧ k ≠ b4) ∧ k < w155.heap.size) cI A1I A2I none A4I A5I ∧ capOk cI.asg.length n1I ∧ capOk cI.words.length n2I ∧ capOk cI.rds.length 0 ∧ capOk cI.kids.length n4I ∧ capOk cI.items.length n5I) ∧ RdAt w155 rb tb d RI := ⟨cB, A1B, n1B, A2B, n2B, A4B, n4B, A5B, n5B, RB, (by unfold innerG; rw [if_neg h0, if_neg h1, if_pos h2]; exact heB), hsB.trans hsT, by omega, hrB, (by have h7 := hb157; rw [hrB] at h7; exact h7), (cm_at hvB).imp (fun h => h.mono (fun k hk h => ⟨⟨by omega, by omega, by omega⟩, hk⟩)) id, hR⟩
    have hgI := hsI.good
    have hzI := hsI.gb hz
    have szWI : w155.heap.size ≤ w155.heap.size := Nat.le_refl _
    have szl0 := HC.size
    have lt0_b4 := hb157.lt
    have lt0_b2 := hb4.lt
    refine x_region rfl <| mP rfl <| w_plain rfl (st_callP (ags := [_]) rfl rfl T.ent103 rfl (gredir_spec (Z := RI) hgI hRI hq ht) ?_ ?_)
    ·rintro _ w158 ⟨R9, e9, he9, hs9, rfl, c159⟩
     replace HC := HC.trans c159 q4
     replace szWI := Nat.le_trans szWI c159.size
     refine then_p <| then_p <| pp_panic ?_
     exact ⟨_, _, by simp only [compG, hin, Rs.bind, hrI]; rw [show RI.length = RI.length - 1 + 1 by (have := hgI.pos; omega), redirs_er he9], hs9.trans hsI, rfl, HC⟩
    rintro _ w160 ⟨x0, R0, he0, hs0, hn0, hx0, rfl, hR, c161⟩
    replace HC := HC.trans c161 q4
    replace ht := ht.tr c161 q1
    replace hmx := hmx.tr c161 q1
    replace hb4 := hb4.tr1 c161 (by omega)
    replace hb4I := hb4I.tr1 c161 (by omega)
    replace szWI := Nat.le_trans szWI c161.size
    replace hAI := CmAt.chg hAI c161 q3
    refine mv (v := .tuple ⟨[_, _]⟩) rfl <| Wp rfl <| st_extract (vs := [_, _]) (v := .agg ⟨[.int _ _, S _, S _, S _, .bool _]⟩) rfl rfl <| Wp rfl <| st_extract (vs := [_, _]) (v := .bool _) rfl rfl <| Wp rfl <| st_alloc T.zero40 ?_
    intro b162 w163 e164 c165 hb166
    have ge_b162 := gB e164 HC.size
    have ne_b2_b162 := nE e164 hb4.ne_size
    have ne_b4_b162 := nE e164 hb4I.ne_size
    have gq_szWI_b162 : w155.heap.size ≤ b162 := by rw [e164]; exact szWI
    replace HC := HC.then c165
    replace ht := ht.tr0 c165
    replace hmx := hmx.tr0 c165
    replace hb4 := hb4.tr0 c165
    replace hb4I := hb4I.tr0 c165
    replace szWI := Nat.le_trans szWI c165.size
    replace hAI := CmAt.chg hAI c165 q8
    replace hR := hR.tr0 c165
    clear e164
    refine Wp rfl <| st_st (v := .agg ⟨[_, _, _, _, _]⟩) T.size40 rfl rfl rfl hb166 ?_
    intro w167 c168 hb169; simp only [setVs, setV] at hb169
    clear hb166
    replace HC := HC.then1 c168 ge_b162
    replace ht := ht.tr c168 q1
    replace hmx := hmx.tr c168 q1
    replace hb4 := hb4.tr1 c168 ne_b2_b162
    replace hb4I := hb4I.tr1 c168 ne_b4_b162
    replace szWI := Nat.le_trans szWI c168.size
    replace hAI := CmAt.chg hAI c168 q3
    replace hR := hR.tr c168 q2
    refine aB rfl <| en <| x_block ?_
    have oR : Own rdrE 40 w167 (fun k => w.heap.size ≤ k ∧ w155.heap.size ≤ k) none 0 [] := Own.nil
    refine x_loop (ι := Nat × List Rdr × List Tok × Option Rdr × Option Addr × Nat × Nat) [5, 6, 64, 65, 66, 67, 68, 69, 70, 71, 72, 73, 74, 75, 76] (fun ⟨n, l, Y, x, A, cap, bx⟩ => [(5, .pointer (some ⟨bx, 0, none⟩)), (6, .bool x.isSome)]) (fun ⟨n, l, Y, x, A, cap, bx⟩ W => (redirsG RI.length [] RI = resX n l x Y ∧ Suf Y Z ∧ (x ≠ none → Y.length ≤ n) ∧ l.length + (if x.isSome = true then 1 else 0) + Y.length ≤ Z.length ∧ Y.length < Z.length ∧ (bx ≠ b2 ∧ bx ≠ b4) ∧ w155.heap.size ≤ bx ∧ bx ∉ ob A) ∧ (Chg [rb] w W) ∧ (Tab W) ∧ (MaxT W) ∧ (Blk W b2 [.int .i64 0, S [], .bool false, .bool false, .slice none 0 0, .slice none 0 0, .slice none 0 0, .slice none 0 0, .slice none 0 0] 30) ∧ (w155.heap.size ≤ W.heap.size) ∧ (CmAt W (fun k => (w.heap.size ≤ k ∧ k ≠ b2 ∧ k ≠ b4) ∧ k < w155.heap.size) cI A1I A2I none A4I A5I) ∧ (RdAt W rb tb d Y) ∧ (Own rdrE 40 W (fun k => w.heap.size ≤ k ∧ w155.heap.size ≤ k) A cap l) ∧ (Blk W b4 [.int .i64 cI.kind, S cI.name, .bool cI.bang, .bool cI.inn, .slice A1I cI.asg.length n1I, .slice A2I cI.words.length n2I, .slice A l.length cap, .slice A4I cI.kids.length n4I, .slice A5I cI.items.length n5I] 30) ∧ (Blk W bx [.int .i64 (x.getD rnone).fd, S (x.getD rnone).op, S (x.getD rnone).word, S (x.getD rnone).here, .bool (x.getD rnone).raw] 40)) (fun ⟨n, l, Y, x, A, cap, bx⟩ => (if x.isSome = true then 1 else 0) + Y.length) (RI.length - 1, [], R0, x0, none, 0, b162) ?_ ?_ ?_
    · exact ⟨rfl, rfl, trivial⟩
    ·refine ⟨?_, HC, ht, hmx, hb4, szWI, hAI, hR, oR, hb4I, hb169⟩
     exact ⟨(by have h7 := hgI.pos; rw [show RI.length = RI.length - 1 + 1 by omega]; exact redirs_step he0), hs0.trans hsI, fun h => by have := hx0 h; omega, (by have h7 := hs0.len; have h8 := hsI.len; cases x0 with | none => simp; omega | some r0 => have h9 := hx0 (by simp); simp; omega), by have := hs0.len; omega, ⟨Ne.symm ne_b2_b162, Ne.symm ne_b4_b162⟩, gq_szWI_b162, by simp [ob]⟩
    intro ⟨n, l, Y, x, A, cap, bx⟩ G171 w170 ⟨⟨hre, hsY, hn, hll, hlz, hbx, hbx2, hbA⟩, HC, ht, hmx, hb4, szWI, hAI, hR, oR, hq4, hqx⟩
    change wp _ _ _ _ _ (upds (over _ _ G171) [(5, .pointer (some ⟨bx, 0, none⟩)), (6, .bool x.isSome)]) _ _
    have hgY := hsY.good
    have hpY := hgY.pos
    have gbx : w.heap.size ≤ bx := by omega
    refine x_seq <| sr rfl <| mB rfl <| en <| x_cond rfl (fun h7 => ?_) (fun h7 => ?_)
    ·try simp only [nm, ne_eq] at h7
     obtain ⟨r, rfl⟩ := Option.isSome_iff_exists.1 (show x.isSome = true by first | assumption | simp_all)
     have hn := hn (by simp)
     obtain ⟨n, rfl⟩ : ∃ m, n = m + 1 := ⟨n - 1, by omega⟩
     replace hll : l.length + 1 + Y.length ≤ Z.length := hll
     refine x_skip <| then_n <| x_seq <| x_block <| x_region rfl <| fa T.fld30_6 rfl <| lL T.one26 rfl (hq4.cell rfl) <| Wp rfl <| st_loadA (vs := [_, _, _, _, _]) T.agg40 rfl (hqx.cells (n := 5) (vs := [_, _, _, _, _]) rfl) rfl <| Wp rfl <| st_lit (ps := [(0, .tmp 72)]) (vs := [.int _ _, S _, S _, S _, .bool _]) T.lit26 (by decide) rfl q6 rfl ?_
     intro b172 w173 e174 c175 hb176
     have ge_b172 := gB e174 HC.size
     have gq_szWI_b172 : w155.heap.size ≤ b172 := by rw [e174]; exact szWI
     have na_Rb172 : b172 ∉ ob A := oR.fresh (by rw [e174]; exact Nat.le_refl _)
     replace HC := HC.then c175
     replace ht := ht.tr0 c175
     replace hmx := hmx.tr0 c175
     replace hb4 := hb4.tr0 c175
     replace szWI := Nat.le_trans szWI c175.size
     replace hAI := CmAt.chg hAI c175 q8
     replace hR := hR.tr0 c175
     replace oR := oR.tr0 c175
     replace hq4 := hq4.tr0 c175
     replace hqx := hqx.tr0 c175
     clear e174
     have hszA := HC.size
     refine Wp rfl <| st_append2 (c := rdrE) (D2 := fun _ => False) (xs := l) (ys := [r]) T.slice26 rfl rfl oR rfl rfl (one_elem rfl (hb176.cells (n := 5) rfl)) (fun _ _ h => h.elim) (fun k hk => (by have h8 := szWI; have h9 := HC.size; exact ⟨by omega, by omega⟩)) q7 q7 ?_
     intro A177 cap178 w179 ho180 c181 hg182
     replace HC := HC.trans c181 (fun k hk => .inr ((oR.inD k hk).1))
     replace ht := ht.tr c181 (fun hx => by first | (have h1 := (oR.inD _ hx).1; omega) | (have h1 : w.heap.size ≤ 0 := oR.inD _ hx; omega))
     replace hmx := hmx.tr c181 (by intro hx; have hD := oR.inD _ hx; omega)
     replace hb4 := hb4.tr c181 (fun hx => by first | (have h1 := oR.inD _ hx; omega) | exact na_Rb2 hx | exact hav _ hx (by simp))
     replace szWI := Nat.le_trans szWI c181.size
     replace hAI := CmAt.chg hAI c181 (by intro k hk hD; have h7 := (oR.inD k hk).2; omega)
     replace hR := hR.tr c181 (by intro k hk; have hD := oR.inD k hk; omega)
     replace hq4 := hq4.tr c181 (fun hx => by first | (have h1 := oR.inD _ hx; omega) | exact na_Rb4 hx | exact hav _ hx (by simp))
     replace hqx := hqx.tr c181 (fun hx => hbA hx)
     refine fa T.fld30_6 rfl <| Wp rfl <| st_st (v := .slice _ _ _) T.size26 rfl rfl rfl hq4 ?_
     intro w183 c184 hb185; simp only [setVs, setV] at hb185
     clear hq4
     replace HC := HC.then1 c184 ge_b4
     replace ht := ht.tr c184 q1
     replace hmx := hmx.tr c184 q1
     replace hb4 := hb4.tr1 c184 ne_b2_b4
     replace szWI := Nat.le_trans szWI c184.size
     replace hAI := CmAt.chg hAI c184 q3
     replace hR := hR.tr c184 q2
     replace ho180 := ho180.trF flat_flat c184 (by intro k hk hx; have hD := ho180.inD k hk; simp only [List.mem_cons, List.mem_nil_iff, or_false] at hx; first | omega | (obtain rfl := hx; exact na_Rb4 hk))
     replace hqx := hqx.tr1 c184 (by omega)
     refine wops_nil <| block_n <| then_n <| x_seq <| sr rfl <| Wp rfl <| st_loadA (vs := [_, _, _, _, _]) T.agg40 rfl (hqx.cells (n := 5) (vs := [_, _, _, _, _]) rfl) rfl <| en <| x_region rfl <| Wp rfl <| st_alloc T.zero40 ?_
     intro b186 w187 e188 c189 hb190
     have ge_b186 := gB e188 HC.size
     have ne_b2_b186 := nE e188 hb4.ne_size
     have ne_b4_b186 := nE e188 hb185.ne_size
     have gq_szWI_b186 : w155.heap.size ≤ b186 := by rw [e188]; exact szWI
     have na_Rb186 : b186 ∉ ob A177 := ho180.fresh (by rw [e188]; exact Nat.le_refl _)
     replace HC := HC.then c189
     replace ht := ht.tr0 c189
     replace hmx := hmx.tr0 c189
     replace hb4 := hb4.tr0 c189
     replace szWI := Nat.le_trans szWI c189.size
     replace hAI := CmAt.chg hAI c189 q8
     replace hR := hR.tr0 c189
     replace ho180 := ho180.tr0 c189
     replace hb185 := hb185.tr0 c189
     clear e188
     refine Wp rfl <| st_st (v := .agg ⟨[_, _, _, _, _]⟩) T.size40 rfl rfl rfl hb190 ?_
     intro w191 c192 hb193; simp only [setVs, setV] at hb193
     clear hb190
     replace HC := HC.then1 c192 ge_b186
     replace ht := ht.tr c192 q1
     replace hmx := hmx.tr c192 q1
     replace hb4 := hb4.tr1 c192 ne_b2_b186
     replace szWI := Nat.le_trans szWI c192.size
     replace hAI := CmAt.chg hAI c192 q3
     replace hR := hR.tr c192 q2
     replace ho180 := ho180.trF flat_flat c192 (by intro k hk hx; have hD := ho180.inD k hk; simp only [List.mem_cons, List.mem_nil_iff, or_false] at hx; first | omega | (obtain rfl := hx; exact na_Rb186 hk))
     replace hb185 := hb185.tr1 c192 ne_b4_b186
     refine en <| x_region rfl <| mP rfl <| w_plain rfl (st_callP (ags := [_]) rfl rfl T.ent103 rfl (gredir_spec (Z := Y) hgY hR hq ht) ?_ ?_)
     ·rintro _ w194 ⟨R9, e9, he9, hs9, rfl, c195⟩
      replace HC := HC.trans c195 q4
      replace szWI := Nat.le_trans szWI c195.size
      refine then_p <| block_p <| then_p <| pp_panic ?_
      exact ⟨_, _, by simp only [compG, hin, Rs.bind, hrI]; rw [hre]; show Rs.bind (redirsG (n + 1) (l ++ [r]) Y) _ = _; rw [redirs_er he9]; rfl, hs9.trans hsY, rfl, HC⟩
     rintro _ w196 ⟨x1, R1, he1, hs1, hn1, hx1, rfl, hR, c197⟩
     replace HC := HC.trans c197 q4
     replace ht := ht.tr c197 q1
     replace hmx := hmx.tr c197 q1
     replace hb4 := hb4.tr1 c197 (by omega)
     replace szWI := Nat.le_trans szWI c197.size
     replace hAI := CmAt.chg hAI c197 q3
     replace ho180 := ho180.trF flat_flat c197 (by intro k hk hx; have hD := ho180.inD k hk; simp only [List.mem_cons, List.mem_nil_iff, or_false] at hx; first | omega)
     replace hb185 := hb185.tr1 c197 (by omega)
     replace hb193 := hb193.tr1 c197 (by omega)
     refine mv (v := .tuple ⟨[_, _]⟩) rfl <| Wp rfl <| st_extract (vs := [_, _]) (v := .agg ⟨[.int _ _, S _, S _, S _, .bool _]⟩) rfl rfl <| Wp rfl <| st_extract (vs := [_, _]) (v := .bool _) rfl rfl <| Wp rfl <| st_st (v := .agg ⟨[_, _, _, _, _]⟩) T.size40 rfl rfl rfl hb193 ?_
     intro w198 c199 hb200; simp only [setVs, setV] at hb200
     clear hb193
     replace HC := HC.then1 c199 ge_b186
     replace ht := ht.tr c199 q1
     replace hmx := hmx.tr c199 q1
     replace hb4 := hb4.tr1 c199 ne_b2_b186
     replace szWI := Nat.le_trans szWI c199.size
     replace hAI := CmAt.chg hAI c199 q3
     replace ho180 := ho180.trF flat_flat c199 (by intro k hk hx; have hD := ho180.inD k hk; simp only [List.mem_cons, List.mem_nil_iff, or_false] at hx; first | omega | (obtain rfl := hx; exact na_Rb186 hk))
     replace hb185 := hb185.tr1 c199 ne_b4_b186
     replace hR := hR.tr c199 q2
     refine aB rfl <| en <| ⟨(n, l ++ [r], R1, x1, A177, cap178, b186), ?_, ?_, rfl, ⟨rfl, rfl, trivial⟩, ?_⟩
     ·refine ⟨?_, HC, ht, hmx, hb4, szWI, hAI, hR, ho180, hb185, hb200⟩
      exact ⟨by rw [hre]; show redirsG (n + 1) (l ++ [r]) Y = _; exact redirs_step he1, hs1.trans hsY, fun h => by have := hx1 h; omega, (by have h7 := hs1.len; simp only [List.length_append, List.length_cons, List.length_nil]; cases x1 with | none => simp; omega | some r1 => have h9 := hx1 (by simp); simp; omega), by have := hs1.len; omega, ⟨Ne.symm ne_b2_b186, Ne.symm ne_b4_b186⟩, gq_szWI_b186, na_Rb186⟩
     ·have hmu : (if x1.isSome = true then 1 else 0) + R1.length < 1 + Y.length := by cases x1 with | none => (have h7 := hn1 rfl; rw [h7]; simp) | some r1 => (have h9 := hx1 (by simp); simp; omega)
      exact hmu
     exact q9
    ·try simp only [nm, ne_eq] at h7
     obtain rfl : x = none := by cases x with | none => rfl | some _ => simp_all
     have hfin : redirsG RI.length [] RI = .ok l Y := hre
     refine x_exit <| then_x <| then_x <| block_x <| then_n <| sr rfl <| Wp rfl <| st_loadA (vs := [_, _, _, _, _, _, _, _, _]) T.agg30 rfl (hq4.cells (n := 9) (vs := [_, _, _, _, _, _, _, _, _]) rfl) rfl <| Wp rfl <| st_st (v := .agg ⟨[_, _, _, _, _, _, _, _, _]⟩) T.size30 rfl rfl rfl hb4 ?_
     intro w201 c202 hb203; simp only [setVs, setV] at hb203
     clear hb4
     replace HC := HC.then1 c202 ge_b2
     replace szWI := Nat.le_trans szWI c202.size
     replace hAI := CmAt.chg hAI c202 q3
     replace hR := hR.tr c202 q2
     replace oR := oR.trF flat_flat c202 (by intro k hk hx; have hD := oR.inD k hk; simp only [List.mem_cons, List.mem_nil_iff, or_false] at hx; first | omega | (obtain rfl := hx; exact na_Rb2 hk))
     refine en <| x_ret <| pp_ret <| ret_cellA (vs := [_, _, _, _, _, _, _, _, _]) rfl rfl T.agg30 (hb203.cells (n := 9) rfl) rfl ?_
     exact ⟨addR cI l, Y, _, by simp only [compG, hin, Rs.bind, hrI]; rw [hfin], hsY, hlz, rfl, cm_shut (c := addR cI l) ⟨hAI.asg.mono (fun k _ h => h.1.1), hAI.words.mono (fun k _ h => h.1.1), oR.sl.mono (fun k _ h => h.1), hAI.kids.mono (fun k _ h => h.1.1), hAI.items.mono (fun k _ h => h.1.1)⟩ k1I k2I oR.le k4I k5I, hR, HC⟩
   ·try simp only [nm, ne_eq] at h2
    refine x_seq <| sr rfl <| Wp rfl <| st_seql rfl rfl <| aB rfl <| en <| x_cond rfl (fun h3 => ?_) (fun h3 => ?_)
    ·try simp only [nm, ne_eq] at h3
     refine x_skip <| then_n <| x_cond rfl (fun h4 => ?_) (fun h4 => ?_)
     rotate_left
     · first | (simp only [nm, ne_eq] at h4; exact absurd (by assumption) h4) | (exfalso; simp_all)
     refine sr rfl <| mP rfl ?_
     have ltB_b2 := hb4.lt
     have ltB_b3 := hb13.lt
     have ltB_b4 := hb20.lt
     have szlB := HC.size
     refine w_plain rfl (st_callP (ags := [_]) rfl rfl T.ent97 rfl (gbody_spec hgT hzT hR hq hmx ht hcom) ?_ ?_)
     ·rintro _ w204 ⟨R9, e9, he9, hs9, rfl, c205⟩
      replace HC := HC.trans c205 q4
      refine then_p <| block_p <| then_p <| pp_panic ?_
      have hin : innerG com Z = .er R9 e9 := by unfold innerG; rw [if_neg h0, if_neg h1, if_neg h2, if_pos (.inl h3)]; simp only [he9, Rs.bind]
      exact ⟨_, _, by rw [compG, hin]; rfl, hs9.trans hsT, rfl, HC⟩
     rintro _ w206 ⟨cB, RB, vsB, heB, hsB, hlB, rfl, hvB, hR, c207⟩
     obtain ⟨A1B, n1B, A2B, n2B, A3B, n3B, A4B, n4B, A5B, n5B, rfl, hAB, k1B, k2B, k3B, k4B, k5B⟩ := cm_open hvB
     replace hvB := cmE.mono hvB (D' := (fun k => w18.heap.size ≤ k ∧ k < w206.heap.size)) (fun k hk h => ⟨h, hk⟩)
     have szB : w206.heap.size ≤ w206.heap.size := Nat.le_refl _
     have szmB := c207.size
     replace HC := HC.trans c207 q4
     replace ht := ht.tr c207 q1
     replace hmx := hmx.tr c207 q1
     replace hb4 := hb4.tr1 c207 (by omega)
     replace hb13 := hb13.tr1 c207 (by omega)
     replace hb20 := hb20.tr1 c207 (by omega)
     refine Wp rfl <| st_lit (ps := [(0, .tmp 40)]) (vs := [.int _ _, S _, .bool _, .bool _, .slice _ _ _, .slice _ _ _, .slice _ _ _, .slice _ _ _, .slice _ _ _]) T.lit27 (by decide) rfl q6 rfl ?_
     intro b208 w209 e210 c211 hb212
     have ge_b208 := gB e210 HC.size
     have ne_b2_b208 := nE e210 hb4.ne_size
     have ne_b4_b208 := nE e210 hb20.ne_size
     have gq_szB_b208 : w206.heap.size ≤ b208 := by rw [e210]; exact szB
     replace HC := HC.then c211
     replace ht := ht.tr0 c211
     replace hmx := hmx.tr0 c211
     replace hb4 := hb4.tr0 c211
     replace hb13 := hb13.tr0 c211
     replace hb20 := hb20.tr0 c211
     replace hR := hR.tr0 c211
     replace hvB := Enc.chg hvB c211 q8
     replace szB := Nat.le_trans szB c211.size
     clear e210
     refine fa T.fld30_0 rfl <| Wp rfl <| st_st (v := .int _ _) T.size3 rfl rfl rfl hb20 ?_
     intro w213 c214 hb215; simp only [setVs, setV] at hb215
     clear hb20
     replace HC := HC.then1 c214 ge_b4
     replace ht := ht.tr c214 q1
     replace hmx := hmx.tr c214 q1
     replace hb4 := hb4.tr1 c214 ne_b2_b4
     replace hb13 := hb13.tr1 c214 ne_b3_b4
     replace hR := hR.tr c214 q2
     replace hvB := Enc.chg hvB c214 q3
     replace szB := Nat.le_trans szB c214.size
     replace hb212 := hb212.tr1 c214 (Ne.symm ne_b4_b208)
     refine fa T.fld30_7 rfl <| Wp rfl <| st_st (v := .slice _ _ _) T.size27 rfl rfl rfl hb215 ?_
     intro w216 c217 hb218; simp only [setVs, setV] at hb218
     clear hb215
     replace HC := HC.then1 c217 ge_b4
     replace ht := ht.tr c217 q1
     replace hmx := hmx.tr c217 q1
     replace hb4 := hb4.tr1 c217 ne_b2_b4
     replace hb13 := hb13.tr1 c217 ne_b3_b4
     replace hR := hR.tr c217 q2
     replace hvB := Enc.chg hvB c217 q3
     replace szB := Nat.le_trans szB c217.size
     replace hb212 := hb212.tr1 c217 (Ne.symm ne_b4_b208)
     refine en <| x_seq <| x_seq ?_
     have oK : Own cmE 30 w216 (fun k => w.heap.size ≤ k ∧ k ≠ b2 ∧ k ≠ b4) (some ⟨b208, 0, none⟩) 1 [cB] := own_one hb212 ⟨by omega, (Ne.symm ne_b2_b208), (Ne.symm ne_b4_b208)⟩ hvB (fun k _ h => ⟨⟨by omega, by omega, by omega⟩, by omega⟩)
     have hgB := hsB.good
     have hzB := hsB.gb hzT
     refine x_region rfl <| fa T.fld51_1 rfl <| lS T.one9 rfl (hb13.cell rfl) <| Wp rfl <| st_seql rfl rfl <| en <| x_cond rfl (fun h5 => ?_) (fun h5 => ?_)
     ·try simp only [nm, ne_eq] at h5
      exfalso; rw [h3] at h5; exact absurd h5 (by decide)
     ·try simp only [nm, ne_eq] at h5
      refine x_skip <| then_n <| x_draw [(0, 0), (1, 0), (2, 0), (3, 1), (4, 1), (5, 1), (6, 0), (7, 2)] T.mixed rfl rfl rfl (fun W => W.heap[b2]? = w216.heap[b2]? ∧ W.heap[b4]? = w216.heap[b4]? ∧ True) ⟨rfl, rfl, trivial⟩ ?_
      have o221 := hb4
      have o222 := hb218
      have c220 := Chg.drew w216
      generalize World.drew w216 = w219 at c220 ⊢
      replace HC := HC.then c220
      replace ht := ht.tr0 c220
      replace hmx := hmx.tr0 c220
      replace hb4 := hb4.tr0 c220
      replace hR := hR.tr0 c220
      replace szB := Nat.le_trans szB c220.size
      replace hb218 := hb218.tr0 c220
      replace oK := oK.tr0 c220
      refine sq_q rfl (fun W hT => r_fieldAddr T.fld30_7 rfl) <| sq_q rfl (fun W hT => r_load1 (v := .slice _ _ _) T.one27 rfl (Blk.cell (show Blk W b4 _ _ from hT.2.1.trans o222) rfl)) <| sq_q rfl (fun W hT => r_move (v := .pointer _) rfl) ?_
      have ltC_b2 := hb4.lt
      have ltC_b4 := hb218.lt
      have olC_oK := oK.lt
      have szlC := HC.size
      refine sq_callP1 rfl (r_call (ags := [_]) rfl rfl T.ent100 rfl) (gdo_spec hgB hzB hR hq hmx ht hcom) ?_ ?_
      ·rintro _ w223 ⟨R9, e9, he9, hs9, rfl, c224⟩
       replace HC := HC.trans c224 q4
       replace szB := Nat.le_trans szB c224.size
       intro E9
       refine block_p <| then_p <| pp_panic ?_
       have hin : innerG com Z = .er R9 e9 := by unfold innerG; rw [if_neg h0, if_neg h1, if_neg h2, if_pos (.inl h3)]; simp only [heB, he9, Rs.bind]
       exact ⟨_, _, by rw [compG, hin]; rfl, (hs9.trans hsB).trans hsT, rfl, HC⟩
      rintro _ w225 ⟨cC, RC, vsC, heC, hsC, hlC, rfl, hvC, hR, c226⟩
      obtain ⟨A1C, n1C, A2C, n2C, A3C, n3C, A4C, n4C, A5C, n5C, rfl, hAC, k1C, k2C, k3C, k4C, k5C⟩ := cm_open hvC
      replace hvC := cmE.mono hvC (D' := (fun k => w219.heap.size ≤ k ∧ k < w225.heap.size)) (fun k hk h => ⟨h, hk⟩)
      have szC : w225.heap.size ≤ w225.heap.size := Nat.le_refl _
      have szmC := c226.size
      replace HC := HC.trans c226 q4
      replace ht := ht.tr c226 q1
      replace hmx := hmx.tr c226 q1
      replace hb4 := hb4.tr1 c226 (by omega)
      replace szB := Nat.le_trans szB c226.size
      replace hb218 := hb218.tr1 c226 (by omega)
      replace oK := oK.tr c226 q3
      refine ⟨_, fun _ h => h, ⟨(Eq.trans hb4 o221.symm), (Eq.trans hb218 o222.symm), trivial⟩, ?_⟩
      refine sq_lit1 (ps := [(0, .tmp 51)]) (vs := [.int _ _, S _, .bool _, .bool _, .slice _ _ _, .slice _ _ _, .slice _ _ _, .slice _ _ _, .slice _ _ _]) rfl T.lit27 (by decide) rfl q6 rfl ?_
      intro b227 w228 e229 c230 hb231
      have ge_b227 := gB e229 HC.size
      have gq_szB_b227 : w206.heap.size ≤ b227 := by rw [e229]; exact szB
      have na_Kb227 : b227 ∉ ob ((some ⟨b208, 0, none⟩)) := oK.fresh (by rw [e229]; exact Nat.le_refl _)
      have gq_szC_b227 : w225.heap.size ≤ b227 := by rw [e229]; exact szC
      replace HC := HC.then c230
      replace ht := ht.tr0 c230
      replace hmx := hmx.tr0 c230
      replace hb4 := hb4.tr0 c230
      replace szB := Nat.le_trans szB c230.size
      replace hb218 := hb218.tr0 c230
      replace oK := oK.tr0 c230
      replace hR := hR.tr0 c230
      replace hvC := Enc.chg hvC c230 q8
      replace szC := Nat.le_trans szC c230.size
      clear e229
      refine ext_T (b := b227) ⟨(Eq.trans hb4 o221.symm), (Eq.trans hb218 o222.symm), trivial⟩ ?_
      have o232 := hb231
      have hszA := HC.size
      refine sq_append1 (c := cmE) (D2 := (fun k => w219.heap.size ≤ k ∧ k < w225.heap.size)) (xs := [cB]) (ys := [cC]) rfl T.slice27 rfl rfl oK rfl rfl (one_elem hvC (hb231.cells (n := 9) rfl)) (fun k _ h => ⟨⟨by omega, by omega, by omega⟩, fun hk => by have h8 := olC_oK k hk; omega⟩) (fun k hk => (by have h7 := HC.size; have h8 := hb4.lt; have h9 := hb218.lt; exact ⟨by omega, by omega, by omega⟩)) q7 q7 ?_
      intro A233 cap234 w235 ho236 c237 hg238
      replace HC := HC.trans c237 (fun k hk => .inr ((oK.inD k hk).1))
      replace ht := ht.tr c237 (fun hx => by first | (have h1 := (oK.inD _ hx).1; omega) | (have h1 : w.heap.size ≤ 0 := oK.inD _ hx; omega))
      replace hmx := hmx.tr c237 (by intro hx; have hD := oK.inD _ hx; omega)
      replace hb4 := hb4.tr c237 (fun hx => by first | (have h1 := oK.inD _ hx; omega) | exact na_Kb2 hx | exact hav _ hx (by simp))
      replace szB := Nat.le_trans szB c237.size
      replace hb218 := hb218.tr c237 (fun hx => by first | (have h1 := oK.inD _ hx; omega) | exact na_Kb4 hx | exact hav _ hx (by simp))
      replace hR := hR.tr c237 (by intro k hk; have hD := oK.inD k hk; omega)
      replace szC := Nat.le_trans szC c237.size
      replace hb231 := hb231.tr c237 (fun hx => by first | (have h1 := oK.inD _ hx; omega) | exact na_Kb227 hx | exact hav _ hx (by simp))
      refine ⟨_, fun _ h => h, ⟨(Eq.trans hb231 o232.symm), ⟨(Eq.trans hb4 o221.symm), (Eq.trans hb218 o222.symm), trivial⟩⟩, ?_⟩
      refine sq_q rfl (fun W hT => r_fieldAddr T.fld30_7 rfl) <| sq_store2 rfl T.size27 (v := .slice _ _ _) rfl rfl rfl hb218 rfl (Nat.le_of_ble_eq_true rfl) q5 rfl ?_
      intro w239 c240 hb241; simp only [setVs, setV] at hb241
      clear hb218
      replace HC := HC.then1 c240 ge_b4
      replace ht := ht.tr c240 q1
      replace hmx := hmx.tr c240 q1
      replace hb4 := hb4.tr1 c240 ne_b2_b4
      replace szB := Nat.le_trans szB c240.size
      replace ho236 := ho236.tr c240 q3
      replace hR := hR.tr c240 q2
      replace szC := Nat.le_trans szC c240.size
      clear o221
      clear o222
      clear o232
      refine sq_nil <| block_n <| then_n <| x_seq <| x_seq ?_
      obtain ⟨cI, A1I, n1I, A2I, n2I, A4I, n4I, A5I, n5I, RI, hin, hsI, hlI, hrI, hb4I, ⟨hAI, k1I, k2I, k3I, k4I, k5I⟩, hRI⟩ : ∃ cI A1I n1I A2I n2I A4I n4I A5I n5I RI, innerG com Z = .ok cI RI ∧ Suf RI Z ∧ RI.length < Z.length ∧ cI.rds = [] ∧ Blk w239 b4 [.int .i64 cI.kind, S cI.name, .bool cI.bang, .bool cI.inn, .slice A1I cI.asg.length n1I, .slice A2I cI.words.length n2I, .slice none 0 0, .slice A4I cI.kids.length n4I, .slice A5I cI.items.length n5I] 30 ∧ (CmAt w239 (fun k => (w.heap.size ≤ k ∧ k ≠ b2 ∧ k ≠ b4) ∧ k < w239.heap.size) cI A1I A2I none A4I A5I ∧ capOk cI.asg.length n1I ∧ capOk cI.words.length n2I ∧ capOk cI.rds.length 0 ∧ capOk cI.kids.length n4I ∧ capOk cI.items.length n5I) ∧ RdAt w239 rb tb d RI := ⟨kidsC 10 ([cB] ++ [cC]), none, 0, none, 0, _, _, none, 0, RC, (by unfold innerG; rw [if_neg h0, if_neg h1, if_neg h2, if_pos (.inl h3)]; simp only [heB, Rs.bind, heC, if_neg h5]; rfl), hsC.trans (hsB.trans hsT), by have := hsB.len; omega, rfl, hb241, ⟨⟨.nil, .nil, .nil, ho236.sl.mono (fun k hk h => ⟨h, hk⟩), .nil⟩, ⟨Nat.le_refl _, by decide⟩, ⟨Nat.le_refl _, by decide⟩, ⟨Nat.le_refl _, by decide⟩, ho236.le, ⟨Nat.le_refl _, by decide⟩⟩, hR⟩
      have hgI := hsI.good
      have hzI := hsI.gb hz
      have szWI : w239.heap.size ≤ w239.heap.size := Nat.le_refl _
      have szl0 := HC.size
      have lt0_b4 := hb241.lt
      have lt0_b2 := hb4.lt
      refine x_region rfl <| mP rfl <| w_plain rfl (st_callP (ags := [_]) rfl rfl T.ent103 rfl (gredir_spec (Z := RI) hgI hRI hq ht) ?_ ?_)
      ·rintro _ w242 ⟨R9, e9, he9, hs9, rfl, c243⟩
       replace HC := HC.trans c243 q4
       replace szWI := Nat.le_trans szWI c243.size
       refine then_p <| then_p <| pp_panic ?_
       exact ⟨_, _, by simp only [compG, hin, Rs.bind, hrI]; rw [show RI.length = RI.length - 1 + 1 by (have := hgI.pos; omega), redirs_er he9], hs9.trans hsI, rfl, HC⟩
      rintro _ w244 ⟨x0, R0, he0, hs0, hn0, hx0, rfl, hR, c245⟩
      replace HC := HC.trans c245 q4
      replace ht := ht.tr c245 q1
      replace hmx := hmx.tr c245 q1
      replace hb4 := hb4.tr1 c245 (by omega)
      replace hb4I := hb4I.tr1 c245 (by omega)
      replace szWI := Nat.le_trans szWI c245.size
      replace hAI := CmAt.chg hAI c245 q3
      refine mv (v := .tuple ⟨[_, _]⟩) rfl <| Wp rfl <| st_extract (vs := [_, _]) (v := .agg ⟨[.int _ _, S _, S _, S _, .bool _]⟩) rfl rfl <| Wp rfl <| st_extract (vs := [_, _]) (v := .bool _) rfl rfl <| Wp rfl <| st_alloc T.zero40 ?_
      intro b246 w247 e248 c249 hb250
      have ge_b246 := gB e248 HC.size
      have ne_b2_b246 := nE e248 hb4.ne_size
      have ne_b4_b246 := nE e248 hb4I.ne_size
      have gq_szWI_b246 : w239.heap.size ≤ b246 := by rw [e248]; exact szWI
      replace HC := HC.then c249
      replace ht := ht.tr0 c249
      replace hmx := hmx.tr0 c249
      replace hb4 := hb4.tr0 c249
      replace hb4I := hb4I.tr0 c249
      replace szWI := Nat.le_trans szWI c249.size
      replace hAI := CmAt.chg hAI c249 q8
      replace hR := hR.tr0 c249
      clear e248
      refine Wp rfl <| st_st (v := .agg ⟨[_, _, _, _, _]⟩) T.size40 rfl rfl rfl hb250 ?_
      intro w251 c252 hb253; simp only [setVs, setV] at hb253
      clear hb250
      replace HC := HC.then1 c252 ge_b246
      replace ht := ht.tr c252 q1
      replace hmx := hmx.tr c252 q1
      replace hb4 := hb4.tr1 c252 ne_b2_b246
      replace hb4I := hb4I.tr1 c252 ne_b4_b246
      replace szWI := Nat.le_trans szWI c252.size
      replace hAI := CmAt.chg hAI c252 q3
      replace hR := hR.tr c252 q2
      refine aB rfl <| en <| x_block ?_
      have oR : Own rdrE 40 w251 (fun k => w.heap.size ≤ k ∧ w239.heap.size ≤ k) none 0 [] := Own.nil
      refine x_loop (ι := Nat × List Rdr × List Tok × Option Rdr × Option Addr × Nat × Nat) [5, 6, 64, 65, 66, 67, 68, 69, 70, 71, 72, 73, 74, 75, 76] (fun ⟨n, l, Y, x, A, cap, bx⟩ => [(5, .pointer (some ⟨bx, 0, none⟩)), (6, .bool x.isSome)]) (fun ⟨n, l, Y, x, A, cap, bx⟩ W => (redirsG RI.length [] RI = resX n l x Y ∧ Suf Y Z ∧ (x ≠ none → Y.length ≤ n) ∧ l.length + (if x.isSome = true then 1 else 0) + Y.length ≤ Z.length ∧ Y.length < Z.length ∧ (bx ≠ b2 ∧ bx ≠ b4) ∧ w239.heap.size ≤ bx ∧ bx ∉ ob A) ∧ (Chg [rb] w W) ∧ (Tab W) ∧ (MaxT W) ∧ (Blk W b2 [.int .i64 0, S [], .bool false, .bool false, .slice none 0 0, .slice none 0 0, .slice none 0 0, .slice none 0 0, .slice none 0 0] 30) ∧ (w239.heap.size ≤ W.heap.size) ∧ (CmAt W (fun k => (w.heap.size ≤ k ∧ k ≠ b2 ∧ k ≠ b4) ∧ k < w239.heap.size) cI A1I A2I none A4I A5I) ∧ (RdAt W rb tb d Y) ∧ (Own rdrE 40 W (fun k => w.heap.size ≤ k ∧ w239.heap.size ≤ k) A cap l) ∧ (Blk W b4 [.int .i64 cI.kind, S cI.name, .bool cI.bang, .bool cI.inn, .slice A1I cI.asg.length n1I, .slice A2I cI.words.length n2I, .slice A l.length cap, .slice A4I cI.kids.length n4I, .slice A5I cI.items.length n5I] 30) ∧ (Blk W bx [.int .i64 (x.getD rnone).fd, S (x.getD rnone).op, S (x.getD rnone).word, S (x.getD rnone).here, .bool (x.getD rnone).raw] 40)) (fun ⟨n, l, Y, x, A, cap, bx⟩ => (if x.isSome = true then 1 else 0) + Y.length) (RI.length - 1, [], R0, x0, none, 0, b246) ?_ ?_ ?_
      · exact ⟨rfl, rfl, trivial⟩
      ·refine ⟨?_, HC, ht, hmx, hb4, szWI, hAI, hR, oR, hb4I, hb253⟩
       exact ⟨(by have h7 := hgI.pos; rw [show RI.length = RI.length - 1 + 1 by omega]; exact redirs_step he0), hs0.trans hsI, fun h => by have := hx0 h; omega, (by have h7 := hs0.len; have h8 := hsI.len; cases x0 with | none => simp; omega | some r0 => have h9 := hx0 (by simp); simp; omega), by have := hs0.len; omega, ⟨Ne.symm ne_b2_b246, Ne.symm ne_b4_b246⟩, gq_szWI_b246, by simp [ob]⟩
      intro ⟨n, l, Y, x, A, cap, bx⟩ G255 w254 ⟨⟨hre, hsY, hn, hll, hlz, hbx, hbx2, hbA⟩, HC, ht, hmx, hb4, szWI, hAI, hR, oR, hq4, hqx⟩
      change wp _ _ _ _ _ (upds (over _ _ G255) [(5, .pointer (some ⟨bx, 0, none⟩)), (6, .bool x.isSome)]) _ _
      have hgY := hsY.good
      have hpY := hgY.pos
      have gbx : w.heap.size ≤ bx := by omega
      refine x_seq <| sr rfl <| mB rfl <| en <| x_cond rfl (fun h7 => ?_) (fun h7 => ?_)
      ·try simp only [nm, ne_eq] at h7
       obtain ⟨r, rfl⟩ := Option.isSome_iff_exists.1 (show x.isSome = true by first | assumption | simp_all)
       have hn := hn (by simp)
       obtain ⟨n, rfl⟩ : ∃ m, n = m + 1 := ⟨n - 1, by omega⟩
       replace hll : l.length + 1 + Y.length ≤ Z.length := hll
       refine x_skip <| then_n <| x_seq <| x_block <| x_region rfl <| fa T.fld30_6 rfl <| lL T.one26 rfl (hq4.cell rfl) <| Wp rfl <| st_loadA (vs := [_, _, _, _, _]) T.agg40 rfl (hqx.cells (n := 5) (vs := [_, _, _, _, _]) rfl) rfl <| Wp rfl <| st_lit (ps := [(0, .tmp 72)]) (vs := [.int _ _, S _, S _, S _, .bool _]) T.lit26 (by decide) rfl q6 rfl ?_
       intro b256 w257 e258 c259 hb260
       have ge_b256 := gB e258 HC.size
       have gq_szWI_b256 : w239.heap.size ≤ b256 := by rw [e258]; exact szWI
       have na_Rb256 : b256 ∉ ob A := oR.fresh (by rw [e258]; exact Nat.le_refl _)
       replace HC := HC.then c259
       replace ht := ht.tr0 c259
       replace hmx := hmx.tr0 c259
       replace hb4 := hb4.tr0 c259
       replace szWI := Nat.le_trans szWI c259.size
       replace hAI := CmAt.chg hAI c259 q8
       replace hR := hR.tr0 c259
       replace oR := oR.tr0 c259
       replace hq4 := hq4.tr0 c259
       replace hqx := hqx.tr0 c259
       clear e258
       have hszA := HC.size
       refine Wp rfl <| st_append2 (c := rdrE) (D2 := fun _ => False) (xs := l) (ys := [r]) T.slice26 rfl rfl oR rfl rfl (one_elem rfl (hb260.cells (n := 5) rfl)) (fun _ _ h => h.elim) (fun k hk => (by have h8 := szWI; have h9 := HC.size; exact ⟨by omega, by omega⟩)) q7 q7 ?_
       intro A261 cap262 w263 ho264 c265 hg266
       replace HC := HC.trans c265 (fun k hk => .inr ((oR.inD k hk).1))
       replace ht := ht.tr c265 (fun hx => by first | (have h1 := (oR.inD _ hx).1; omega) | (have h1 : w.heap.size ≤ 0 := oR.inD _ hx; omega))
       replace hmx := hmx.tr c265 (by intro hx; have hD := oR.inD _ hx; omega)
       replace hb4 := hb4.tr c265 (fun hx => by first | (have h1 := oR.inD _ hx; omega) | exact na_Rb2 hx | exact hav _ hx (by simp))
       replace szWI := Nat.le_trans szWI c265.size
       replace hAI := CmAt.chg hAI c265 (by intro k hk hD; have h7 := (oR.inD k hk).2; omega)
       replace hR := hR.tr c265 (by intro k hk; have hD := oR.inD k hk; omega)
       replace hq4 := hq4.tr c265 (fun hx => by first | (have h1 := oR.inD _ hx; omega) | exact na_Rb4 hx | exact hav _ hx (by simp))
       replace hqx := hqx.tr c265 (fun hx => hbA hx)
       refine fa T.fld30_6 rfl <| Wp rfl <| st_st (v := .slice _ _ _) T.size26 rfl rfl rfl hq4 ?_
       intro w267 c268 hb269; simp only [setVs, setV] at hb269
       clear hq4
       replace HC := HC.then1 c268 ge_b4
       replace ht := ht.tr c268 q1
       replace hmx := hmx.tr c268 q1
       replace hb4 := hb4.tr1 c268 ne_b2_b4
       replace szWI := Nat.le_trans szWI c268.size
       replace hAI := CmAt.chg hAI c268 q3
       replace hR := hR.tr c268 q2
       replace ho264 := ho264.trF flat_flat c268 (by intro k hk hx; have hD := ho264.inD k hk; simp only [List.mem_cons, List.mem_nil_iff, or_false] at hx; first | omega | (obtain rfl := hx; exact na_Rb4 hk))
       replace hqx := hqx.tr1 c268 (by omega)
       refine wops_nil <| block_n <| then_n <| x_seq <| sr rfl <| Wp rfl <| st_loadA (vs := [_, _, _, _, _]) T.agg40 rfl (hqx.cells (n := 5) (vs := [_, _, _, _, _]) rfl) rfl <| en <| x_region rfl <| Wp rfl <| st_alloc T.zero40 ?_
       intro b270 w271 e272 c273 hb274
       have ge_b270 := gB e272 HC.size
       have ne_b2_b270 := nE e272 hb4.ne_size
       have ne_b4_b270 := nE e272 hb269.ne_size
       have gq_szWI_b270 : w239.heap.size ≤ b270 := by rw [e272]; exact szWI
       have na_Rb270 : b270 ∉ ob A261 := ho264.fresh (by rw [e272]; exact Nat.le_refl _)
       replace HC := HC.then c273
       replace ht := ht.tr0 c273
       replace hmx := hmx.tr0 c273
       replace hb4 := hb4.tr0 c273
       replace szWI := Nat.le_trans szWI c273.size
       replace hAI := CmAt.chg hAI c273 q8
       replace hR := hR.tr0 c273
       replace ho264 := ho264.tr0 c273
       replace hb269 := hb269.tr0 c273
       clear e272
       refine Wp rfl <| st_st (v := .agg ⟨[_, _, _, _, _]⟩) T.size40 rfl rfl rfl hb274 ?_
       intro w275 c276 hb277; simp only [setVs, setV] at hb277
       clear hb274
       replace HC := HC.then1 c276 ge_b270
       replace ht := ht.tr c276 q1
       replace hmx := hmx.tr c276 q1
       replace hb4 := hb4.tr1 c276 ne_b2_b270
       replace szWI := Nat.le_trans szWI c276.size
       replace hAI := CmAt.chg hAI c276 q3
       replace hR := hR.tr c276 q2
       replace ho264 := ho264.trF flat_flat c276 (by intro k hk hx; have hD := ho264.inD k hk; simp only [List.mem_cons, List.mem_nil_iff, or_false] at hx; first | omega | (obtain rfl := hx; exact na_Rb270 hk))
       replace hb269 := hb269.tr1 c276 ne_b4_b270
       refine en <| x_region rfl <| mP rfl <| w_plain rfl (st_callP (ags := [_]) rfl rfl T.ent103 rfl (gredir_spec (Z := Y) hgY hR hq ht) ?_ ?_)
       ·rintro _ w278 ⟨R9, e9, he9, hs9, rfl, c279⟩
        replace HC := HC.trans c279 q4
        replace szWI := Nat.le_trans szWI c279.size
        refine then_p <| block_p <| then_p <| pp_panic ?_
        exact ⟨_, _, by simp only [compG, hin, Rs.bind, hrI]; rw [hre]; show Rs.bind (redirsG (n + 1) (l ++ [r]) Y) _ = _; rw [redirs_er he9]; rfl, hs9.trans hsY, rfl, HC⟩
       rintro _ w280 ⟨x1, R1, he1, hs1, hn1, hx1, rfl, hR, c281⟩
       replace HC := HC.trans c281 q4
       replace ht := ht.tr c281 q1
       replace hmx := hmx.tr c281 q1
       replace hb4 := hb4.tr1 c281 (by omega)
       replace szWI := Nat.le_trans szWI c281.size
       replace hAI := CmAt.chg hAI c281 q3
       replace ho264 := ho264.trF flat_flat c281 (by intro k hk hx; have hD := ho264.inD k hk; simp only [List.mem_cons, List.mem_nil_iff, or_false] at hx; first | omega)
       replace hb269 := hb269.tr1 c281 (by omega)
       replace hb277 := hb277.tr1 c281 (by omega)
       refine mv (v := .tuple ⟨[_, _]⟩) rfl <| Wp rfl <| st_extract (vs := [_, _]) (v := .agg ⟨[.int _ _, S _, S _, S _, .bool _]⟩) rfl rfl <| Wp rfl <| st_extract (vs := [_, _]) (v := .bool _) rfl rfl <| Wp rfl <| st_st (v := .agg ⟨[_, _, _, _, _]⟩) T.size40 rfl rfl rfl hb277 ?_
       intro w282 c283 hb284; simp only [setVs, setV] at hb284
       clear hb277
       replace HC := HC.then1 c283 ge_b270
       replace ht := ht.tr c283 q1
       replace hmx := hmx.tr c283 q1
       replace hb4 := hb4.tr1 c283 ne_b2_b270
       replace szWI := Nat.le_trans szWI c283.size
       replace hAI := CmAt.chg hAI c283 q3
       replace ho264 := ho264.trF flat_flat c283 (by intro k hk hx; have hD := ho264.inD k hk; simp only [List.mem_cons, List.mem_nil_iff, or_false] at hx; first | omega | (obtain rfl := hx; exact na_Rb270 hk))
       replace hb269 := hb269.tr1 c283 ne_b4_b270
       replace hR := hR.tr c283 q2
       refine aB rfl <| en <| ⟨(n, l ++ [r], R1, x1, A261, cap262, b270), ?_, ?_, rfl, ⟨rfl, rfl, trivial⟩, ?_⟩
       ·refine ⟨?_, HC, ht, hmx, hb4, szWI, hAI, hR, ho264, hb269, hb284⟩
        exact ⟨by rw [hre]; show redirsG (n + 1) (l ++ [r]) Y = _; exact redirs_step he1, hs1.trans hsY, fun h => by have := hx1 h; omega, (by have h7 := hs1.len; simp only [List.length_append, List.length_cons, List.length_nil]; cases x1 with | none => simp; omega | some r1 => have h9 := hx1 (by simp); simp; omega), by have := hs1.len; omega, ⟨Ne.symm ne_b2_b270, Ne.symm ne_b4_b270⟩, gq_szWI_b270, na_Rb270⟩
       ·have hmu : (if x1.isSome = true then 1 else 0) + R1.length < 1 + Y.length := by cases x1 with | none => (have h7 := hn1 rfl; rw [h7]; simp) | some r1 => (have h9 := hx1 (by simp); simp; omega)
        exact hmu
       exact q9
      ·try simp only [nm, ne_eq] at h7
       obtain rfl : x = none := by cases x with | none => rfl | some _ => simp_all
       have hfin : redirsG RI.length [] RI = .ok l Y := hre
       refine x_exit <| then_x <| then_x <| block_x <| then_n <| sr rfl <| Wp rfl <| st_loadA (vs := [_, _, _, _, _, _, _, _, _]) T.agg30 rfl (hq4.cells (n := 9) (vs := [_, _, _, _, _, _, _, _, _]) rfl) rfl <| Wp rfl <| st_st (v := .agg ⟨[_, _, _, _, _, _, _, _, _]⟩) T.size30 rfl rfl rfl hb4 ?_
       intro w285 c286 hb287; simp only [setVs, setV] at hb287
       clear hb4
       replace HC := HC.then1 c286 ge_b2
       replace szWI := Nat.le_trans szWI c286.size
       replace hAI := CmAt.chg hAI c286 q3
       replace hR := hR.tr c286 q2
       replace oR := oR.trF flat_flat c286 (by intro k hk hx; have hD := oR.inD k hk; simp only [List.mem_cons, List.mem_nil_iff, or_false] at hx; first | omega | (obtain rfl := hx; exact na_Rb2 hk))
       refine en <| x_ret <| pp_ret <| ret_cellA (vs := [_, _, _, _, _, _, _, _, _]) rfl rfl T.agg30 (hb287.cells (n := 9) rfl) rfl ?_
       exact ⟨addR cI l, Y, _, by simp only [compG, hin, Rs.bind, hrI]; rw [hfin], hsY, hlz, rfl, cm_shut (c := addR cI l) ⟨hAI.asg.mono (fun k _ h => h.1.1), hAI.words.mono (fun k _ h => h.1.1), oR.sl.mono (fun k _ h => h.1), hAI.kids.mono (fun k _ h => h.1.1), hAI.items.mono (fun k _ h => h.1.1)⟩ k1I k2I oR.le k4I k5I, hR, HC⟩
    ·try simp only [nm, ne_eq] at h3
     refine x_region rfl <| Wp rfl <| st_seql rfl rfl <| aB rfl <| en <| x_cond rfl (fun h4 => ?_) (fun h4 => ?_)
     ·try simp only [nm, ne_eq] at h4
      refine sr rfl <| mP rfl ?_
      have ltB_b2 := hb4.lt
      have ltB_b3 := hb13.lt
      have ltB_b4 := hb20.lt
      have szlB := HC.size
      refine w_plain rfl (st_callP (ags := [_]) rfl rfl T.ent97 rfl (gbody_spec hgT hzT hR hq hmx ht hcom) ?_ ?_)
      ·rintro _ w288 ⟨R9, e9, he9, hs9, rfl, c289⟩
       replace HC := HC.trans c289 q4
       refine then_p <| block_p <| then_p <| pp_panic ?_
       have hin : innerG com Z = .er R9 e9 := by unfold innerG; rw [if_neg h0, if_neg h1, if_neg h2, if_pos (.inr h4)]; simp only [he9, Rs.bind]
       exact ⟨_, _, by rw [compG, hin]; rfl, hs9.trans hsT, rfl, HC⟩
      rintro _ w290 ⟨cB, RB, vsB, heB, hsB, hlB, rfl, hvB, hR, c291⟩
      obtain ⟨A1B, n1B, A2B, n2B, A3B, n3B, A4B, n4B, A5B, n5B, rfl, hAB, k1B, k2B, k3B, k4B, k5B⟩ := cm_open hvB
      replace hvB := cmE.mono hvB (D' := (fun k => w18.heap.size ≤ k ∧ k < w290.heap.size)) (fun k hk h => ⟨h, hk⟩)
      have szB : w290.heap.size ≤ w290.heap.size := Nat.le_refl _
      have szmB := c291.size
      replace HC := HC.trans c291 q4
      replace ht := ht.tr c291 q1
      replace hmx := hmx.tr c291 q1
      replace hb4 := hb4.tr1 c291 (by omega)
      replace hb13 := hb13.tr1 c291 (by omega)
      replace hb20 := hb20.tr1 c291 (by omega)
      refine Wp rfl <| st_lit (ps := [(0, .tmp 40)]) (vs := [.int _ _, S _, .bool _, .bool _, .slice _ _ _, .slice _ _ _, .slice _ _ _, .slice _ _ _, .slice _ _ _]) T.lit27 (by decide) rfl q6 rfl ?_
      intro b292 w293 e294 c295 hb296
      have ge_b292 := gB e294 HC.size
      have ne_b2_b292 := nE e294 hb4.ne_size
      have ne_b4_b292 := nE e294 hb20.ne_size
      have gq_szB_b292 : w290.heap.size ≤ b292 := by rw [e294]; exact szB
      replace HC := HC.then c295
      replace ht := ht.tr0 c295
      replace hmx := hmx.tr0 c295
      replace hb4 := hb4.tr0 c295
      replace hb13 := hb13.tr0 c295
      replace hb20 := hb20.tr0 c295
      replace hR := hR.tr0 c295
      replace hvB := Enc.chg hvB c295 q8
      replace szB := Nat.le_trans szB c295.size
      clear e294
      refine fa T.fld30_0 rfl <| Wp rfl <| st_st (v := .int _ _) T.size3 rfl rfl rfl hb20 ?_
      intro w297 c298 hb299; simp only [setVs, setV] at hb299
      clear hb20
      replace HC := HC.then1 c298 ge_b4
      replace ht := ht.tr c298 q1
      replace hmx := hmx.tr c298 q1
      replace hb4 := hb4.tr1 c298 ne_b2_b4
      replace hb13 := hb13.tr1 c298 ne_b3_b4
      replace hR := hR.tr c298 q2
      replace hvB := Enc.chg hvB c298 q3
      replace szB := Nat.le_trans szB c298.size
      replace hb296 := hb296.tr1 c298 (Ne.symm ne_b4_b292)
      refine fa T.fld30_7 rfl <| Wp rfl <| st_st (v := .slice _ _ _) T.size27 rfl rfl rfl hb299 ?_
      intro w300 c301 hb302; simp only [setVs, setV] at hb302
      clear hb299
      replace HC := HC.then1 c301 ge_b4
      replace ht := ht.tr c301 q1
      replace hmx := hmx.tr c301 q1
      replace hb4 := hb4.tr1 c301 ne_b2_b4
      replace hb13 := hb13.tr1 c301 ne_b3_b4
      replace hR := hR.tr c301 q2
      replace hvB := Enc.chg hvB c301 q3
      replace szB := Nat.le_trans szB c301.size
      replace hb296 := hb296.tr1 c301 (Ne.symm ne_b4_b292)
      refine en <| x_seq <| x_seq ?_
      have oK : Own cmE 30 w300 (fun k => w.heap.size ≤ k ∧ k ≠ b2 ∧ k ≠ b4) (some ⟨b292, 0, none⟩) 1 [cB] := own_one hb296 ⟨by omega, (Ne.symm ne_b2_b292), (Ne.symm ne_b4_b292)⟩ hvB (fun k _ h => ⟨⟨by omega, by omega, by omega⟩, by omega⟩)
      have hgB := hsB.good
      have hzB := hsB.gb hzT
      refine x_region rfl <| fa T.fld51_1 rfl <| lS T.one9 rfl (hb13.cell rfl) <| Wp rfl <| st_seql rfl rfl <| en <| x_cond rfl (fun h5 => ?_) (fun h5 => ?_)
      ·try simp only [nm, ne_eq] at h5
       refine x_region rfl <| fa T.fld30_0 rfl <| Wp rfl <| st_st (v := .int _ _) T.size3 rfl rfl rfl hb302 ?_
       intro w303 c304 hb305; simp only [setVs, setV] at hb305
       clear hb302
       replace HC := HC.then1 c304 ge_b4
       replace ht := ht.tr c304 q1
       replace hmx := hmx.tr c304 q1
       replace hb4 := hb4.tr1 c304 ne_b2_b4
       replace hR := hR.tr c304 q2
       replace szB := Nat.le_trans szB c304.size
       replace oK := oK.tr c304 q3
       refine en <| x_draw [(0, 0), (1, 0), (2, 0), (3, 1), (4, 1), (5, 1), (6, 0), (7, 2)] T.mixed rfl rfl rfl (fun W => W.heap[b2]? = w303.heap[b2]? ∧ W.heap[b4]? = w303.heap[b4]? ∧ True) ⟨rfl, rfl, trivial⟩ ?_
       have o308 := hb4
       have o309 := hb305
       have c307 := Chg.drew w303
       generalize World.drew w303 = w306 at c307 ⊢
       replace HC := HC.then c307
       replace ht := ht.tr0 c307
       replace hmx := hmx.tr0 c307
       replace hb4 := hb4.tr0 c307
       replace hR := hR.tr0 c307
       replace szB := Nat.le_trans szB c307.size
       replace oK := oK.tr0 c307
       replace hb305 := hb305.tr0 c307
       refine sq_q rfl (fun W hT => r_fieldAddr T.fld30_7 rfl) <| sq_q rfl (fun W hT => r_load1 (v := .slice _ _ _) T.one27 rfl (Blk.cell (show Blk W b4 _ _ from hT.2.1.trans o309) rfl)) <| sq_q rfl (fun W hT => r_move (v := .pointer _) rfl) ?_
       have ltC_b2 := hb4.lt
       have ltC_b4 := hb305.lt
       have olC_oK := oK.lt
       have szlC := HC.size
       refine sq_callP1 rfl (r_call (ags := [_]) rfl rfl T.ent100 rfl) (gdo_spec hgB hzB hR hq hmx ht hcom) ?_ ?_
       ·rintro _ w310 ⟨R9, e9, he9, hs9, rfl, c311⟩
        replace HC := HC.trans c311 q4
        replace szB := Nat.le_trans szB c311.size
        intro E9
        refine block_p <| then_p <| pp_panic ?_
        have hin : innerG com Z = .er R9 e9 := by unfold innerG; rw [if_neg h0, if_neg h1, if_neg h2, if_pos (.inr h4)]; simp only [heB, he9, Rs.bind]
        exact ⟨_, _, by rw [compG, hin]; rfl, (hs9.trans hsB).trans hsT, rfl, HC⟩
       rintro _ w312 ⟨cC, RC, vsC, heC, hsC, hlC, rfl, hvC, hR, c313⟩
       obtain ⟨A1C, n1C, A2C, n2C, A3C, n3C, A4C, n4C, A5C, n5C, rfl, hAC, k1C, k2C, k3C, k4C, k5C⟩ := cm_open hvC
       replace hvC := cmE.mono hvC (D' := (fun k => w306.heap.size ≤ k ∧ k < w312.heap.size)) (fun k hk h => ⟨h, hk⟩)
       have szC : w312.heap.size ≤ w312.heap.size := Nat.le_refl _
       have szmC := c313.size
       replace HC := HC.trans c313 q4
       replace ht := ht.tr c313 q1
       replace hmx := hmx.tr c313 q1
       replace hb4 := hb4.tr1 c313 (by omega)
       replace szB := Nat.le_trans szB c313.size
       replace oK := oK.tr c313 q3
       replace hb305 := hb305.tr1 c313 (by omega)
       refine ⟨_, fun _ h => h, ⟨(Eq.trans hb4 o308.symm), (Eq.trans hb305 o309.symm), trivial⟩, ?_⟩
       refine sq_lit1 (ps := [(0, .tmp 51)]) (vs := [.int _ _, S _, .bool _, .bool _, .slice _ _ _, .slice _ _ _, .slice _ _ _, .slice _ _ _, .slice _ _ _]) rfl T.lit27 (by decide) rfl q6 rfl ?_
       intro b314 w315 e316 c317 hb318
       have ge_b314 := gB e316 HC.size
       have gq_szB_b314 : w290.heap.size ≤ b314 := by rw [e316]; exact szB
       have na_Kb314 : b314 ∉ ob ((some ⟨b292, 0, none⟩)) := oK.fresh (by rw [e316]; exact Nat.le_refl _)
       have gq_szC_b314 : w312.heap.size ≤ b314 := by rw [e316]; exact szC
       replace HC := HC.then c317
       replace ht := ht.tr0 c317
       replace hmx := hmx.tr0 c317
       replace hb4 := hb4.tr0 c317
       replace szB := Nat.le_trans szB c317.size
       replace oK := oK.tr0 c317
       replace hb305 := hb305.tr0 c317
       replace hR := hR.tr0 c317
       replace hvC := Enc.chg hvC c317 q8
       replace szC := Nat.le_trans szC c317.size
       clear e316
       refine ext_T (b := b314) ⟨(Eq.trans hb4 o308.symm), (Eq.trans hb305 o309.symm), trivial⟩ ?_
       have o319 := hb318
       have hszA := HC.size
       refine sq_append1 (c := cmE) (D2 := (fun k => w306.heap.size ≤ k ∧ k < w312.heap.size)) (xs := [cB]) (ys := [cC]) rfl T.slice27 rfl rfl oK rfl rfl (one_elem hvC (hb318.cells (n := 9) rfl)) (fun k _ h => ⟨⟨by omega, by omega, by omega⟩, fun hk => by have h8 := olC_oK k hk; omega⟩) (fun k hk => (by have h7 := HC.size; have h8 := hb4.lt; have h9 := hb305.lt; exact ⟨by omega, by omega, by omega⟩)) q7 q7 ?_
       intro A320 cap321 w322 ho323 c324 hg325
       replace HC := HC.trans c324 (fun k hk => .inr ((oK.inD k hk).1))
       replace ht := ht.tr c324 (fun hx => by first | (have h1 := (oK.inD _ hx).1; omega) | (have h1 : w.heap.size ≤ 0 := oK.inD _ hx; omega))
       replace hmx := hmx.tr c324 (by intro hx; have hD := oK.inD _ hx; omega)
       replace hb4 := hb4.tr c324 (fun hx => by first | (have h1 := oK.inD _ hx; omega) | exact na_Kb2 hx | exact hav _ hx (by simp))
       replace szB := Nat.le_trans szB c324.size
       replace hb305 := hb305.tr c324 (fun hx => by first | (have h1 := oK.inD _ hx; omega) | exact na_Kb4 hx | exact hav _ hx (by simp))
       replace hR := hR.tr c324 (by intro k hk; have hD := oK.inD k hk; omega)
       replace szC := Nat.le_trans szC c324.size
       replace hb318 := hb318.tr c324 (fun hx => by first | (have h1 := oK.inD _ hx; omega) | exact na_Kb314 hx | exact hav _ hx (by simp))
       refine ⟨_, fun _ h => h, ⟨(Eq.trans hb318 o319.symm), ⟨(Eq.trans hb4 o308.symm), (Eq.trans hb305 o309.symm), trivial⟩⟩, ?_⟩
       refine sq_q rfl (fun W hT => r_fieldAddr T.fld30_7 rfl) <| sq_store2 rfl T.size27 (v := .slice _ _ _) rfl rfl rfl hb305 rfl (Nat.le_of_ble_eq_true rfl) q5 rfl ?_
       intro w326 c327 hb328; simp only [setVs, setV] at hb328
       clear hb305
       replace HC := HC.then1 c327 ge_b4
       replace ht := ht.tr c327 q1
       replace hmx := hmx.tr c327 q1
       replace hb4 := hb4.tr1 c327 ne_b2_b4
       replace szB := Nat.le_trans szB c327.size
       replace ho323 := ho323.tr c327 q3
       replace hR := hR.tr c327 q2
       replace szC := Nat.le_trans szC c327.size
       clear o308
       clear o309
       clear o319
       refine sq_nil <| block_n <| then_n <| x_seq <| x_seq ?_
       obtain ⟨cI, A1I, n1I, A2I, n2I, A4I, n4I, A5I, n5I, RI, hin, hsI, hlI, hrI, hb4I, ⟨hAI, k1I, k2I, k3I, k4I, k5I⟩, hRI⟩ : ∃ cI A1I n1I A2I n2I A4I n4I A5I n5I RI, innerG com Z = .ok cI RI ∧ Suf RI Z ∧ RI.length < Z.length ∧ cI.rds = [] ∧ Blk w326 b4 [.int .i64 cI.kind, S cI.name, .bool cI.bang, .bool cI.inn, .slice A1I cI.asg.length n1I, .slice A2I cI.words.length n2I, .slice none 0 0, .slice A4I cI.kids.length n4I, .slice A5I cI.items.length n5I] 30 ∧ (CmAt w326 (fun k => (w.heap.size ≤ k ∧ k ≠ b2 ∧ k ≠ b4) ∧ k < w326.heap.size) cI A1I A2I none A4I A5I ∧ capOk cI.asg.length n1I ∧ capOk cI.words.length n2I ∧ capOk cI.rds.length 0 ∧ capOk cI.kids.length n4I ∧ capOk cI.items.length n5I) ∧ RdAt w326 rb tb d RI := ⟨kidsC 11 ([cB] ++ [cC]), none, 0, none, 0, _, _, none, 0, RC, (by unfold innerG; rw [if_neg h0, if_neg h1, if_neg h2, if_pos (.inr h4)]; simp only [heB, Rs.bind, heC, if_pos h5]; rfl), hsC.trans (hsB.trans hsT), by have := hsB.len; omega, rfl, hb328, ⟨⟨.nil, .nil, .nil, ho323.sl.mono (fun k hk h => ⟨h, hk⟩), .nil⟩, ⟨Nat.le_refl _, by decide⟩, ⟨Nat.le_refl _, by decide⟩, ⟨Nat.le_refl _, by decide⟩, ho323.le, ⟨Nat.le_refl _, by decide⟩⟩, hR⟩
       have hgI := hsI.good
       have hzI := hsI.gb hz
       have szWI : w326.heap.size ≤ w326.heap.size := Nat.le_refl _
       have szl0 := HC.size
       have lt0_b4 := hb328.lt
       have lt0_b2 := hb4.lt
       refine x_region rfl <| mP rfl <| w_plain rfl (st_callP (ags := [_]) rfl rfl T.ent103 rfl (gredir_spec (Z := RI) hgI hRI hq ht) ?_ ?_)
       ·rintro _ w329 ⟨R9, e9, he9, hs9, rfl, c330⟩
        replace HC := HC.trans c330 q4
        replace szWI := Nat.le_trans szWI c330.size
        refine then_p <| then_p <| pp_panic ?_
        exact ⟨_, _, by simp only [compG, hin, Rs.bind, hrI]; rw [show RI.length = RI.length - 1 + 1 by (have := hgI.pos; omega), redirs_er he9], hs9.trans hsI, rfl, HC⟩
       rintro _ w331 ⟨x0, R0, he0, hs0, hn0, hx0, rfl, hR, c332⟩
       replace HC := HC.trans c332 q4
       replace ht := ht.tr c332 q1
       replace hmx := hmx.tr c332 q1
       replace hb4 := hb4.tr1 c332 (by omega)
       replace hb4I := hb4I.tr1 c332 (by omega)
       replace szWI := Nat.le_trans szWI c332.size
       replace hAI := CmAt.chg hAI c332 q3
       refine mv (v := .tuple ⟨[_, _]⟩) rfl <| Wp rfl <| st_extract (vs := [_, _]) (v := .agg ⟨[.int _ _, S _, S _, S _, .bool _]⟩) rfl rfl <| Wp rfl <| st_extract (vs := [_, _]) (v := .bool _) rfl rfl <| Wp rfl <| st_alloc T.zero40 ?_
       intro b333 w334 e335 c336 hb337
       have ge_b333 := gB e335 HC.size
       have ne_b2_b333 := nE e335 hb4.ne_size
       have ne_b4_b333 := nE e335 hb4I.ne_size
       have gq_szWI_b333 : w326.heap.size ≤ b333 := by rw [e335]; exact szWI
       replace HC := HC.then c336
       replace ht := ht.tr0 c336
       replace hmx := hmx.tr0 c336
       replace hb4 := hb4.tr0 c336
       replace hb4I := hb4I.tr0 c336
       replace szWI := Nat.le_trans szWI c336.size
       replace hAI := CmAt.chg hAI c336 q8
       replace hR := hR.tr0 c336
       clear e335
       refine Wp rfl <| st_st (v := .agg ⟨[_, _, _, _, _]⟩) T.size40 rfl rfl rfl hb337 ?_
       intro w338 c339 hb340; simp only [setVs, setV] at hb340
       clear hb337
       replace HC := HC.then1 c339 ge_b333
       replace ht := ht.tr c339 q1
       replace hmx := hmx.tr c339 q1
       replace hb4 := hb4.tr1 c339 ne_b2_b333
       replace hb4I := hb4I.tr1 c339 ne_b4_b333
       replace szWI := Nat.le_trans szWI c339.size
       replace hAI := CmAt.chg hAI c339 q3
       replace hR := hR.tr c339 q2
       refine aB rfl <| en <| x_block ?_
       have oR : Own rdrE 40 w338 (fun k => w.heap.size ≤ k ∧ w326.heap.size ≤ k) none 0 [] := Own.nil
       refine x_loop (ι := Nat × List Rdr × List Tok × Option Rdr × Option Addr × Nat × Nat) [5, 6, 64, 65, 66, 67, 68, 69, 70, 71, 72, 73, 74, 75, 76] (fun ⟨n, l, Y, x, A, cap, bx⟩ => [(5, .pointer (some ⟨bx, 0, none⟩)), (6, .bool x.isSome)]) (fun ⟨n, l, Y, x, A, cap, bx⟩ W => (redirsG RI.length [] RI = resX n l x Y ∧ Suf Y Z ∧ (x ≠ none → Y.length ≤ n) ∧ l.length + (if x.isSome = true then 1 else 0) + Y.length ≤ Z.length ∧ Y.length < Z.length ∧ (bx ≠ b2 ∧ bx ≠ b4) ∧ w326.heap.size ≤ bx ∧ bx ∉ ob A) ∧ (Chg [rb] w W) ∧ (Tab W) ∧ (MaxT W) ∧ (Blk W b2 [.int .i64 0, S [], .bool false, .bool false, .slice none 0 0, .slice none 0 0, .slice none 0 0, .slice none 0 0, .slice none 0 0] 30) ∧ (w326.heap.size ≤ W.heap.size) ∧ (CmAt W (fun k => (w.heap.size ≤ k ∧ k ≠ b2 ∧ k ≠ b4) ∧ k < w326.heap.size) cI A1I A2I none A4I A5I) ∧ (RdAt W rb tb d Y) ∧ (Own rdrE 40 W (fun k => w.heap.size ≤ k ∧ w326.heap.size ≤ k) A cap l) ∧ (Blk W b4 [.int .i64 cI.kind, S cI.name, .bool cI.bang, .bool cI.inn, .slice A1I cI.asg.length n1I, .slice A2I cI.words.length n2I, .slice A l.length cap, .slice A4I cI.kids.length n4I, .slice A5I cI.items.length n5I] 30) ∧ (Blk W bx [.int .i64 (x.getD rnone).fd, S (x.getD rnone).op, S (x.getD rnone).word, S (x.getD rnone).here, .bool (x.getD rnone).raw] 40)) (fun ⟨n, l, Y, x, A, cap, bx⟩ => (if x.isSome = true then 1 else 0) + Y.length) (RI.length - 1, [], R0, x0, none, 0, b333) ?_ ?_ ?_
       · exact ⟨rfl, rfl, trivial⟩
       ·refine ⟨?_, HC, ht, hmx, hb4, szWI, hAI, hR, oR, hb4I, hb340⟩
        exact ⟨(by have h7 := hgI.pos; rw [show RI.length = RI.length - 1 + 1 by omega]; exact redirs_step he0), hs0.trans hsI, fun h => by have := hx0 h; omega, (by have h7 := hs0.len; have h8 := hsI.len; cases x0 with | none => simp; omega | some r0 => have h9 := hx0 (by simp); simp; omega), by have := hs0.len; omega, ⟨Ne.symm ne_b2_b333, Ne.symm ne_b4_b333⟩, gq_szWI_b333, by simp [ob]⟩
       intro ⟨n, l, Y, x, A, cap, bx⟩ G342 w341 ⟨⟨hre, hsY, hn, hll, hlz, hbx, hbx2, hbA⟩, HC, ht, hmx, hb4, szWI, hAI, hR, oR, hq4, hqx⟩
       change wp _ _ _ _ _ (upds (over _ _ G342) [(5, .pointer (some ⟨bx, 0, none⟩)), (6, .bool x.isSome)]) _ _
       have hgY := hsY.good
       have hpY := hgY.pos
       have gbx : w.heap.size ≤ bx := by omega
       refine x_seq <| sr rfl <| mB rfl <| en <| x_cond rfl (fun h7 => ?_) (fun h7 => ?_)
       ·try simp only [nm, ne_eq] at h7
        obtain ⟨r, rfl⟩ := Option.isSome_iff_exists.1 (show x.isSome = true by first | assumption | simp_all)
        have hn := hn (by simp)
        obtain ⟨n, rfl⟩ : ∃ m, n = m + 1 := ⟨n - 1, by omega⟩
        replace hll : l.length + 1 + Y.length ≤ Z.length := hll
        refine x_skip <| then_n <| x_seq <| x_block <| x_region rfl <| fa T.fld30_6 rfl <| lL T.one26 rfl (hq4.cell rfl) <| Wp rfl <| st_loadA (vs := [_, _, _, _, _]) T.agg40 rfl (hqx.cells (n := 5) (vs := [_, _, _, _, _]) rfl) rfl <| Wp rfl <| st_lit (ps := [(0, .tmp 72)]) (vs := [.int _ _, S _, S _, S _, .bool _]) T.lit26 (by decide) rfl q6 rfl ?_
        intro b343 w344 e345 c346 hb347
        have ge_b343 := gB e345 HC.size
        have gq_szWI_b343 : w326.heap.size ≤ b343 := by rw [e345]; exact szWI
        have na_Rb343 : b343 ∉ ob A := oR.fresh (by rw [e345]; exact Nat.le_refl _)
        replace HC := HC.then c346
        replace ht := ht.tr0 c346
        replace hmx := hmx.tr0 c346
        replace hb4 := hb4.tr0 c346
        replace szWI := Nat.le_trans szWI c346.size
        replace hAI := CmAt.chg hAI c346 q8
        replace hR := hR.tr0 c346
        replace oR := oR.tr0 c346
        replace hq4 := hq4.tr0 c346
        replace hqx := hqx.tr0 c346
        clear e345
        have hszA := HC.size
        refine Wp rfl <| st_append2 (c := rdrE) (D2 := fun _ => False) (xs := l) (ys := [r]) T.slice26 rfl rfl oR rfl rfl (one_elem rfl (hb347.cells (n := 5) rfl)) (fun _ _ h => h.elim) (fun k hk => (by have h8 := szWI; have h9 := HC.size; exact ⟨by omega, by omega⟩)) q7 q7 ?_
        intro A348 cap349 w350 ho351 c352 hg353
        replace HC := HC.trans c352 (fun k hk => .inr ((oR.inD k hk).1))
        replace ht := ht.tr c352 (fun hx => by first | (have h1 := (oR.inD _ hx).1; omega) | (have h1 : w.heap.size ≤ 0 := oR.inD _ hx; omega))
        replace hmx := hmx.tr c352 (by intro hx; have hD := oR.inD _ hx; omega)
        replace hb4 := hb4.tr c352 (fun hx => by first | (have h1 := oR.inD _ hx; omega) | exact na_Rb2 hx | exact hav _ hx (by simp))
        replace szWI := Nat.le_trans szWI c352.size
        replace hAI := CmAt.chg hAI c352 (by intro k hk hD; have h7 := (oR.inD k hk).2; omega)
        replace hR := hR.tr c352 (by intro k hk; have hD := oR.inD k hk; omega)
        replace hq4 := hq4.tr c352 (fun hx => by first | (have h1 := oR.inD _ hx; omega) | exact na_Rb4 hx | exact hav _ hx (by simp))
        replace hqx := hqx.tr c352 (fun hx => hbA hx)
        refine fa T.fld30_6 rfl <| Wp rfl <| st_st (v := .slice _ _ _) T.size26 rfl rfl rfl hq4 ?_
        intro w354 c355 hb356; simp only [setVs, setV] at hb356
        clear hq4
        replace HC := HC.then1 c355 ge_b4
        replace ht := ht.tr c355 q1
        replace hmx := hmx.tr c355 q1
        replace hb4 := hb4.tr1 c355 ne_b2_b4
        replace szWI := Nat.le_trans szWI c355.size
        replace hAI := CmAt.chg hAI c355 q3
        replace hR := hR.tr c355 q2
        replace ho351 := ho351.trF flat_flat c355 (by intro k hk hx; have hD := ho351.inD k hk; simp only [List.mem_cons, List.mem_nil_iff, or_false] at hx; first | omega | (obtain rfl := hx; exact na_Rb4 hk))
        replace hqx := hqx.tr1 c355 (by omega)
        refine wops_nil <| block_n <| then_n <| x_seq <| sr rfl <| Wp rfl <| st_loadA (vs := [_, _, _, _, _]) T.agg40 rfl (hqx.cells (n := 5) (vs := [_, _, _, _, _]) rfl) rfl <| en <| x_region rfl <| Wp rfl <| st_alloc T.zero40 ?_
        intro b357 w358 e359 c360 hb361
        have ge_b357 := gB e359 HC.size
        have ne_b2_b357 := nE e359 hb4.ne_size
        have ne_b4_b357 := nE e359 hb356.ne_size
        have gq_szWI_b357 : w326.heap.size ≤ b357 := by rw [e359]; exact szWI
        have na_Rb357 : b357 ∉ ob A348 := ho351.fresh (by rw [e359]; exact Nat.le_refl _)
        replace HC := HC.then c360
        replace ht := ht.tr0 c360
        replace hmx := hmx.tr0 c360
        replace hb4 := hb4.tr0 c360
        replace szWI := Nat.le_trans szWI c360.size
        replace hAI := CmAt.chg hAI c360 q8
        replace hR := hR.tr0 c360
        replace ho351 := ho351.tr0 c360
        replace hb356 := hb356.tr0 c360
        clear e359
        refine Wp rfl <| st_st (v := .agg ⟨[_, _, _, _, _]⟩) T.size40 rfl rfl rfl hb361 ?_
        intro w362 c363 hb364; simp only [setVs, setV] at hb364
        clear hb361
        replace HC := HC.then1 c363 ge_b357
        replace ht := ht.tr c363 q1
        replace hmx := hmx.tr c363 q1
        replace hb4 := hb4.tr1 c363 ne_b2_b357
        replace szWI := Nat.le_trans szWI c363.size
        replace hAI := CmAt.chg hAI c363 q3
        replace hR := hR.tr c363 q2
        replace ho351 := ho351.trF flat_flat c363 (by intro k hk hx; have hD := ho351.inD k hk; simp only [List.mem_cons, List.mem_nil_iff, or_false] at hx; first | omega | (obtain rfl := hx; exact na_Rb357 hk))
        replace hb356 := hb356.tr1 c363 ne_b4_b357
        refine en <| x_region rfl <| mP rfl <| w_plain rfl (st_callP (ags := [_]) rfl rfl T.ent103 rfl (gredir_spec (Z := Y) hgY hR hq ht) ?_ ?_)
        ·rintro _ w365 ⟨R9, e9, he9, hs9, rfl, c366⟩
         replace HC := HC.trans c366 q4
         replace szWI := Nat.le_trans szWI c366.size
         refine then_p <| block_p <| then_p <| pp_panic ?_
         exact ⟨_, _, by simp only [compG, hin, Rs.bind, hrI]; rw [hre]; show Rs.bind (redirsG (n + 1) (l ++ [r]) Y) _ = _; rw [redirs_er he9]; rfl, hs9.trans hsY, rfl, HC⟩
        rintro _ w367 ⟨x1, R1, he1, hs1, hn1, hx1, rfl, hR, c368⟩
        replace HC := HC.trans c368 q4
        replace ht := ht.tr c368 q1
        replace hmx := hmx.tr c368 q1
        replace hb4 := hb4.tr1 c368 (by omega)
        replace szWI := Nat.le_trans szWI c368.size
        replace hAI := CmAt.chg hAI c368 q3
        replace ho351 := ho351.trF flat_flat c368 (by intro k hk hx; have hD := ho351.inD k hk; simp only [List.mem_cons, List.mem_nil_iff, or_false] at hx; first | omega)
        replace hb356 := hb356.tr1 c368 (by omega)
        replace hb364 := hb364.tr1 c368 (by omega)
        refine mv (v := .tuple ⟨[_, _]⟩) rfl <| Wp rfl <| st_extract (vs := [_, _]) (v := .agg ⟨[.int _ _, S _, S _, S _, .bool _]⟩) rfl rfl <| Wp rfl <| st_extract (vs := [_, _]) (v := .bool _) rfl rfl <| Wp rfl <| st_st (v := .agg ⟨[_, _, _, _, _]⟩) T.size40 rfl rfl rfl hb364 ?_
        intro w369 c370 hb371; simp only [setVs, setV] at hb371
        clear hb364
        replace HC := HC.then1 c370 ge_b357
        replace ht := ht.tr c370 q1
        replace hmx := hmx.tr c370 q1
        replace hb4 := hb4.tr1 c370 ne_b2_b357
        replace szWI := Nat.le_trans szWI c370.size
        replace hAI := CmAt.chg hAI c370 q3
        replace ho351 := ho351.trF flat_flat c370 (by intro k hk hx; have hD := ho351.inD k hk; simp only [List.mem_cons, List.mem_nil_iff, or_false] at hx; first | omega | (obtain rfl := hx; exact na_Rb357 hk))
        replace hb356 := hb356.tr1 c370 ne_b4_b357
        replace hR := hR.tr c370 q2
        refine aB rfl <| en <| ⟨(n, l ++ [r], R1, x1, A348, cap349, b357), ?_, ?_, rfl, ⟨rfl, rfl, trivial⟩, ?_⟩
        ·refine ⟨?_, HC, ht, hmx, hb4, szWI, hAI, hR, ho351, hb356, hb371⟩
         exact ⟨by rw [hre]; show redirsG (n + 1) (l ++ [r]) Y = _; exact redirs_step he1, hs1.trans hsY, fun h => by have := hx1 h; omega, (by have h7 := hs1.len; simp only [List.length_append, List.length_cons, List.length_nil]; cases x1 with | none => simp; omega | some r1 => have h9 := hx1 (by simp); simp; omega), by have := hs1.len; omega, ⟨Ne.symm ne_b2_b357, Ne.symm ne_b4_b357⟩, gq_szWI_b357, na_Rb357⟩
        ·have hmu : (if x1.isSome = true then 1 else 0) + R1.length < 1 + Y.length := by cases x1 with | none => (have h7 := hn1 rfl; rw [h7]; simp) | some r1 => (have h9 := hx1 (by simp); simp; omega)
         exact hmu
        exact q9
       ·try simp only [nm, ne_eq] at h7
        obtain rfl : x = none := by cases x with | none => rfl | some _ => simp_all
        have hfin : redirsG RI.length [] RI = .ok l Y := hre
        refine x_exit <| then_x <| then_x <| block_x <| then_n <| sr rfl <| Wp rfl <| st_loadA (vs := [_, _, _, _, _, _, _, _, _]) T.agg30 rfl (hq4.cells (n := 9) (vs := [_, _, _, _, _, _, _, _, _]) rfl) rfl <| Wp rfl <| st_st (v := .agg ⟨[_, _, _, _, _, _, _, _, _]⟩) T.size30 rfl rfl rfl hb4 ?_
        intro w372 c373 hb374; simp only [setVs, setV] at hb374
        clear hb4
        replace HC := HC.then1 c373 ge_b2
        replace szWI := Nat.le_trans szWI c373.size
        replace hAI := CmAt.chg hAI c373 q3
        replace hR := hR.tr c373 q2
        replace oR := oR.trF flat_flat c373 (by intro k hk hx; have hD := oR.inD k hk; simp only [List.mem_cons, List.mem_nil_iff, or_false] at hx; first | omega | (obtain rfl := hx; exact na_Rb2 hk))
        refine en <| x_ret <| pp_ret <| ret_cellA (vs := [_, _, _, _, _, _, _, _, _]) rfl rfl T.agg30 (hb374.cells (n := 9) rfl) rfl ?_
        exact ⟨addR cI l, Y, _, by simp only [compG, hin, Rs.bind, hrI]; rw [hfin], hsY, hlz, rfl, cm_shut (c := addR cI l) ⟨hAI.asg.mono (fun k _ h => h.1.1), hAI.words.mono (fun k _ h => h.1.1), oR.sl.mono (fun k _ h => h.1), hAI.kids.mono (fun k _ h => h.1.1), hAI.items.mono (fun k _ h => h.1.1)⟩ k1I k2I oR.le k4I k5I, hR, HC⟩
      ·try simp only [nm, ne_eq] at h5
       exact absurd h4 h5
     ·try simp only [nm, ne_eq] at h4
      refine sr rfl <| Wp rfl <| st_seql rfl rfl <| aB rfl <| en <| x_cond rfl (fun h6 => ?_) (fun h6 => ?_)
      ·try simp only [nm, ne_eq] at h6
       refine x_region rfl <| mP rfl ?_
       have ltB_b2 := hb4.lt
       have ltB_b3 := hb13.lt
       have ltB_b4 := hb20.lt
       have szlB := HC.size
       refine w_plain rfl (st_callP (ags := [_]) rfl rfl T.ent101 rfl (geach_spec hgT hzT hR hq hmx ht hcom) ?_ ?_)
       ·rintro _ w375 ⟨R9, e9, he9, hs9, rfl, c376⟩
        replace HC := HC.trans c376 q4
        refine block_p <| then_p <| pp_panic ?_
        have hin : innerG com Z = .er R9 e9 := by unfold innerG; rw [if_neg h0, if_neg h1, if_neg h2, if_neg (fun e => e.elim h3 h4), if_pos h6]; exact he9
        exact ⟨_, _, by rw [compG, hin]; rfl, hs9.trans hsT, rfl, HC⟩
       rintro _ w377 ⟨cB, RB, A1B, n1B, A2B, n2B, A4B, n4B, A5B, n5B, heB, hsB, hlB, hrB, rfl, hvB, hR, c378⟩
       replace hvB := cmE.mono hvB (D' := (fun k => w18.heap.size ≤ k ∧ k < w377.heap.size)) (fun k hk h => ⟨h, hk⟩)
       have szB : w377.heap.size ≤ w377.heap.size := Nat.le_refl _
       have szmB := c378.size
       replace HC := HC.trans c378 q4
       replace ht := ht.tr c378 q1
       replace hmx := hmx.tr c378 q1
       replace hb4 := hb4.tr1 c378 (by omega)
       replace hb20 := hb20.tr1 c378 (by omega)
       refine Wp rfl <| st_st (v := .agg ⟨[_, _, _, _, _, _, _, _, _]⟩) T.size30 rfl rfl rfl hb20 ?_
       intro w379 c380 hb381; simp only [setVs, setV] at hb381
       clear hb20
       replace HC := HC.then1 c380 ge_b4
       replace ht := ht.tr c380 q1
       replace hmx := hmx.tr c380 q1
       replace hb4 := hb4.tr1 c380 ne_b2_b4
       replace hR := hR.tr c380 q2
       replace hvB := Enc.chg hvB c380 q3
       replace szB := Nat.le_trans szB c380.size
       refine wops_nil <| block_n <| then_n <| x_seq <| x_seq ?_
       obtain ⟨cI, A1I, n1I, A2I, n2I, A4I, n4I, A5I, n5I, RI, hin, hsI, hlI, hrI, hb4I, ⟨hAI, k1I, k2I, k3I, k4I, k5I⟩, hRI⟩ : ∃ cI A1I n1I A2I n2I A4I n4I A5I n5I RI, innerG com Z = .ok cI RI ∧ Suf RI Z ∧ RI.length < Z.length ∧ cI.rds = [] ∧ Blk w379 b4 [.int .i64 cI.kind, S cI.name, .bool cI.bang, .bool cI.inn, .slice A1I cI.asg.length n1I, .slice A2I cI.words.length n2I, .slice none 0 0, .slice A4I cI.kids.length n4I, .slice A5I cI.items.length n5I] 30 ∧ (CmAt w379 (fun k => (w.heap.size ≤ k ∧ k ≠ b2 ∧ k ≠ b4) ∧ k < w379.heap.size) cI A1I A2I none A4I A5I ∧ capOk cI.asg.length n1I ∧ capOk cI.words.length n2I ∧ capOk cI.rds.length 0 ∧ capOk cI.kids.length n4I ∧ capOk cI.items.length n5I) ∧ RdAt w379 rb tb d RI := ⟨cB, A1B, n1B, A2B, n2B, A4B, n4B, A5B, n5B, RB, (by unfold innerG; rw [if_neg h0, if_neg h1, if_neg h2, if_neg (fun e => e.elim h3 h4), if_pos h6]; exact heB), hsB.trans hsT, by omega, hrB, (by have h7 := hb381; rw [hrB] at h7; exact h7), (cm_at hvB).imp (fun h => h.mono (fun k hk h => ⟨⟨by omega, by omega, by omega⟩, hk⟩)) id, hR⟩
       have hgI := hsI.good
       have hzI := hsI.gb hz
       have szWI : w379.heap.size ≤ w379.heap.size := Nat.le_refl _
       have szl0 := HC.size
       have lt0_b4 := hb381.lt
       have lt0_b2 := hb4.lt
       refine x_region rfl <| mP rfl <| w_plain rfl (st_callP (ags := [_]) rfl rfl T.ent103 rfl (gredir_spec (Z := RI) hgI hRI hq ht) ?_ ?_)
       ·rintro _ w382 ⟨R9, e9, he9, hs9, rfl, c383⟩
        replace HC := HC.trans c383 q4
        replace szWI := Nat.le_trans szWI c383.size
        refine then_p <| then_p <| pp_panic ?_
        exact ⟨_, _, by simp only [compG, hin, Rs.bind, hrI]; rw [show RI.length = RI.length - 1 + 1 by (have := hgI.pos; omega), redirs_er he9], hs9.trans hsI, rfl, HC⟩
       rintro _ w384 ⟨x0, R0, he0, hs0, hn0, hx0, rfl, hR, c385⟩
       replace HC := HC.trans c385 q4
       replace ht := ht.tr c385 q1
       replace hmx := hmx.tr c385 q1
       replace hb4 := hb4.tr1 c385 (by omega)
       replace hb4I := hb4I.tr1 c385 (by omega)
       replace szWI := Nat.le_trans szWI c385.size
       replace hAI := CmAt.chg hAI c385 q3
       refine mv (v := .tuple ⟨[_, _]⟩) rfl <| Wp rfl <| st_extract (vs := [_, _]) (v := .agg ⟨[.int _ _, S _, S _, S _, .bool _]⟩) rfl rfl <| Wp rfl <| st_extract (vs := [_, _]) (v := .bool _) rfl rfl <| Wp rfl <| st_alloc T.zero40 ?_
       intro b386 w387 e388 c389 hb390
       have ge_b386 := gB e388 HC.size
       have ne_b2_b386 := nE e388 hb4.ne_size
       have ne_b4_b386 := nE e388 hb4I.ne_size
       have gq_szWI_b386 : w379.heap.size ≤ b386 := by rw [e388]; exact szWI
       replace HC := HC.then c389
       replace ht := ht.tr0 c389
       replace hmx := hmx.tr0 c389
       replace hb4 := hb4.tr0 c389
       replace hb4I := hb4I.tr0 c389
       replace szWI := Nat.le_trans szWI c389.size
       replace hAI := CmAt.chg hAI c389 q8
       replace hR := hR.tr0 c389
       clear e388
       refine Wp rfl <| st_st (v := .agg ⟨[_, _, _, _, _]⟩) T.size40 rfl rfl rfl hb390 ?_
       intro w391 c392 hb393; simp only [setVs, setV] at hb393
       clear hb390
       replace HC := HC.then1 c392 ge_b386
       replace ht := ht.tr c392 q1
       replace hmx := hmx.tr c392 q1
       replace hb4 := hb4.tr1 c392 ne_b2_b386
       replace hb4I := hb4I.tr1 c392 ne_b4_b386
       replace szWI := Nat.le_trans szWI c392.size
       replace hAI := CmAt.chg hAI c392 q3
       replace hR := hR.tr c392 q2
       refine aB rfl <| en <| x_block ?_
       have oR : Own rdrE 40 w391 (fun k => w.heap.size ≤ k ∧ w379.heap.size ≤ k) none 0 [] := Own.nil
       refine x_loop (ι := Nat × List Rdr × List Tok × Option Rdr × Option Addr × Nat × Nat) [5, 6, 64, 65, 66, 67, 68, 69, 70, 71, 72, 73, 74, 75, 76] (fun ⟨n, l, Y, x, A, cap, bx⟩ => [(5, .pointer (some ⟨bx, 0, none⟩)), (6, .bool x.isSome)]) (fun ⟨n, l, Y, x, A, cap, bx⟩ W => (redirsG RI.length [] RI = resX n l x Y ∧ Suf Y Z ∧ (x ≠ none → Y.length ≤ n) ∧ l.length + (if x.isSome = true then 1 else 0) + Y.length ≤ Z.length ∧ Y.length < Z.length ∧ (bx ≠ b2 ∧ bx ≠ b4) ∧ w379.heap.size ≤ bx ∧ bx ∉ ob A) ∧ (Chg [rb] w W) ∧ (Tab W) ∧ (MaxT W) ∧ (Blk W b2 [.int .i64 0, S [], .bool false, .bool false, .slice none 0 0, .slice none 0 0, .slice none 0 0, .slice none 0 0, .slice none 0 0] 30) ∧ (w379.heap.size ≤ W.heap.size) ∧ (CmAt W (fun k => (w.heap.size ≤ k ∧ k ≠ b2 ∧ k ≠ b4) ∧ k < w379.heap.size) cI A1I A2I none A4I A5I) ∧ (RdAt W rb tb d Y) ∧ (Own rdrE 40 W (fun k => w.heap.size ≤ k ∧ w379.heap.size ≤ k) A cap l) ∧ (Blk W b4 [.int .i64 cI.kind, S cI.name, .bool cI.bang, .bool cI.inn, .slice A1I cI.asg.length n1I, .slice A2I cI.words.length n2I, .slice A l.length cap, .slice A4I cI.kids.length n4I, .slice A5I cI.items.length n5I] 30) ∧ (Blk W bx [.int .i64 (x.getD rnone).fd, S (x.getD rnone).op, S (x.getD rnone).word, S (x.getD rnone).here, .bool (x.getD rnone).raw] 40)) (fun ⟨n, l, Y, x, A, cap, bx⟩ => (if x.isSome = true then 1 else 0) + Y.length) (RI.length - 1, [], R0, x0, none, 0, b386) ?_ ?_ ?_
       · exact ⟨rfl, rfl, trivial⟩
       ·refine ⟨?_, HC, ht, hmx, hb4, szWI, hAI, hR, oR, hb4I, hb393⟩
        exact ⟨(by have h7 := hgI.pos; rw [show RI.length = RI.length - 1 + 1 by omega]; exact redirs_step he0), hs0.trans hsI, fun h => by have := hx0 h; omega, (by have h7 := hs0.len; have h8 := hsI.len; cases x0 with | none => simp; omega | some r0 => have h9 := hx0 (by simp); simp; omega), by have := hs0.len; omega, ⟨Ne.symm ne_b2_b386, Ne.symm ne_b4_b386⟩, gq_szWI_b386, by simp [ob]⟩
       intro ⟨n, l, Y, x, A, cap, bx⟩ G395 w394 ⟨⟨hre, hsY, hn, hll, hlz, hbx, hbx2, hbA⟩, HC, ht, hmx, hb4, szWI, hAI, hR, oR, hq4, hqx⟩
       change wp _ _ _ _ _ (upds (over _ _ G395) [(5, .pointer (some ⟨bx, 0, none⟩)), (6, .bool x.isSome)]) _ _
       have hgY := hsY.good
       have hpY := hgY.pos
       have gbx : w.heap.size ≤ bx := by omega
       refine x_seq <| sr rfl <| mB rfl <| en <| x_cond rfl (fun h7 => ?_) (fun h7 => ?_)
       ·try simp only [nm, ne_eq] at h7
        obtain ⟨r, rfl⟩ := Option.isSome_iff_exists.1 (show x.isSome = true by first | assumption | simp_all)
        have hn := hn (by simp)
        obtain ⟨n, rfl⟩ : ∃ m, n = m + 1 := ⟨n - 1, by omega⟩
        replace hll : l.length + 1 + Y.length ≤ Z.length := hll
        refine x_skip <| then_n <| x_seq <| x_block <| x_region rfl <| fa T.fld30_6 rfl <| lL T.one26 rfl (hq4.cell rfl) <| Wp rfl <| st_loadA (vs := [_, _, _, _, _]) T.agg40 rfl (hqx.cells (n := 5) (vs := [_, _, _, _, _]) rfl) rfl <| Wp rfl <| st_lit (ps := [(0, .tmp 72)]) (vs := [.int _ _, S _, S _, S _, .bool _]) T.lit26 (by decide) rfl q6 rfl ?_
        intro b396 w397 e398 c399 hb400
        have ge_b396 := gB e398 HC.size
        have gq_szWI_b396 : w379.heap.size ≤ b396 := by rw [e398]; exact szWI
        have na_Rb396 : b396 ∉ ob A := oR.fresh (by rw [e398]; exact Nat.le_refl _)
        replace HC := HC.then c399
        replace ht := ht.tr0 c399
        replace hmx := hmx.tr0 c399
        replace hb4 := hb4.tr0 c399
        replace szWI := Nat.le_trans szWI c399.size
        replace hAI := CmAt.chg hAI c399 q8
        replace hR := hR.tr0 c399
        replace oR := oR.tr0 c399
        replace hq4 := hq4.tr0 c399
        replace hqx := hqx.tr0 c399
        clear e398
        have hszA := HC.size
        refine Wp rfl <| st_append2 (c := rdrE) (D2 := fun _ => False) (xs := l) (ys := [r]) T.slice26 rfl rfl oR rfl rfl (one_elem rfl (hb400.cells (n := 5) rfl)) (fun _ _ h => h.elim) (fun k hk => (by have h8 := szWI; have h9 := HC.size; exact ⟨by omega, by omega⟩)) q7 q7 ?_
        intro A401 cap402 w403 ho404 c405 hg406
        replace HC := HC.trans c405 (fun k hk => .inr ((oR.inD k hk).1))
        replace ht := ht.tr c405 (fun hx => by first | (have h1 := (oR.inD _ hx).1; omega) | (have h1 : w.heap.size ≤ 0 := oR.inD _ hx; omega))
        replace hmx := hmx.tr c405 (by intro hx; have hD := oR.inD _ hx; omega)
        replace hb4 := hb4.tr c405 (fun hx => by first | (have h1 := oR.inD _ hx; omega) | exact na_Rb2 hx | exact hav _ hx (by simp))
        replace szWI := Nat.le_trans szWI c405.size
        replace hAI := CmAt.chg hAI c405 (by intro k hk hD; have h7 := (oR.inD k hk).2; omega)
        replace hR := hR.tr c405 (by intro k hk; have hD := oR.inD k hk; omega)
        replace hq4 := hq4.tr c405 (fun hx => by first | (have h1 := oR.inD _ hx; omega) | exact na_Rb4 hx | exact hav _ hx (by simp))
        replace hqx := hqx.tr c405 (fun hx => hbA hx)
        refine fa T.fld30_6 rfl <| Wp rfl <| st_st (v := .slice _ _ _) T.size26 rfl rfl rfl hq4 ?_
        intro w407 c408 hb409; simp only [setVs, setV] at hb409
        clear hq4
        replace HC := HC.then1 c408 ge_b4
        replace ht := ht.tr c408 q1
        replace hmx := hmx.tr c408 q1
        replace hb4 := hb4.tr1 c408 ne_b2_b4
        replace szWI := Nat.le_trans szWI c408.size
        replace hAI := CmAt.chg hAI c408 q3
        replace hR := hR.tr c408 q2
        replace ho404 := ho404.trF flat_flat c408 (by intro k hk hx; have hD := ho404.inD k hk; simp only [List.mem_cons, List.mem_nil_iff, or_false] at hx; first | omega | (obtain rfl := hx; exact na_Rb4 hk))
        replace hqx := hqx.tr1 c408 (by omega)
        refine wops_nil <| block_n <| then_n <| x_seq <| sr rfl <| Wp rfl <| st_loadA (vs := [_, _, _, _, _]) T.agg40 rfl (hqx.cells (n := 5) (vs := [_, _, _, _, _]) rfl) rfl <| en <| x_region rfl <| Wp rfl <| st_alloc T.zero40 ?_
        intro b410 w411 e412 c413 hb414
        have ge_b410 := gB e412 HC.size
        have ne_b2_b410 := nE e412 hb4.ne_size
        have ne_b4_b410 := nE e412 hb409.ne_size
        have gq_szWI_b410 : w379.heap.size ≤ b410 := by rw [e412]; exact szWI
        have na_Rb410 : b410 ∉ ob A401 := ho404.fresh (by rw [e412]; exact Nat.le_refl _)
        replace HC := HC.then c413
        replace ht := ht.tr0 c413
        replace hmx := hmx.tr0 c413
        replace hb4 := hb4.tr0 c413
        replace szWI := Nat.le_trans szWI c413.size
        replace hAI := CmAt.chg hAI c413 q8
        replace hR := hR.tr0 c413
        replace ho404 := ho404.tr0 c413
        replace hb409 := hb409.tr0 c413
        clear e412
        refine Wp rfl <| st_st (v := .agg ⟨[_, _, _, _, _]⟩) T.size40 rfl rfl rfl hb414 ?_
        intro w415 c416 hb417; simp only [setVs, setV] at hb417
        clear hb414
        replace HC := HC.then1 c416 ge_b410
        replace ht := ht.tr c416 q1
        replace hmx := hmx.tr c416 q1
        replace hb4 := hb4.tr1 c416 ne_b2_b410
        replace szWI := Nat.le_trans szWI c416.size
        replace hAI := CmAt.chg hAI c416 q3
        replace hR := hR.tr c416 q2
        replace ho404 := ho404.trF flat_flat c416 (by intro k hk hx; have hD := ho404.inD k hk; simp only [List.mem_cons, List.mem_nil_iff, or_false] at hx; first | omega | (obtain rfl := hx; exact na_Rb410 hk))
        replace hb409 := hb409.tr1 c416 ne_b4_b410
        refine en <| x_region rfl <| mP rfl <| w_plain rfl (st_callP (ags := [_]) rfl rfl T.ent103 rfl (gredir_spec (Z := Y) hgY hR hq ht) ?_ ?_)
        ·rintro _ w418 ⟨R9, e9, he9, hs9, rfl, c419⟩
         replace HC := HC.trans c419 q4
         replace szWI := Nat.le_trans szWI c419.size
         refine then_p <| block_p <| then_p <| pp_panic ?_
         exact ⟨_, _, by simp only [compG, hin, Rs.bind, hrI]; rw [hre]; show Rs.bind (redirsG (n + 1) (l ++ [r]) Y) _ = _; rw [redirs_er he9]; rfl, hs9.trans hsY, rfl, HC⟩
        rintro _ w420 ⟨x1, R1, he1, hs1, hn1, hx1, rfl, hR, c421⟩
        replace HC := HC.trans c421 q4
        replace ht := ht.tr c421 q1
        replace hmx := hmx.tr c421 q1
        replace hb4 := hb4.tr1 c421 (by omega)
        replace szWI := Nat.le_trans szWI c421.size
        replace hAI := CmAt.chg hAI c421 q3
        replace ho404 := ho404.trF flat_flat c421 (by intro k hk hx; have hD := ho404.inD k hk; simp only [List.mem_cons, List.mem_nil_iff, or_false] at hx; first | omega)
        replace hb409 := hb409.tr1 c421 (by omega)
        replace hb417 := hb417.tr1 c421 (by omega)
        refine mv (v := .tuple ⟨[_, _]⟩) rfl <| Wp rfl <| st_extract (vs := [_, _]) (v := .agg ⟨[.int _ _, S _, S _, S _, .bool _]⟩) rfl rfl <| Wp rfl <| st_extract (vs := [_, _]) (v := .bool _) rfl rfl <| Wp rfl <| st_st (v := .agg ⟨[_, _, _, _, _]⟩) T.size40 rfl rfl rfl hb417 ?_
        intro w422 c423 hb424; simp only [setVs, setV] at hb424
        clear hb417
        replace HC := HC.then1 c423 ge_b410
        replace ht := ht.tr c423 q1
        replace hmx := hmx.tr c423 q1
        replace hb4 := hb4.tr1 c423 ne_b2_b410
        replace szWI := Nat.le_trans szWI c423.size
        replace hAI := CmAt.chg hAI c423 q3
        replace ho404 := ho404.trF flat_flat c423 (by intro k hk hx; have hD := ho404.inD k hk; simp only [List.mem_cons, List.mem_nil_iff, or_false] at hx; first | omega | (obtain rfl := hx; exact na_Rb410 hk))
        replace hb409 := hb409.tr1 c423 ne_b4_b410
        replace hR := hR.tr c423 q2
        refine aB rfl <| en <| ⟨(n, l ++ [r], R1, x1, A401, cap402, b410), ?_, ?_, rfl, ⟨rfl, rfl, trivial⟩, ?_⟩
        ·refine ⟨?_, HC, ht, hmx, hb4, szWI, hAI, hR, ho404, hb409, hb424⟩
         exact ⟨by rw [hre]; show redirsG (n + 1) (l ++ [r]) Y = _; exact redirs_step he1, hs1.trans hsY, fun h => by have := hx1 h; omega, (by have h7 := hs1.len; simp only [List.length_append, List.length_cons, List.length_nil]; cases x1 with | none => simp; omega | some r1 => have h9 := hx1 (by simp); simp; omega), by have := hs1.len; omega, ⟨Ne.symm ne_b2_b410, Ne.symm ne_b4_b410⟩, gq_szWI_b410, na_Rb410⟩
        ·have hmu : (if x1.isSome = true then 1 else 0) + R1.length < 1 + Y.length := by cases x1 with | none => (have h7 := hn1 rfl; rw [h7]; simp) | some r1 => (have h9 := hx1 (by simp); simp; omega)
         exact hmu
        exact q9
       ·try simp only [nm, ne_eq] at h7
        obtain rfl : x = none := by cases x with | none => rfl | some _ => simp_all
        have hfin : redirsG RI.length [] RI = .ok l Y := hre
        refine x_exit <| then_x <| then_x <| block_x <| then_n <| sr rfl <| Wp rfl <| st_loadA (vs := [_, _, _, _, _, _, _, _, _]) T.agg30 rfl (hq4.cells (n := 9) (vs := [_, _, _, _, _, _, _, _, _]) rfl) rfl <| Wp rfl <| st_st (v := .agg ⟨[_, _, _, _, _, _, _, _, _]⟩) T.size30 rfl rfl rfl hb4 ?_
        intro w425 c426 hb427; simp only [setVs, setV] at hb427
        clear hb4
        replace HC := HC.then1 c426 ge_b2
        replace szWI := Nat.le_trans szWI c426.size
        replace hAI := CmAt.chg hAI c426 q3
        replace hR := hR.tr c426 q2
        replace oR := oR.trF flat_flat c426 (by intro k hk hx; have hD := oR.inD k hk; simp only [List.mem_cons, List.mem_nil_iff, or_false] at hx; first | omega | (obtain rfl := hx; exact na_Rb2 hk))
        refine en <| x_ret <| pp_ret <| ret_cellA (vs := [_, _, _, _, _, _, _, _, _]) rfl rfl T.agg30 (hb427.cells (n := 9) rfl) rfl ?_
        exact ⟨addR cI l, Y, _, by simp only [compG, hin, Rs.bind, hrI]; rw [hfin], hsY, hlz, rfl, cm_shut (c := addR cI l) ⟨hAI.asg.mono (fun k _ h => h.1.1), hAI.words.mono (fun k _ h => h.1.1), oR.sl.mono (fun k _ h => h.1), hAI.kids.mono (fun k _ h => h.1.1), hAI.items.mono (fun k _ h => h.1.1)⟩ k1I k2I oR.le k4I k5I, hR, HC⟩
      ·try simp only [nm, ne_eq] at h6
       refine x_region rfl <| mP rfl ?_
       have ltB_b2 := hb4.lt
       have ltB_b3 := hb13.lt
       have ltB_b4 := hb20.lt
       have szlB := HC.size
       refine w_plain rfl (st_callP (ags := [_]) rfl rfl T.ent102 rfl (gchoose_spec hgT hzT hR hq hmx ht hcom) ?_ ?_)
       ·rintro _ w428 ⟨R9, e9, he9, hs9, rfl, c429⟩
        replace HC := HC.trans c429 q4
        refine block_p <| then_p <| pp_panic ?_
        have hin : innerG com Z = .er R9 e9 := by unfold innerG; rw [if_neg h0, if_neg h1, if_neg h2, if_neg (fun e => e.elim h3 h4), if_neg h6]; exact he9
        exact ⟨_, _, by rw [compG, hin]; rfl, hs9.trans hsT, rfl, HC⟩
       rintro _ w430 ⟨cB, RB, A1B, n1B, A2B, n2B, A4B, n4B, A5B, n5B, heB, hsB, hlB, hrB, rfl, hvB, hR, c431⟩
       replace hvB := cmE.mono hvB (D' := (fun k => w18.heap.size ≤ k ∧ k < w430.heap.size)) (fun k hk h => ⟨h, hk⟩)
       have szB : w430.heap.size ≤ w430.heap.size := Nat.le_refl _
       have szmB := c431.size
       replace HC := HC.trans c431 q4
       replace ht := ht.tr c431 q1
       replace hmx := hmx.tr c431 q1
       replace hb4 := hb4.tr1 c431 (by omega)
       replace hb20 := hb20.tr1 c431 (by omega)
       refine Wp rfl <| st_st (v := .agg ⟨[_, _, _, _, _, _, _, _, _]⟩) T.size30 rfl rfl rfl hb20 ?_
       intro w432 c433 hb434; simp only [setVs, setV] at hb434
       clear hb20
       replace HC := HC.then1 c433 ge_b4
       replace ht := ht.tr c433 q1
       replace hmx := hmx.tr c433 q1
       replace hb4 := hb4.tr1 c433 ne_b2_b4
       replace hR := hR.tr c433 q2
       replace hvB := Enc.chg hvB c433 q3
       replace szB := Nat.le_trans szB c433.size
       refine wops_nil <| block_n <| then_n <| x_seq <| x_seq ?_
       obtain ⟨cI, A1I, n1I, A2I, n2I, A4I, n4I, A5I, n5I, RI, hin, hsI, hlI, hrI, hb4I, ⟨hAI, k1I, k2I, k3I, k4I, k5I⟩, hRI⟩ : ∃ cI A1I n1I A2I n2I A4I n4I A5I n5I RI, innerG com Z = .ok cI RI ∧ Suf RI Z ∧ RI.length < Z.length ∧ cI.rds = [] ∧ Blk w432 b4 [.int .i64 cI.kind, S cI.name, .bool cI.bang, .bool cI.inn, .slice A1I cI.asg.length n1I, .slice A2I cI.words.length n2I, .slice none 0 0, .slice A4I cI.kids.length n4I, .slice A5I cI.items.length n5I] 30 ∧ (CmAt w432 (fun k => (w.heap.size ≤ k ∧ k ≠ b2 ∧ k ≠ b4) ∧ k < w432.heap.size) cI A1I A2I none A4I A5I ∧ capOk cI.asg.length n1I ∧ capOk cI.words.length n2I ∧ capOk cI.rds.length 0 ∧ capOk cI.kids.length n4I ∧ capOk cI.items.length n5I) ∧ RdAt w432 rb tb d RI := ⟨cB, A1B, n1B, A2B, n2B, A4B, n4B, A5B, n5B, RB, (by unfold innerG; rw [if_neg h0, if_neg h1, if_neg h2, if_neg (fun e => e.elim h3 h4), if_neg h6]; exact heB), hsB.trans hsT, by omega, hrB, (by have h7 := hb434; rw [hrB] at h7; exact h7), (cm_at hvB).imp (fun h => h.mono (fun k hk h => ⟨⟨by omega, by omega, by omega⟩, hk⟩)) id, hR⟩
       have hgI := hsI.good
       have hzI := hsI.gb hz
       have szWI : w432.heap.size ≤ w432.heap.size := Nat.le_refl _
       have szl0 := HC.size
       have lt0_b4 := hb434.lt
       have lt0_b2 := hb4.lt
       refine x_region rfl <| mP rfl <| w_plain rfl (st_callP (ags := [_]) rfl rfl T.ent103 rfl (gredir_spec (Z := RI) hgI hRI hq ht) ?_ ?_)
       ·rintro _ w435 ⟨R9, e9, he9, hs9, rfl, c436⟩
        replace HC := HC.trans c436 q4
        replace szWI := Nat.le_trans szWI c436.size
        refine then_p <| then_p <| pp_panic ?_
        exact ⟨_, _, by simp only [compG, hin, Rs.bind, hrI]; rw [show RI.length = RI.length - 1 + 1 by (have := hgI.pos; omega), redirs_er he9], hs9.trans hsI, rfl, HC⟩
       rintro _ w437 ⟨x0, R0, he0, hs0, hn0, hx0, rfl, hR, c438⟩
       replace HC := HC.trans c438 q4
       replace ht := ht.tr c438 q1
       replace hmx := hmx.tr c438 q1
       replace hb4 := hb4.tr1 c438 (by omega)
       replace hb4I := hb4I.tr1 c438 (by omega)
       replace szWI := Nat.le_trans szWI c438.size
       replace hAI := CmAt.chg hAI c438 q3
       refine mv (v := .tuple ⟨[_, _]⟩) rfl <| Wp rfl <| st_extract (vs := [_, _]) (v := .agg ⟨[.int _ _, S _, S _, S _, .bool _]⟩) rfl rfl <| Wp rfl <| st_extract (vs := [_, _]) (v := .bool _) rfl rfl <| Wp rfl <| st_alloc T.zero40 ?_
       intro b439 w440 e441 c442 hb443
       have ge_b439 := gB e441 HC.size
       have ne_b2_b439 := nE e441 hb4.ne_size
       have ne_b4_b439 := nE e441 hb4I.ne_size
       have gq_szWI_b439 : w432.heap.size ≤ b439 := by rw [e441]; exact szWI
       replace HC := HC.then c442
       replace ht := ht.tr0 c442
       replace hmx := hmx.tr0 c442
       replace hb4 := hb4.tr0 c442
       replace hb4I := hb4I.tr0 c442
       replace szWI := Nat.le_trans szWI c442.size
       replace hAI := CmAt.chg hAI c442 q8
       replace hR := hR.tr0 c442
       clear e441
       refine Wp rfl <| st_st (v := .agg ⟨[_, _, _, _, _]⟩) T.size40 rfl rfl rfl hb443 ?_
       intro w444 c445 hb446; simp only [setVs, setV] at hb446
       clear hb443
       replace HC := HC.then1 c445 ge_b439
       replace ht := ht.tr c445 q1
       replace hmx := hmx.tr c445 q1
       replace hb4 := hb4.tr1 c445 ne_b2_b439
       replace hb4I := hb4I.tr1 c445 ne_b4_b439
       replace szWI := Nat.le_trans szWI c445.size
       replace hAI := CmAt.chg hAI c445 q3
       replace hR := hR.tr c445 q2
       refine aB rfl <| en <| x_block ?_
       have oR : Own rdrE 40 w444 (fun k => w.heap.size ≤ k ∧ w432.heap.size ≤ k) none 0 [] := Own.nil
       refine x_loop (ι := Nat × List Rdr × List Tok × Option Rdr × Option Addr × Nat × Nat) [5, 6, 64, 65, 66, 67, 68, 69, 70, 71, 72, 73, 74, 75, 76] (fun ⟨n, l, Y, x, A, cap, bx⟩ => [(5, .pointer (some ⟨bx, 0, none⟩)), (6, .bool x.isSome)]) (fun ⟨n, l, Y, x, A, cap, bx⟩ W => (redirsG RI.length [] RI = resX n l x Y ∧ Suf Y Z ∧ (x ≠ none → Y.length ≤ n) ∧ l.length + (if x.isSome = true then 1 else 0) + Y.length ≤ Z.length ∧ Y.length < Z.length ∧ (bx ≠ b2 ∧ bx ≠ b4) ∧ w432.heap.size ≤ bx ∧ bx ∉ ob A) ∧ (Chg [rb] w W) ∧ (Tab W) ∧ (MaxT W) ∧ (Blk W b2 [.int .i64 0, S [], .bool false, .bool false, .slice none 0 0, .slice none 0 0, .slice none 0 0, .slice none 0 0, .slice none 0 0] 30) ∧ (w432.heap.size ≤ W.heap.size) ∧ (CmAt W (fun k => (w.heap.size ≤ k ∧ k ≠ b2 ∧ k ≠ b4) ∧ k < w432.heap.size) cI A1I A2I none A4I A5I) ∧ (RdAt W rb tb d Y) ∧ (Own rdrE 40 W (fun k => w.heap.size ≤ k ∧ w432.heap.size ≤ k) A cap l) ∧ (Blk W b4 [.int .i64 cI.kind, S cI.name, .bool cI.bang, .bool cI.inn, .slice A1I cI.asg.length n1I, .slice A2I cI.words.length n2I, .slice A l.length cap, .slice A4I cI.kids.length n4I, .slice A5I cI.items.length n5I] 30) ∧ (Blk W bx [.int .i64 (x.getD rnone).fd, S (x.getD rnone).op, S (x.getD rnone).word, S (x.getD rnone).here, .bool (x.getD rnone).raw] 40)) (fun ⟨n, l, Y, x, A, cap, bx⟩ => (if x.isSome = true then 1 else 0) + Y.length) (RI.length - 1, [], R0, x0, none, 0, b439) ?_ ?_ ?_
       · exact ⟨rfl, rfl, trivial⟩
       ·refine ⟨?_, HC, ht, hmx, hb4, szWI, hAI, hR, oR, hb4I, hb446⟩
        exact ⟨(by have h7 := hgI.pos; rw [show RI.length = RI.length - 1 + 1 by omega]; exact redirs_step he0), hs0.trans hsI, fun h => by have := hx0 h; omega, (by have h7 := hs0.len; have h8 := hsI.len; cases x0 with | none => simp; omega | some r0 => have h9 := hx0 (by simp); simp; omega), by have := hs0.len; omega, ⟨Ne.symm ne_b2_b439, Ne.symm ne_b4_b439⟩, gq_szWI_b439, by simp [ob]⟩
       intro ⟨n, l, Y, x, A, cap, bx⟩ G448 w447 ⟨⟨hre, hsY, hn, hll, hlz, hbx, hbx2, hbA⟩, HC, ht, hmx, hb4, szWI, hAI, hR, oR, hq4, hqx⟩
       change wp _ _ _ _ _ (upds (over _ _ G448) [(5, .pointer (some ⟨bx, 0, none⟩)), (6, .bool x.isSome)]) _ _
       have hgY := hsY.good
       have hpY := hgY.pos
       have gbx : w.heap.size ≤ bx := by omega
       refine x_seq <| sr rfl <| mB rfl <| en <| x_cond rfl (fun h7 => ?_) (fun h7 => ?_)
       ·try simp only [nm, ne_eq] at h7
        obtain ⟨r, rfl⟩ := Option.isSome_iff_exists.1 (show x.isSome = true by first | assumption | simp_all)
        have hn := hn (by simp)
        obtain ⟨n, rfl⟩ : ∃ m, n = m + 1 := ⟨n - 1, by omega⟩
        replace hll : l.length + 1 + Y.length ≤ Z.length := hll
        refine x_skip <| then_n <| x_seq <| x_block <| x_region rfl <| fa T.fld30_6 rfl <| lL T.one26 rfl (hq4.cell rfl) <| Wp rfl <| st_loadA (vs := [_, _, _, _, _]) T.agg40 rfl (hqx.cells (n := 5) (vs := [_, _, _, _, _]) rfl) rfl <| Wp rfl <| st_lit (ps := [(0, .tmp 72)]) (vs := [.int _ _, S _, S _, S _, .bool _]) T.lit26 (by decide) rfl q6 rfl ?_
        intro b449 w450 e451 c452 hb453
        have ge_b449 := gB e451 HC.size
        have gq_szWI_b449 : w432.heap.size ≤ b449 := by rw [e451]; exact szWI
        have na_Rb449 : b449 ∉ ob A := oR.fresh (by rw [e451]; exact Nat.le_refl _)
        replace HC := HC.then c452
        replace ht := ht.tr0 c452
        replace hmx := hmx.tr0 c452
        replace hb4 := hb4.tr0 c452
        replace szWI := Nat.le_trans szWI c452.size
        replace hAI := CmAt.chg hAI c452 q8
        replace hR := hR.tr0 c452
        replace oR := oR.tr0 c452
        replace hq4 := hq4.tr0 c452
        replace hqx := hqx.tr0 c452
        clear e451
        have hszA := HC.size
        refine Wp rfl <| st_append2 (c := rdrE) (D2 := fun _ => False) (xs := l) (ys := [r]) T.slice26 rfl rfl oR rfl rfl (one_elem rfl (hb453.cells (n := 5) rfl)) (fun _ _ h => h.elim) (fun k hk => (by have h8 := szWI; have h9 := HC.size; exact ⟨by omega, by omega⟩)) q7 q7 ?_
        intro A454 cap455 w456 ho457 c458 hg459
        replace HC := HC.trans c458 (fun k hk => .inr ((oR.inD k hk).1))
        replace ht := ht.tr c458 (fun hx => by first | (have h1 := (oR.inD _ hx).1; omega) | (have h1 : w.heap.size ≤ 0 := oR.inD _ hx; omega))
        replace hmx := hmx.tr c458 (by intro hx; have hD := oR.inD _ hx; omega)
        replace hb4 := hb4.tr c458 (fun hx => by first | (have h1 := oR.inD _ hx; omega) | exact na_Rb2 hx | exact hav _ hx (by simp))
        replace szWI := Nat.le_trans szWI c458.size
        replace hAI := CmAt.chg hAI c458 (by intro k hk hD; have h7 := (oR.inD k hk).2; omega)
        replace hR := hR.tr c458 (by intro k hk; have hD := oR.inD k hk; omega)
        replace hq4 := hq4.tr c458 (fun hx => by first | (have h1 := oR.inD _ hx; omega) | exact na_Rb4 hx | exact hav _ hx (by simp))
        replace hqx := hqx.tr c458 (fun hx => hbA hx)
        refine fa T.fld30_6 rfl <| Wp rfl <| st_st (v := .slice _ _ _) T.size26 rfl rfl rfl hq4 ?_
        intro w460 c461 hb462; simp only [setVs, setV] at hb462
        clear hq4
        replace HC := HC.then1 c461 ge_b4
        replace ht := ht.tr c461 q1
        replace hmx := hmx.tr c461 q1
        replace hb4 := hb4.tr1 c461 ne_b2_b4
        replace szWI := Nat.le_trans szWI c461.size
        replace hAI := CmAt.chg hAI c461 q3
        replace hR := hR.tr c461 q2
        replace ho457 := ho457.trF flat_flat c461 (by intro k hk hx; have hD := ho457.inD k hk; simp only [List.mem_cons, List.mem_nil_iff, or_false] at hx; first | omega | (obtain rfl := hx; exact na_Rb4 hk))
        replace hqx := hqx.tr1 c461 (by omega)
        refine wops_nil <| block_n <| then_n <| x_seq <| sr rfl <| Wp rfl <| st_loadA (vs := [_, _, _, _, _]) T.agg40 rfl (hqx.cells (n := 5) (vs := [_, _, _, _, _]) rfl) rfl <| en <| x_region rfl <| Wp rfl <| st_alloc T.zero40 ?_
        intro b463 w464 e465 c466 hb467
        have ge_b463 := gB e465 HC.size
        have ne_b2_b463 := nE e465 hb4.ne_size
        have ne_b4_b463 := nE e465 hb462.ne_size
        have gq_szWI_b463 : w432.heap.size ≤ b463 := by rw [e465]; exact szWI
        have na_Rb463 : b463 ∉ ob A454 := ho457.fresh (by rw [e465]; exact Nat.le_refl _)
        replace HC := HC.then c466
        replace ht := ht.tr0 c466
        replace hmx := hmx.tr0 c466
        replace hb4 := hb4.tr0 c466
        replace szWI := Nat.le_trans szWI c466.size
        replace hAI := CmAt.chg hAI c466 q8
        replace hR := hR.tr0 c466
        replace ho457 := ho457.tr0 c466
        replace hb462 := hb462.tr0 c466
        clear e465
        refine Wp rfl <| st_st (v := .agg ⟨[_, _, _, _, _]⟩) T.size40 rfl rfl rfl hb467 ?_
        intro w468 c469 hb470; simp only [setVs, setV] at hb470
        clear hb467
        replace HC := HC.then1 c469 ge_b463
        replace ht := ht.tr c469 q1
        replace hmx := hmx.tr c469 q1
        replace hb4 := hb4.tr1 c469 ne_b2_b463
        replace szWI := Nat.le_trans szWI c469.size
        replace hAI := CmAt.chg hAI c469 q3
        replace hR := hR.tr c469 q2
        replace ho457 := ho457.trF flat_flat c469 (by intro k hk hx; have hD := ho457.inD k hk; simp only [List.mem_cons, List.mem_nil_iff, or_false] at hx; first | omega | (obtain rfl := hx; exact na_Rb463 hk))
        replace hb462 := hb462.tr1 c469 ne_b4_b463
        refine en <| x_region rfl <| mP rfl <| w_plain rfl (st_callP (ags := [_]) rfl rfl T.ent103 rfl (gredir_spec (Z := Y) hgY hR hq ht) ?_ ?_)
        ·rintro _ w471 ⟨R9, e9, he9, hs9, rfl, c472⟩
         replace HC := HC.trans c472 q4
         replace szWI := Nat.le_trans szWI c472.size
         refine then_p <| block_p <| then_p <| pp_panic ?_
         exact ⟨_, _, by simp only [compG, hin, Rs.bind, hrI]; rw [hre]; show Rs.bind (redirsG (n + 1) (l ++ [r]) Y) _ = _; rw [redirs_er he9]; rfl, hs9.trans hsY, rfl, HC⟩
        rintro _ w473 ⟨x1, R1, he1, hs1, hn1, hx1, rfl, hR, c474⟩
        replace HC := HC.trans c474 q4
        replace ht := ht.tr c474 q1
        replace hmx := hmx.tr c474 q1
        replace hb4 := hb4.tr1 c474 (by omega)
        replace szWI := Nat.le_trans szWI c474.size
        replace hAI := CmAt.chg hAI c474 q3
        replace ho457 := ho457.trF flat_flat c474 (by intro k hk hx; have hD := ho457.inD k hk; simp only [List.mem_cons, List.mem_nil_iff, or_false] at hx; first | omega)
        replace hb462 := hb462.tr1 c474 (by omega)
        replace hb470 := hb470.tr1 c474 (by omega)
        refine mv (v := .tuple ⟨[_, _]⟩) rfl <| Wp rfl <| st_extract (vs := [_, _]) (v := .agg ⟨[.int _ _, S _, S _, S _, .bool _]⟩) rfl rfl <| Wp rfl <| st_extract (vs := [_, _]) (v := .bool _) rfl rfl <| Wp rfl <| st_st (v := .agg ⟨[_, _, _, _, _]⟩) T.size40 rfl rfl rfl hb470 ?_
        intro w475 c476 hb477; simp only [setVs, setV] at hb477
        clear hb470
        replace HC := HC.then1 c476 ge_b463
        replace ht := ht.tr c476 q1
        replace hmx := hmx.tr c476 q1
        replace hb4 := hb4.tr1 c476 ne_b2_b463
        replace szWI := Nat.le_trans szWI c476.size
        replace hAI := CmAt.chg hAI c476 q3
        replace ho457 := ho457.trF flat_flat c476 (by intro k hk hx; have hD := ho457.inD k hk; simp only [List.mem_cons, List.mem_nil_iff, or_false] at hx; first | omega | (obtain rfl := hx; exact na_Rb463 hk))
        replace hb462 := hb462.tr1 c476 ne_b4_b463
        replace hR := hR.tr c476 q2
        refine aB rfl <| en <| ⟨(n, l ++ [r], R1, x1, A454, cap455, b463), ?_, ?_, rfl, ⟨rfl, rfl, trivial⟩, ?_⟩
        ·refine ⟨?_, HC, ht, hmx, hb4, szWI, hAI, hR, ho457, hb462, hb477⟩
         exact ⟨by rw [hre]; show redirsG (n + 1) (l ++ [r]) Y = _; exact redirs_step he1, hs1.trans hsY, fun h => by have := hx1 h; omega, (by have h7 := hs1.len; simp only [List.length_append, List.length_cons, List.length_nil]; cases x1 with | none => simp; omega | some r1 => have h9 := hx1 (by simp); simp; omega), by have := hs1.len; omega, ⟨Ne.symm ne_b2_b463, Ne.symm ne_b4_b463⟩, gq_szWI_b463, na_Rb463⟩
        ·have hmu : (if x1.isSome = true then 1 else 0) + R1.length < 1 + Y.length := by cases x1 with | none => (have h7 := hn1 rfl; rw [h7]; simp) | some r1 => (have h9 := hx1 (by simp); simp; omega)
         exact hmu
        exact q9
       ·try simp only [nm, ne_eq] at h7
        obtain rfl : x = none := by cases x with | none => rfl | some _ => simp_all
        have hfin : redirsG RI.length [] RI = .ok l Y := hre
        refine x_exit <| then_x <| then_x <| block_x <| then_n <| sr rfl <| Wp rfl <| st_loadA (vs := [_, _, _, _, _, _, _, _, _]) T.agg30 rfl (hq4.cells (n := 9) (vs := [_, _, _, _, _, _, _, _, _]) rfl) rfl <| Wp rfl <| st_st (v := .agg ⟨[_, _, _, _, _, _, _, _, _]⟩) T.size30 rfl rfl rfl hb4 ?_
        intro w478 c479 hb480; simp only [setVs, setV] at hb480
        clear hb4
        replace HC := HC.then1 c479 ge_b2
        replace szWI := Nat.le_trans szWI c479.size
        replace hAI := CmAt.chg hAI c479 q3
        replace hR := hR.tr c479 q2
        replace oR := oR.trF flat_flat c479 (by intro k hk hx; have hD := oR.inD k hk; simp only [List.mem_cons, List.mem_nil_iff, or_false] at hx; first | omega | (obtain rfl := hx; exact na_Rb2 hk))
        refine en <| x_ret <| pp_ret <| ret_cellA (vs := [_, _, _, _, _, _, _, _, _]) rfl rfl T.agg30 (hb480.cells (n := 9) rfl) rfl ?_
        exact ⟨addR cI l, Y, _, by simp only [compG, hin, Rs.bind, hrI]; rw [hfin], hsY, hlz, rfl, cm_shut (c := addR cI l) ⟨hAI.asg.mono (fun k _ h => h.1.1), hAI.words.mono (fun k _ h => h.1.1), oR.sl.mono (fun k _ h => h.1), hAI.kids.mono (fun k _ h => h.1.1), hAI.items.mono (fun k _ h => h.1.1)⟩ k1I k2I oR.le k4I k5I, hR, HC⟩

end Go.Proofs.YtghjmiggobpmoaaGreatDoor.K
