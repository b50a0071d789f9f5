import Derived.Test.YtghjmiggobpmoaaGreatDoorTok
import Derived.Test.YtghjmiggobpmoaaGreatDoorUf
set_option linter.unusedVariables false
set_option linter.unusedSimpArgs false
set_option autoImplicit false
set_option maxRecDepth 20000
namespace Go.Proofs.YtghjmiggobpmoaaGreatDoor.K
open Go Go.Proofs Go.RowKit

theorem inv_last {s : Bytes} {Z : Zst} (h : InvZ s Z) (he : endZ s Z = true) (h0 : (tZ s Z).2.2 = 0) : (∀ x, x ∈ nxW s Z → x.1 < (nxO s Z).length) ∧ GoodO s.length s.length (nxO s Z) := by
  have hk := (endZ_iff.1 he).resolve_left (by rw [h0]; simp)
  refine ⟨pushW_lt h.ws, fun u hu => ?_⟩
  rcases List.mem_append.1 hu with hu | hu
  · have h1 := h.good u hu; have h2 := h.le; exact ⟨h1.1, by omega⟩
  · rw [List.mem_singleton.1 hu]
    have hr : s.drop Z.i = [] := by
      rcases Decidable.em (s.drop Z.i = []) with h9 | h9
      · exact h9
      · rcases nextT_ok h9 (h.bl.resolve_left h9) (Z.i : Int) with ⟨h3, _⟩ | ⟨_, h3, _⟩
        · exact absurd h0 h3
        · exact absurd hk h3
    unfold tZ nextT; rw [if_pos hr]; exact ⟨Nat.zero_le _, Nat.zero_le _⟩
theorem push_yes {l0 : List Tok} {z y : Tok} {ws : List (Nat × Bool)} (h1 : y.kind = 1) (h2 : z.kind = 2) (h3 : Lib.hasPrefix z.text [60, 60] = true) : pushW (l0 ++ [z]) ws y = ws ++ [((l0 ++ [z]).length, decide (z.text = [60, 60, 45]))] := by
  simp [pushW, hereV, h1, h2, h3]
theorem push_no {l0 : List Tok} {z y : Tok} {ws : List (Nat × Bool)} (h : ¬ (y.kind = 1 ∧ z.kind = 2 ∧ Lib.hasPrefix z.text [60, 60] = true)) : pushW (l0 ++ [z]) ws y = ws := by
  simp [pushW, hereV, h]
theorem own_disj {w : World} {D D' : Nat → Prop} {A B : Option Addr} {cap capw : Nat} {O : List Tok} {U : List (Nat × Bool)} (ho : Own tok5E 51 w D A cap O) (hw : Own wtE 75 w D' B capw U) : ∀ k, k ∈ ob A → k ∉ ob B := by
  intro k hk
  cases A with
  | none => cases hk
  | some a =>
    obtain ⟨g, rest, rfl, hb, _⟩ := Own.raw (h := ho)
    simp only [ob, List.mem_singleton] at hk; subst hk
    exact hw.ne_blk hb (by decide)
theorem push_le {out : List Tok} {ws : List (Nat × Bool)} {y : Tok} : (pushW out ws y).length ≤ ws.length + 1 := by unfold pushW; split <;> simp
theorem it_len (s : Bytes) : ∀ (n : Nat), (itZ s n ⟨blankV s, [], []⟩).out.length = n ∧ (itZ s n ⟨blankV s, [], []⟩).ws.length ≤ n
  | 0 => ⟨rfl, Nat.le_refl _⟩
  | n + 1 => by
    have h := it_len s n
    have hp := push_le (out := (itZ s n ⟨blankV s, [], []⟩).out) (ws := (itZ s n ⟨blankV s, [], []⟩).ws) (y := (tZ s (itZ s n ⟨blankV s, [], []⟩)).1)
    rw [itZ_succ]
    generalize itZ s n ⟨blankV s, [], []⟩ = Z at h hp ⊢
    unfold nxZ
    split
    · exact ⟨by show (linesV _ _ _).1.length = _; rw [linesV_len]; unfold nxO; simp [h.1], Nat.zero_le _⟩
    · exact ⟨by show (nxO s Z).length = _; unfold nxO; simp [h.1], by show (nxW s Z).length ≤ _; unfold nxW; omega⟩
theorem yld_len (s : Bytes) : ∀ (k : Nat) (Z : Zst), (yldF s k Z).length ≤ k
  | 0, _ => Nat.le_refl _
  | k + 1, Z => by rw [yldF]; have := yld_len s k (nxZ s Z); split <;> simp; exact this
def TokensT (w w' : World) (r : List Tok × Int × Int) (v : Value) : Prop := ∃ A cap, v = .tuple ⟨[.slice A r.1.length cap, .int .i64 r.2.1, .int .i64 r.2.2]⟩ ∧ r.1.length ≤ cap ∧ Sl tok5E w' (fun k => w.heap.size ≤ k) A r.1 ∧ Chg [] w w'

set_option maxHeartbeats 1600000 in
theorem Tokens_spec (s : Bytes) (w : World) (hs : s.length < 4294967281) (hmx : MaxT w) (ht : Tab w) : CallR Tryz.prog 12 #[S s] w fun v w' => TokensT w w' (tokensV s) v := by
 refine callR_of_wpM (args := [_]) Tryz.func12 rfl (Nat.le_of_ble_eq_true rfl) ?_
 have HC : Chg [] w w := .refl _
 have hM : Marks w.heap.size [] w := trivial
 have ht1 := ht.lt
 have hm1 := hmx.lt
 refine sr rfl <| aL rfl <| aI rfl <| aI rfl <| en <| x_scope <| x_seq <| sr rfl <| mS rfl <| Wp rfl <| st_slen (ct := #[9]) T.u9 rfl <| Wp rfl <| st_gtr rfl rfl <| en <| x_cond rfl (fun h0 => ?_) (fun h0 => ?_)
 ·try simp only [nm, ne_eq] at h0
  refine sr rfl <| aL rfl <| aI rfl <| aI rfl <| en <| x_ret <| then_r <| scope_r <| retM_marks hM ?_
  intro w99 c99
  have hlm := hM.lt
  replace HC := HC.trans c99 (fun k hk => .inr (by have := (hlm k hk).1; omega))
  refine ret_tmp3 (v := .slice _ _ _) (v2 := .int _ _) (v3 := .int _ _) rfl rfl rfl rfl ?_
  rw [show tokensV s = ([], 0, 108) by unfold tokensV; rw [if_pos (by omega)]]
  exact ⟨none, 0, rfl, Nat.le_refl _, .nil, HC⟩
 ·try simp only [nm, ne_eq] at h0
  have hs2 : s.length ≤ 16384 := by omega
  obtain ⟨xs, hX⟩ : ∃ xs, yldF s (s.length + 1) ⟨blankV s, [], []⟩ = xs := ⟨_, rfl⟩
  have hyz := yld_at s (s.length + 1) ⟨blankV s, [], []⟩ (inv_first s) (by show s.length - blankV s < _; omega)
  have hyl := yld_len s (s.length + 1) ⟨blankV s, [], []⟩
  rw [hX] at hyz hyl
  obtain ⟨hxp, hyat⟩ := hyz
  refine x_skip <| then_n <| sr rfl <| mS rfl <| Wp rfl <| st_bld (ps := [(0, .tmp 14)]) (vs := [S _, .slice _ _ _, .slice _ _ _]) T.bld69 rfl <| Wp rfl <| st_box (v := .agg ⟨[S _, .slice _ _ _, .slice _ _ _]⟩) (vs := [_, _, _]) rfl rfl ?_
  intro b w1 e2 c3 hb4
  have ge_b := gB e2 HC.size
  have nm_b : b ∉ mb [] := fun hx => by have := (hM.lt _ hx).2; omega
  replace HC := HC.then c3
  replace hmx := hmx.tr0 c3
  replace ht := ht.tr0 c3
  replace hM := hM.tr c3 (by simp)
  clear e2
  refine Wp rfl <| st_alloc T.zero66 ?_
  intro b5 w5 e6 c7 hb8
  have ge_b5 := gB e6 HC.size
  have ne_b_b5 := nF e6 hb4.ne_size
  have nm_b5 : b5 ∉ mb [] := fun hx => by have := (hM.lt _ hx).2; omega
  replace HC := HC.then c7
  replace hmx := hmx.tr0 c7
  replace ht := ht.tr0 c7
  replace hM := hM.tr c7 (by simp)
  replace hb4 := hb4.tr0 c7
  clear e6
  refine Wp rfl <| st_st (v := .pointer _) T.size66 rfl rfl rfl hb8 ?_
  intro w9 c10 hb11; simp only [setVs, setV] at hb11
  clear hb8
  replace HC := HC.then1 c10 ge_b5
  replace hmx := hmx.tr c10 q1
  replace ht := ht.tr c10 q1
  replace hM := hM.tr c10 (by intro k hk hx; have hlo := (hM.lt k hk).1; simp only [List.mem_singleton] at hx; subst hx; first | exact nm_b5 hk | omega | (cases hk; done))
  replace hb4 := hb4.tr1 c10 ne_b_b5
  refine en <| sr rfl <| Wp rfl <| st_alloc T.zero3 ?_
  intro b6 w12 e13 c14 hb15
  have ge_b6 := gB e13 HC.size
  have ne_b_b6 := nF e13 hb4.ne_size
  have ne_b5_b6 := nF e13 hb11.ne_size
  have nm_b6 : b6 ∉ mb [] := fun hx => by have := (hM.lt _ hx).2; omega
  replace HC := HC.then c14
  replace hmx := hmx.tr0 c14
  replace ht := ht.tr0 c14
  replace hM := hM.tr c14 (by simp)
  replace hb4 := hb4.tr0 c14
  replace hb11 := hb11.tr0 c14
  clear e13
  refine Wp rfl <| st_alloc T.zero31 ?_
  intro b7 w16 e17 c18 hb19
  have ge_b7 := gB e17 HC.size
  have ne_b_b7 := nF e17 hb4.ne_size
  have ne_b5_b7 := nF e17 hb11.ne_size
  have ne_b6_b7 := nF e17 hb15.ne_size
  have nm_b7 : b7 ∉ mb [] := fun hx => by have := (hM.lt _ hx).2; omega
  replace HC := HC.then c18
  replace hmx := hmx.tr0 c18
  replace ht := ht.tr0 c18
  replace hM := hM.tr c18 (by simp)
  replace hb4 := hb4.tr0 c18
  replace hb11 := hb11.tr0 c18
  replace hb15 := hb15.tr0 c18
  clear e17
  refine Wp rfl <| st_st (v := .int _ _) T.size3 rfl rfl rfl hb15 ?_
  intro w20 c21 hb22; simp only [setVs, setV] at hb22
  clear hb15
  replace HC := HC.then1 c21 ge_b6
  replace hmx := hmx.tr c21 q1
  replace ht := ht.tr c21 q1
  replace hM := hM.tr c21 (by intro k hk hx; have hlo := (hM.lt k hk).1; simp only [List.mem_singleton] at hx; subst hx; first | exact nm_b6 hk | omega | (cases hk; done))
  replace hb4 := hb4.tr1 c21 ne_b_b6
  replace hb11 := hb11.tr1 c21 ne_b5_b6
  replace hb19 := hb19.tr1 c21 (Ne.symm ne_b6_b7)
  refine Wp rfl <| st_st (v := .int _ _) T.size31 rfl rfl rfl hb19 ?_
  intro w23 c24 hb25; simp only [setVs, setV] at hb25
  clear hb19
  replace HC := HC.then1 c24 ge_b7
  replace hmx := hmx.tr c24 q1
  replace ht := ht.tr c24 q1
  replace hM := hM.tr c24 (by intro k hk hx; have hlo := (hM.lt k hk).1; simp only [List.mem_singleton] at hx; subst hx; first | exact nm_b7 hk | omega | (cases hk; done))
  replace hb4 := hb4.tr1 c24 ne_b_b7
  replace hb11 := hb11.tr1 c24 ne_b5_b7
  replace hb22 := hb22.tr1 c24 ne_b6_b7
  refine en <| x_seq <| x_label <| then_n <| x_seq <| sr rfl <| Wp rfl <| st_load1 (v := .pointer _) T.one66 rfl (hb11.cell rfl) <| Wp rfl <| st_call (ags := [_]) rfl rfl T.ent26 rfl (ltokens_spec) ?_
  rintro _ w26 ⟨bx, rfl, hgx, hbx, c27⟩
  have ge_bx : w.heap.size ≤ bx := Nat.le_trans HC.size hgx
  have ne_b_bx : b ≠ bx := Nat.ne_of_lt (Nat.lt_of_lt_of_le hb4.lt hgx)
  have ne_b5_bx : b5 ≠ bx := Nat.ne_of_lt (Nat.lt_of_lt_of_le hb11.lt hgx)
  have ne_b6_bx : b6 ≠ bx := Nat.ne_of_lt (Nat.lt_of_lt_of_le hb22.lt hgx)
  have ne_b7_bx : b7 ≠ bx := Nat.ne_of_lt (Nat.lt_of_lt_of_le hb25.lt hgx)
  have nm_bx : bx ∉ mb [] := fun hx => by have := (hM.lt _ hx).2; omega
  replace HC := HC.then c27
  replace hmx := hmx.tr0 c27
  replace ht := ht.tr0 c27
  replace hM := hM.tr c27 (by simp)
  replace hb4 := hb4.tr0 c27
  replace hb11 := hb11.tr0 c27
  replace hb22 := hb22.tr0 c27
  replace hb25 := hb25.tr0 c27
  refine en <| x_block <| x_rangeH (bs := []) (K := (fun k => k = bx)) (ps := [19, 20]) (encs := yE) (xs := xs) rfl T.ent33 rfl (fun _ => rfl) (by simp) (by intro k hk; rw [show k = bx from hk]; first | exact hbx.lt) (ltokens_iter (s := s) (b := b) (bx := bx) (D := (fun k => w.heap.size ≤ k ∧ k ≠ b ∧ k ≠ bx)) (K := fun k => k = bx) (xs := xs) (fun k h => ⟨h.2.1, h.2.2, by omega, by omega⟩) (Ne.symm ne_b_bx) (by omega) (by omega) hs2 hX) ?_
  intro DD lp w28 hD1 hD2 hD3 hD4 hD5 c29
  have hszlp := HC.size
  have ge_DD : w.heap.size ≤ DD := by omega
  have ne_b_DD : b ≠ DD := by have := hb4.lt; omega
  have ne_b5_DD : b5 ≠ DD := by have := hb11.lt; omega
  have ne_b6_DD : b6 ≠ DD := by have := hb22.lt; omega
  have ne_b7_DD : b7 ≠ DD := by have := hb25.lt; omega
  have ne_bx_DD : bx ≠ DD := by have := hbx.lt; omega
  have nm_DD : DD ∉ mb [] := fun hx => by have := (hM.lt _ hx).2; omega
  have ge_lp : w.heap.size ≤ lp := by omega
  have ne_b_lp : b ≠ lp := by have := hb4.lt; omega
  have ne_b5_lp : b5 ≠ lp := by have := hb11.lt; omega
  have ne_b6_lp : b6 ≠ lp := by have := hb22.lt; omega
  have ne_b7_lp : b7 ≠ lp := by have := hb25.lt; omega
  have ne_bx_lp : bx ≠ lp := by have := hbx.lt; omega
  have nm_lp : lp ∉ mb [] := fun hx => by have := (hM.lt _ hx).2; omega
  replace HC := HC.then c29
  replace hmx := hmx.tr0 c29
  replace ht := ht.tr0 c29
  replace hM := hM.tr c29 (by simp)
  replace hb4 := hb4.tr0 c29
  replace hb11 := hb11.tr0 c29
  replace hb22 := hb22.tr0 c29
  replace hb25 := hb25.tr0 c29
  replace hbx := hbx.tr0 c29
  refine ⟨fun pre W => ∃ (A : Option Addr), ∃ (cap : Nat), ∃ (Aw : Option Addr), ∃ (capw : Nat), (∀ u, u ∈ pre → u.2 = 0) ∧ (Chg [] w W) ∧ (MaxT W) ∧ (Tab W) ∧ (Marks w.heap.size [] W) ∧ (Blk W b5 [.pointer (some ⟨b, 0, none⟩)] 66) ∧ (Blk W bx [.pointer (some ⟨b, 0, none⟩)] 66) ∧ (DD < W.heap.size) ∧ (lp < W.heap.size) ∧ (Blk W b [S s, .slice A (mO s pre.length).length cap, .slice Aw (mW s pre.length).length capw] 69) ∧ (Own tok5E 51 W (fun k => w.heap.size ≤ k ∧ k ≠ b ∧ k ≠ bx ∧ k ≠ b5 ∧ k ≠ b6 ∧ k ≠ b7 ∧ k ≠ lp ∧ k ≠ DD) A cap (mO s pre.length)) ∧ (Own wtE 75 W (fun k => w.heap.size ≤ k ∧ k ≠ b ∧ k ≠ bx ∧ k ≠ b5 ∧ k ≠ b6 ∧ k ≠ b7 ∧ k ≠ lp ∧ k ≠ DD) Aw capw (mW s pre.length)) ∧ (Blk W b6 [.int .i64 0] 3) ∧ (Blk W b7 [.int .i64 0] 31), fun c pre W => (c = Code.exit 0 ∧ ∃ (zz : Tok × Int), (tokensV s = ([], zz.1.at_, zz.2) ∧ zz.2 ≠ 0) ∧ (Chg [] w W) ∧ (MaxT W) ∧ (Tab W) ∧ (Marks w.heap.size [] W) ∧ (Blk W b5 [.pointer (some ⟨b, 0, none⟩)] 66) ∧ (Blk W bx [.pointer (some ⟨b, 0, none⟩)] 66) ∧ (DD < W.heap.size) ∧ (lp < W.heap.size) ∧ (Blk W b6 [.int .i64 zz.1.at_] 3) ∧ (Blk W b7 [.int .i64 zz.2] 31)), ⟨none, 0, none, 0, (fun _ h => by cases h), HC, hmx, ht, hM, hb11, hbx, hD4, hD5, hb4, Own.nil, Own.nil, hb22, hb25⟩, ?_, ?_, ?_, ?_, ?_, ?_, ?_⟩
  ·rintro pre Wa ⟨A, cap, Aw, capw, hz, HC, hmx, ht, hM, hb11, hbx, hD4, hD5, hb, ho, hw, hb6, hb7⟩
   have hoD := ho.flat (D' := (fun k => w.heap.size ≤ k ∧ k ≠ b ∧ k ≠ bx)) flat_flat (fun k hk h => ⟨h.1, h.2.1, h.2.2.1⟩)
   have hwD := hw.flat (D' := (fun k => w.heap.size ≤ k ∧ k ≠ b ∧ k ≠ bx)) flat_flat (fun k hk h => ⟨h.1, h.2.1, h.2.2.1⟩)
   exact ⟨⟨hbx, hmx, ht⟩, A, cap, Aw, capw, hb, hoD, hwD⟩
  ·rintro pre y Wa Wb ⟨A, cap, Aw, capw, hz, HC, hmx, ht, hM, hb11, hbx, hD4, hD5, hb, ho, hw, hb6, hb7⟩ hpop
   have hoD := ho.flat (D' := (fun k => w.heap.size ≤ k ∧ k ≠ b ∧ k ≠ bx)) flat_flat (fun k hk h => ⟨h.1, h.2.1, h.2.2.1⟩)
   have hwD := hw.flat (D' := (fun k => w.heap.size ≤ k ∧ k ≠ b ∧ k ≠ bx)) flat_flat (fun k hk h => ⟨h.1, h.2.1, h.2.2.1⟩)
   obtain ⟨Aw2, capw2, hsub, hm, cA⟩ := hpop A cap Aw capw ⟨hb, hoD, hwD⟩
   refine ⟨cA.size, fun k hk hl => cA.block k hl fun hx => ?_⟩
   rcases List.mem_cons.1 hx with h | h
   · rcases hk with h8 | h8; exact ne_b_lp (h.symm.trans h8); exact ne_b_DD (h.symm.trans h8)
   · have h9 := ho.inD _ h; rcases hk with h8 | h8; exact h9.2.2.2.2.2.2.1 h8; exact h9.2.2.2.2.2.2.2 h8
  ·rintro pre Wa Wb ⟨A, cap, Aw, capw, hU, HC, hmx, ht, hM, hb11, hbx, hD4, hD5, hb, ho, hw, hb6, hb7⟩ cL
   replace HC := HC.then1 cL ge_lp
   replace hmx := hmx.tr cL q1
   replace ht := ht.tr cL q1
   replace hM := hM.tr cL (by intro k hk hx; have hlo := (hM.lt k hk).1; simp only [List.mem_singleton] at hx; subst hx; first | exact nm_lp hk | omega | (cases hk; done))
   replace hb11 := hb11.tr1 cL ne_b5_lp
   replace hbx := hbx.tr1 cL ne_bx_lp
   replace hD4 := Nat.lt_of_lt_of_le hD4 cL.size
   replace hD5 := Nat.lt_of_lt_of_le hD5 cL.size
   replace hb := hb.tr1 cL ne_b_lp
   replace ho := ho.trF flat_flat cL (by intro k hk hx; simp only [List.mem_cons, List.mem_nil_iff, or_false] at hx; obtain rfl := hx; first | exact na_olp hk | exact absurd (ho.inD _ hk) (by simp))
   replace hw := hw.trF flat_flat cL (by intro k hk hx; simp only [List.mem_cons, List.mem_nil_iff, or_false] at hx; obtain rfl := hx; first | exact na_wlp hk | exact absurd (hw.inD _ hk) (by simp))
   replace hb6 := hb6.tr1 cL ne_b6_lp
   replace hb7 := hb7.tr1 cL ne_b7_lp
   exact ⟨A, cap, Aw, capw, hU, HC, hmx, ht, hM, hb11, hbx, hD4, hD5, hb, ho, hw, hb6, hb7⟩
  ·intro c pre Wa Wb hX cL
   obtain ⟨rfl, ⟨zz, hU, HC, hmx, ht, hM, hb11, hbx, hD4, hD5, hq6, hq7⟩⟩ := hX
   replace HC := HC.then1 cL ge_lp
   replace hmx := hmx.tr cL q1
   replace ht := ht.tr cL q1
   replace hM := hM.tr cL (by intro k hk hx; have hlo := (hM.lt k hk).1; simp only [List.mem_singleton] at hx; subst hx; first | exact nm_lp hk | omega | (cases hk; done))
   replace hb11 := hb11.tr1 cL ne_b5_lp
   replace hbx := hbx.tr1 cL ne_bx_lp
   replace hD4 := Nat.lt_of_lt_of_le hD4 cL.size
   replace hD5 := Nat.lt_of_lt_of_le hD5 cL.size
   replace hq6 := hq6.tr1 cL ne_b6_lp
   replace hq7 := hq7.tr1 cL ne_b7_lp
   exact ⟨rfl, ⟨zz, hU, HC, hmx, ht, hM, hb11, hbx, hD4, hD5, hq6, hq7⟩⟩
  ·rintro pre y rest A0 Wa hxs ⟨A, cap, Aw, capw, hz, HC, hmx, ht, hM, hb11, hbx, hD4, hD5, hb, ho, hw, hb6, hb7⟩ hpop ⟨rec, hrec⟩
   have lt0_b5 := hb11.lt
   have lt0_bx := hbx.lt
   have lt0_b := hb.lt
   have lo0_ho := ho.lt
   have li0_ho := ho.inD
   have lo0_hw := hw.lt
   have li0_hw := hw.inD
   have lt0_b6 := hb6.lt
   have lt0_b7 := hb7.lt
   have hoD := ho.flat (D' := (fun k => w.heap.size ≤ k ∧ k ≠ b ∧ k ≠ bx)) flat_flat (fun k hk h => ⟨h.1, h.2.1, h.2.2.1⟩)
   have hwD := hw.flat (D' := (fun k => w.heap.size ≤ k ∧ k ≠ b ∧ k ≠ bx)) flat_flat (fun k hk h => ⟨h.1, h.2.1, h.2.2.1⟩)
   obtain ⟨Aw2, capw2, hsub, ⟨hbP, hoP, hwP⟩, cA⟩ := hpop A cap Aw capw ⟨hb, hoD, hwD⟩
   have hiD := ho.inD
   have hiW := hw.inD
   have hoQ := hoP.flat (D' := (fun k => w.heap.size ≤ k ∧ k ≠ b ∧ k ≠ bx ∧ k ≠ b5 ∧ k ≠ b6 ∧ k ≠ b7 ∧ k ≠ lp ∧ k ≠ DD)) flat_flat (fun k hk h => hiD k hk)
   have hwQ := hwP.flat (D' := (fun k => w.heap.size ≤ k ∧ k ≠ b ∧ k ≠ bx ∧ k ≠ b5 ∧ k ≠ b6 ∧ k ≠ b7 ∧ k ≠ lp ∧ k ≠ DD)) flat_flat (fun k hk h => hiW k (hsub k hk))
   replace HC := HC.trans cA (fun k hk => .inr ((List.mem_cons.1 hk).elim (fun h => by rw [h]; exact ge_b) (fun h => (hiD _ h).1)))
   replace hmx := hmx.tr cA (fun hx => (List.mem_cons.1 hx).elim (fun h => by omega) (fun h => by have := (hiD _ h).1; omega))
   replace ht := ht.tr cA (fun hx => (List.mem_cons.1 hx).elim (fun h => by omega) (fun h => by have := (hiD _ h).1; omega))
   replace hM := hM.tr cA (fun k hk => by cases hk)
   replace hb11 := hb11.tr cA (fun hx => (List.mem_cons.1 hx).elim (fun h => absurd h (Ne.symm ne_b_b5)) (fun h => (hiD _ h).2.2.2.1 rfl))
   replace hbx := hbx.tr cA (fun hx => (List.mem_cons.1 hx).elim (fun h => absurd h (Ne.symm ne_b_bx)) (fun h => (hiD _ h).2.2.1 rfl))
   replace hD4 := Nat.lt_of_lt_of_le hD4 cA.size
   replace hD5 := Nat.lt_of_lt_of_le hD5 cA.size
   replace hb6 := hb6.tr cA (fun hx => (List.mem_cons.1 hx).elim (fun h => absurd h (Ne.symm ne_b_b6)) (fun h => (hiD _ h).2.2.2.2.1 rfl))
   replace hb7 := hb7.tr cA (fun hx => (List.mem_cons.1 hx).elim (fun h => absurd h (Ne.symm ne_b_b7)) (fun h => (hiD _ h).2.2.2.2.2.1 rfl))
   obtain rfl : y = yZ s (itZ s pre.length ⟨blankV s, [], []⟩) := by have h8 : xs[pre.length]? = some y := (by rw [hxs]; simp); rw [(hyat pre.length (by have := congrArg List.length hxs; simp only [List.length_append, List.length_cons] at this; omega)).1] at h8; exact (Option.some.inj h8).symm
   obtain ⟨Z, hZ⟩ : ∃ Z, Z = (itZ s pre.length ⟨blankV s, [], []⟩) := ⟨_, rfl⟩
   have hnx := hyat pre.length (by have := congrArg List.length hxs; simp only [List.length_append, List.length_cons] at this; omega)
   rw [← hZ] at hbP hoQ hwQ hnx hxs ⊢
   obtain ⟨hxn, hinv, hend⟩ := hnx
   have hln := it_len s pre.length
   rw [← hZ] at hln
   have hpl := congrArg List.length hxs
   simp only [List.length_append, List.length_cons] at hpl
   have hdj := own_disj hoQ hwQ
   have nAo_b : b ∉ ob A := fun h => (hiD _ h).2.1 rfl
   replace lo0_hw := fun k hk => lo0_hw k (hsub k hk)
   have hlpW := hD5
   have HK : Kept (fun k => k = lp ∨ k = DD ∨ NK (fun k => k = bx) A0 k) Wa Wa := .refl'
   refine sr rfl <| Wp rfl <| st_alloc T.zero51 ?_
   intro b8 w30 e31 c32 hb33
   have ge_b8 := gB e31 HC.size
   have geK_b8 : Wa.heap.size ≤ b8 := by rw [e31]; exact HK.1
   have ne_b5_b8 := nF e31 hb11.ne_size
   have ne_bx_b8 := nF e31 hbx.ne_size
   have ne_b6_b8 := nF e31 hb6.ne_size
   have ne_b7_b8 := nF e31 hb7.ne_size
   have ne_b_b8 := nF e31 hbP.ne_size
   have nm_b8 : b8 ∉ mb [] := fun hx => by have := (hM.lt _ hx).2; omega
   have na_ob8 : b8 ∉ ob A := hoQ.fresh (by rw [e31]; exact Nat.le_refl _)
   have na_wb8 : b8 ∉ ob Aw2 := hwQ.fresh (by rw [e31]; exact Nat.le_refl _)
   replace HC := HC.then c32
   replace hmx := hmx.tr0 c32
   replace ht := ht.tr0 c32
   replace hM := hM.tr c32 (by simp)
   replace hb11 := hb11.tr0 c32
   replace hbx := hbx.tr0 c32
   replace hD4 := Nat.lt_of_lt_of_le hD4 c32.size
   replace hD5 := Nat.lt_of_lt_of_le hD5 c32.size
   replace hb6 := hb6.tr0 c32
   replace hb7 := hb7.tr0 c32
   replace hbP := hbP.tr0 c32
   replace hoQ := hoQ.tr0 c32
   replace hwQ := hwQ.tr0 c32
   replace HK := HK.chg c32 (fun k hx => absurd hx (by simp))
   clear e31
   refine Wp rfl <| st_st (v := .agg ⟨[_, _, _, _, _]⟩) T.size51 rfl rfl rfl hb33 ?_
   intro w34 c35 hb36; simp only [setVs, setV] at hb36
   clear hb33
   replace HC := HC.then1 c35 ge_b8
   replace hmx := hmx.tr c35 q1
   replace ht := ht.tr c35 q1
   replace hM := hM.tr c35 (by intro k hk hx; have hlo := (hM.lt k hk).1; simp only [List.mem_singleton] at hx; subst hx; first | exact nm_b8 hk | omega | (cases hk; done))
   replace hb11 := hb11.tr1 c35 ne_b5_b8
   replace hbx := hbx.tr1 c35 ne_bx_b8
   replace hD4 := Nat.lt_of_lt_of_le hD4 c35.size
   replace hD5 := Nat.lt_of_lt_of_le hD5 c35.size
   replace hb6 := hb6.tr1 c35 ne_b6_b8
   replace hb7 := hb7.tr1 c35 ne_b7_b8
   replace hbP := hbP.tr1 c35 ne_b_b8
   replace hoQ := hoQ.trF flat_flat c35 (by intro k hk hx; simp only [List.mem_cons, List.mem_nil_iff, or_false] at hx; obtain rfl := hx; first | exact na_ob8 hk | exact absurd (hoQ.inD _ hk) (by simp))
   replace hwQ := hwQ.trF flat_flat c35 (by intro k hk hx; simp only [List.mem_cons, List.mem_nil_iff, or_false] at hx; obtain rfl := hx; first | exact na_wb8 hk | exact absurd (hwQ.inD _ hk) (by simp))
   replace HK := HK.chg c35 (by intro k hx hK; rw [List.mem_singleton.1 hx]; exact geK_b8)
   refine en <| x_region rfl <| aI rfl <| en <| ⟨HK, ?_⟩
   intro ds1 Wc cL hrec2
   replace HC := HC.then1 cL ge_lp
   replace hmx := hmx.tr cL q1
   replace ht := ht.tr cL q1
   replace hM := hM.tr cL (by intro k hk hx; have hlo := (hM.lt k hk).1; simp only [List.mem_singleton] at hx; subst hx; first | exact nm_lp hk | omega | (cases hk; done))
   replace hb11 := hb11.tr1 cL ne_b5_lp
   replace hbx := hbx.tr1 cL ne_bx_lp
   replace hD4 := Nat.lt_of_lt_of_le hD4 cL.size
   replace hD5 := Nat.lt_of_lt_of_le hD5 cL.size
   replace hb6 := hb6.tr1 cL ne_b6_lp
   replace hb7 := hb7.tr1 cL ne_b7_lp
   replace hbP := hbP.tr1 cL ne_b_lp
   replace hoQ := hoQ.trF flat_flat cL (by intro k hk hx; simp only [List.mem_cons, List.mem_nil_iff, or_false] at hx; obtain rfl := hx; first | exact na_olp hk | exact absurd (hoQ.inD _ hk) (by simp))
   replace hwQ := hwQ.trF flat_flat cL (by intro k hk hx; simp only [List.mem_cons, List.mem_nil_iff, or_false] at hx; obtain rfl := hx; first | exact na_wlp hk | exact absurd (hwQ.inD _ hk) (by simp))
   replace hb36 := hb36.tr1 cL (by omega)
   have HK : Kept (fun k => k = lp ∨ k = DD ∨ NK (fun k => k = bx) A0 k) Wc Wc := .refl'
   refine x_block <| x_seq <| sr rfl <| mI rfl <| Wp rfl <| st_neq rfl rfl <| en <| x_cond rfl (fun h1 => ?_) (fun h1 => ?_)
   ·try simp only [nm, ne_eq] at h1
    have he1 : (yZ s Z).2 ≠ 0 := by first | assumption | simpa using h1
    refine sr rfl <| fa T.fld51_2 rfl <| lI T.one3 rfl (hb36.cell rfl) <| mI rfl <| Wp rfl <| st_st (v := .int _ _) T.size3 rfl rfl rfl hb6 ?_
    intro w37 c38 hb39; simp only [setVs, setV] at hb39
    clear hb6
    replace HC := HC.then1 c38 ge_b6
    replace hmx := hmx.tr c38 q1
    replace ht := ht.tr c38 q1
    replace hM := hM.tr c38 (by intro k hk hx; have hlo := (hM.lt k hk).1; simp only [List.mem_singleton] at hx; subst hx; first | exact nm_b6 hk | omega | (cases hk; done))
    replace hb11 := hb11.tr1 c38 ne_b5_b6
    replace hbx := hbx.tr1 c38 (Ne.symm ne_b6_bx)
    replace hD4 := Nat.lt_of_lt_of_le hD4 c38.size
    replace hD5 := Nat.lt_of_lt_of_le hD5 c38.size
    replace hb7 := hb7.tr1 c38 (Ne.symm ne_b6_b7)
    replace HK := HK.chg c38 (by
     intro k hx hK
     obtain rfl := List.mem_singleton.1 hx
     rcases hK with h | h | (h) | h
     · exact absurd h ne_b6_lp
     · exact absurd h ne_b6_DD
     · exact absurd h ne_b6_bx
     · exact absurd h (Nat.not_le.2 lt0_b6))
    refine Wp rfl <| st_st (v := .int _ _) T.size31 rfl rfl rfl hb7 ?_
    intro w40 c41 hb42; simp only [setVs, setV] at hb42
    clear hb7
    replace HC := HC.then1 c41 ge_b7
    replace hmx := hmx.tr c41 q1
    replace ht := ht.tr c41 q1
    replace hM := hM.tr c41 (by intro k hk hx; have hlo := (hM.lt k hk).1; simp only [List.mem_singleton] at hx; subst hx; first | exact nm_b7 hk | omega | (cases hk; done))
    replace hb11 := hb11.tr1 c41 ne_b5_b7
    replace hbx := hbx.tr1 c41 (Ne.symm ne_b7_bx)
    replace hD4 := Nat.lt_of_lt_of_le hD4 c41.size
    replace hD5 := Nat.lt_of_lt_of_le hD5 c41.size
    replace HK := HK.chg c41 (by
     intro k hx hK
     obtain rfl := List.mem_singleton.1 hx
     rcases hK with h | h | (h) | h
     · exact absurd h ne_b7_lp
     · exact absurd h ne_b7_DD
     · exact absurd h ne_b7_bx
     · exact absurd h (Nat.not_le.2 lt0_b7))
    replace hb39 := hb39.tr1 c41 ne_b6_b7
    refine en <| x_exit <| then_x <| block_o rfl <| ⟨HK, ?_⟩
    exact ⟨rfl, ⟨(yZ s Z), (⟨by rw [tokensV_end hs2 (n := pre.length) (by rw [hX]; exact hend.1 (endZ_iff.2 (.inl he1))), ← hZ]; exact if_pos he1, he1⟩), HC, hmx, ht, hM, hb11, hbx, hD4, hD5, hb39, hb42⟩⟩
   ·try simp only [nm, ne_eq] at h1
    have he0 : (yZ s Z).2 = 0 := by first | assumption | simpa using h1
    refine x_skip <| then_n <| x_seq <| sr rfl <| Wp rfl <| st_load1 (v := .pointer _) T.one66 rfl (hb11.cell rfl) <| nc rfl <| fa T.fld69_1 rfl <| lL T.one41 rfl (hbP.cell rfl) <| Wp rfl <| st_len (ct := #[41]) (by rw [show ((#[41] : Array TypeId)[0]?).bind Tryz.prog.underlying = some (.slice 51) from T.u41]; rfl) rfl <| aI rfl <| en <| x_seq ?_
    rcases List.eq_nil_or_concat Z.out with hlz | ⟨l0, z, hlz⟩
    ·have hpush : pushW Z.out Z.ws (yZ s Z).1 = Z.ws := by rw [hlz]; rfl
     refine x_region rfl <| fa T.fld51_0 rfl <| lI T.one3 rfl (hb36.cell rfl) <| Wp rfl <| st_eql rfl rfl <| mB rfl <| w_split (d := 34) rfl (fun g43 => ?_) (fun g43 => ?_)
     ·try simp only [nm, ne_eq] at g43
      refine w_yes 3 34 true <| st_move (v := .int _ _) rfl <| w_yes 3 34 true <| st_gtr rfl rfl <| pT rfl rfl <| mB rfl <| w_split (d := 38) rfl (fun g44 => ?_) (fun g44 => ?_)
      ·try simp only [nm, ne_eq] at g44
       exfalso; rw [hlz] at *; simp_all
      ·try simp only [nm, ne_eq] at g44
       iterate 10 refine w_no 7 38 true ?_
       refine pF rfl rfl <| mB rfl ?_
       iterate 10 refine w_no 19 50 true ?_
       refine pF rfl rfl <| en <| x_cond (t := false) rfl (fun h2 => ?_) (fun h2 => ?_)
       · exact absurd h2 (by decide)
       refine x_skip <| then_n <| x_draw [(0, 0), (1, 0), (2, 0), (3, 0), (4, 0), (5, 0), (6, 1), (7, 1), (8, 0), (9, 0), (10, 2)] T.mixed rfl rfl rfl (fun W => W.heap[b5]? = Wc.heap[b5]? ∧ W.heap[bx]? = Wc.heap[bx]? ∧ W.heap[b6]? = Wc.heap[b6]? ∧ W.heap[b7]? = Wc.heap[b7]? ∧ W.heap[b]? = Wc.heap[b]? ∧ W.heap[b8]? = Wc.heap[b8]? ∧ True) ⟨rfl, rfl, rfl, rfl, rfl, rfl, trivial⟩ ?_
       have o47 := hb11
       have o48 := hbx
       have o49 := hb6
       have o50 := hb7
       have o51 := hbP
       have o52 := hb36
       have c46 := Chg.drew Wc
       generalize World.drew Wc = w45 at c46 ⊢
       replace HC := HC.then c46
       replace hmx := hmx.tr0 c46
       replace ht := ht.tr0 c46
       replace hM := hM.tr c46 (by simp)
       replace hb11 := hb11.tr0 c46
       replace hbx := hbx.tr0 c46
       replace hD4 := Nat.lt_of_lt_of_le hD4 c46.size
       replace hD5 := Nat.lt_of_lt_of_le hD5 c46.size
       replace hb6 := hb6.tr0 c46
       replace hb7 := hb7.tr0 c46
       replace hbP := hbP.tr0 c46
       replace hoQ := hoQ.tr0 c46
       replace hwQ := hwQ.tr0 c46
       replace hb36 := hb36.tr0 c46
       replace HK := HK.chg c46 (fun k hx => absurd hx (by simp))
       refine sq_q rfl (fun W hT => r_load1 (v := .pointer _) T.one66 rfl (Blk.cell (show Blk W b5 _ _ from hT.1.trans o47) rfl)) <| sq_q rfl (fun W hT => r_load1 (v := .pointer _) T.one66 rfl (Blk.cell (show Blk W b5 _ _ from hT.1.trans o47) rfl)) <| sq_q rfl (fun W hT => r_nilCheck rfl) <| sq_q rfl (fun W hT => r_fieldAddr T.fld69_1 rfl) <| sq_q rfl (fun W hT => r_load1 (v := .slice _ _ _) T.one41 rfl (Blk.cell (show Blk W b _ _ from hT.2.2.2.2.1.trans o51) rfl)) <| sq_q rfl (fun W hT => r_loadA (vs := [_, _, _, _, _]) T.agg51 rfl (Blk.cells (n := 5) (vs := [_, _, _, _, _]) (show Blk W b8 _ _ from hT.2.2.2.2.2.1.trans o52) rfl) rfl) <| sq_lit1 (ps := [(0, .tmp 88)]) (vs := [.int _ _, S _, .int _ _, S _, .bool _]) rfl T.lit41 (by decide) rfl q6 rfl ?_
       intro b53 w54 e55 c56 hb57
       have ge_b53 := gB e55 HC.size
       have geK_b53 : Wc.heap.size ≤ b53 := by rw [e55]; exact HK.1
       have ne_b5_b53 := nF e55 hb11.ne_size
       have ne_bx_b53 := nF e55 hbx.ne_size
       have ne_b6_b53 := nF e55 hb6.ne_size
       have ne_b7_b53 := nF e55 hb7.ne_size
       have ne_b_b53 := nF e55 hbP.ne_size
       have ne_b8_b53 := nF e55 hb36.ne_size
       have nm_b53 : b53 ∉ mb [] := fun hx => by have := (hM.lt _ hx).2; omega
       have na_ob53 : b53 ∉ ob A := hoQ.fresh (by rw [e55]; exact Nat.le_refl _)
       have na_wb53 : b53 ∉ ob Aw2 := hwQ.fresh (by rw [e55]; exact Nat.le_refl _)
       replace HC := HC.then c56
       replace hmx := hmx.tr0 c56
       replace ht := ht.tr0 c56
       replace hM := hM.tr c56 (by simp)
       replace hb11 := hb11.tr0 c56
       replace hbx := hbx.tr0 c56
       replace hD4 := Nat.lt_of_lt_of_le hD4 c56.size
       replace hD5 := Nat.lt_of_lt_of_le hD5 c56.size
       replace hb6 := hb6.tr0 c56
       replace hb7 := hb7.tr0 c56
       replace hbP := hbP.tr0 c56
       replace hoQ := hoQ.tr0 c56
       replace hwQ := hwQ.tr0 c56
       replace hb36 := hb36.tr0 c56
       replace HK := HK.chg c56 (fun k hx => absurd hx (by simp))
       clear e55
       refine ext_T (b := b53) ⟨(Eq.trans hb11 o47.symm), (Eq.trans hbx o48.symm), (Eq.trans hb6 o49.symm), (Eq.trans hb7 o50.symm), (Eq.trans hbP o51.symm), (Eq.trans hb36 o52.symm), trivial⟩ ?_
       have o58 := hb57
       have hszA := HC.size
       refine sq_append1 (c := tok5E) (D2 := fun _ => False) (xs := Z.out) (ys := [(yZ s Z).1]) rfl T.slice41 rfl rfl hoQ rfl rfl (one_elem rfl (hb57.cells (n := 5) rfl)) (fun _ _ h => h.elim) (fun k hk => (have h9 := HK.1; have hk9 := hk; ⟨by have := HC.size; omega, by have := hbP.lt; omega, by have := hbx.lt; omega, by have := hb11.lt; omega, by have := hb6.lt; omega, by have := hb7.lt; omega, by have := hD5; omega, by have := hD4; omega⟩)) q7 q7 ?_
       intro A59 cap60 w61 ho62 c63 hg64
       replace HC := HC.trans c63 (fun k hk => .inr ((hoQ.inD k hk).1))
       replace hmx := hmx.tr c63 (by intro hx; have h1 := (hoQ.inD _ hx).1; omega)
       replace ht := ht.tr c63 (fun hx => by first | (have h1 := (hoQ.inD _ hx).1; omega) | (have h1 : w.heap.size ≤ 0 := hoQ.inD _ hx; omega))
       replace hM := hM.tr c63 (fun k hk => by cases hk)
       replace hb11 := hb11.tr c63 (fun hx => by first | (have h1 := hoQ.inD _ hx; omega) | exact na_ob5 hx | exact hav _ hx (by simp))
       replace hbx := hbx.tr c63 (fun hx => by first | (have h1 := hoQ.inD _ hx; omega) | exact na_obx hx | exact hav _ hx (by simp))
       replace hD4 := Nat.lt_of_lt_of_le hD4 c63.size
       replace hD5 := Nat.lt_of_lt_of_le hD5 c63.size
       replace hb6 := hb6.tr c63 (fun hx => by first | (have h1 := hoQ.inD _ hx; omega) | exact na_ob6 hx | exact hav _ hx (by simp))
       replace hb7 := hb7.tr c63 (fun hx => by first | (have h1 := hoQ.inD _ hx; omega) | exact na_ob7 hx | exact hav _ hx (by simp))
       replace hbP := hbP.tr c63 (fun hx => by first | (have h1 := hoQ.inD _ hx; omega) | exact na_ob hx | exact hav _ hx (by simp))
       replace hwQ := hwQ.trF flat_flat c63 (fun k hk hx => own_disj hoQ hwQ k hx hk)
       replace hb36 := hb36.tr c63 (fun hx => by first | (have h1 := hoQ.inD _ hx; omega) | exact na_ob8 hx | exact hav _ hx (by simp))
       replace HK := HK.chg c63 (by intro k hk hK; have h1 := hoQ.inD k hk; have h2 := lo0_ho k hk; simp only [NK] at hK; omega)
       replace hb57 := hb57.tr c63 (fun hx => by first | (have h1 := hoQ.inD _ hx; omega) | exact na_ob53 hx | exact hav _ hx (by simp))
       refine ⟨_, fun _ h => h, ⟨(Eq.trans hb57 o58.symm), ⟨(Eq.trans hb11 o47.symm), (Eq.trans hbx o48.symm), (Eq.trans hb6 o49.symm), (Eq.trans hb7 o50.symm), (Eq.trans hbP o51.symm), (Eq.trans hb36 o52.symm), trivial⟩⟩, ?_⟩
       refine sq_q rfl (fun W hT => r_nilCheck rfl) <| sq_q rfl (fun W hT => r_fieldAddr T.fld69_1 rfl) <| sq_store2 rfl T.size41 (v := .slice _ _ _) rfl rfl rfl hbP rfl (Nat.le_of_ble_eq_true rfl) q5 rfl ?_
       intro w65 c66 hb67; simp only [setVs, setV] at hb67
       clear hbP
       replace HC := HC.then1 c66 ge_b
       replace hmx := hmx.tr c66 q1
       replace ht := ht.tr c66 q1
       replace hM := hM.tr c66 (by intro k hk hx; have hlo := (hM.lt k hk).1; simp only [List.mem_singleton] at hx; subst hx; first | exact nm_b hk | omega | (cases hk; done))
       replace hb11 := hb11.tr1 c66 (Ne.symm ne_b_b5)
       replace hbx := hbx.tr1 c66 (Ne.symm ne_b_bx)
       replace hD4 := Nat.lt_of_lt_of_le hD4 c66.size
       replace hD5 := Nat.lt_of_lt_of_le hD5 c66.size
       replace hb6 := hb6.tr1 c66 (Ne.symm ne_b_b6)
       replace hb7 := hb7.tr1 c66 (Ne.symm ne_b_b7)
       replace ho62 := ho62.trF flat_flat c66 (by intro k hk hx; simp only [List.mem_cons, List.mem_nil_iff, or_false] at hx; obtain rfl := hx; first | exact na_ob hk | exact absurd (ho62.inD _ hk) (by simp))
       replace hwQ := hwQ.trF flat_flat c66 (by intro k hk hx; simp only [List.mem_cons, List.mem_nil_iff, or_false] at hx; obtain rfl := hx; first | exact na_wb hk | exact absurd (hwQ.inD _ hk) (by simp))
       replace HK := HK.chg c66 (by
        intro k hx hK
        obtain rfl := List.mem_singleton.1 hx
        rcases hK with h | h | (h) | h
        · exact absurd h ne_b_lp
        · exact absurd h ne_b_DD
        · exact absurd h ne_b_bx
        · exact absurd h (Nat.not_le.2 lt0_b))
       clear o47
       clear o48
       clear o49
       clear o50
       clear o51
       clear o52
       clear o58
       refine sq_nil <| block_n <| ⟨HK, ?_⟩
       have hzn : ∀ u, u ∈ pre ++ [yZ s Z] → u.2 = 0 := fun u hu => (List.mem_append.1 hu).elim (hz u) (fun h => by rw [List.mem_singleton.1 h]; exact he0)
       have hmo : mO s (pre ++ [yZ s Z]).length = Z.out ++ [(yZ s Z).1] := by rw [List.length_append]; show nxO s (itZ s pre.length _) = _; rw [← hZ]; rfl
       have hmw : mW s (pre ++ [yZ s Z]).length = Z.ws := by rw [List.length_append]; show nxW s (itZ s pre.length _) = _; rw [← hZ]; exact hpush
       have hmol : Z.out.length + [(yZ s Z).1].length = (mO s (pre ++ [yZ s Z]).length).length := by rw [hmo, List.length_append]
       rw [hmol] at hb67
       rw [← hmo] at ho62
       rw [← hmw] at hb67 hwQ
       exact ⟨A59, cap60, Aw2, capw2, hzn, HC, hmx, ht, hM, hb11, hbx, hD4, hD5, hb67, ho62, hwQ, hb6, hb7⟩
     ·try simp only [nm, ne_eq] at g43
      refine w_no 3 34 true <| w_no 3 34 true <| pF rfl rfl <| mB rfl ?_
      iterate 10 refine w_no 7 38 true ?_
      refine pF rfl rfl <| mB rfl ?_
      iterate 10 refine w_no 19 50 true ?_
      refine pF rfl rfl <| en <| x_cond (t := false) rfl (fun h2 => ?_) (fun h2 => ?_)
      · exact absurd h2 (by decide)
      refine x_skip <| then_n <| x_draw [(0, 0), (1, 0), (2, 0), (3, 0), (4, 0), (5, 0), (6, 1), (7, 1), (8, 0), (9, 0), (10, 2)] T.mixed rfl rfl rfl (fun W => W.heap[b5]? = Wc.heap[b5]? ∧ W.heap[bx]? = Wc.heap[bx]? ∧ W.heap[b6]? = Wc.heap[b6]? ∧ W.heap[b7]? = Wc.heap[b7]? ∧ W.heap[b]? = Wc.heap[b]? ∧ W.heap[b8]? = Wc.heap[b8]? ∧ True) ⟨rfl, rfl, rfl, rfl, rfl, rfl, trivial⟩ ?_
      have o70 := hb11
      have o71 := hbx
      have o72 := hb6
      have o73 := hb7
      have o74 := hbP
      have o75 := hb36
      have c69 := Chg.drew Wc
      generalize World.drew Wc = w68 at c69 ⊢
      replace HC := HC.then c69
      replace hmx := hmx.tr0 c69
      replace ht := ht.tr0 c69
      replace hM := hM.tr c69 (by simp)
      replace hb11 := hb11.tr0 c69
      replace hbx := hbx.tr0 c69
      replace hD4 := Nat.lt_of_lt_of_le hD4 c69.size
      replace hD5 := Nat.lt_of_lt_of_le hD5 c69.size
      replace hb6 := hb6.tr0 c69
      replace hb7 := hb7.tr0 c69
      replace hbP := hbP.tr0 c69
      replace hoQ := hoQ.tr0 c69
      replace hwQ := hwQ.tr0 c69
      replace hb36 := hb36.tr0 c69
      replace HK := HK.chg c69 (fun k hx => absurd hx (by simp))
      refine sq_q rfl (fun W hT => r_load1 (v := .pointer _) T.one66 rfl (Blk.cell (show Blk W b5 _ _ from hT.1.trans o70) rfl)) <| sq_q rfl (fun W hT => r_load1 (v := .pointer _) T.one66 rfl (Blk.cell (show Blk W b5 _ _ from hT.1.trans o70) rfl)) <| sq_q rfl (fun W hT => r_nilCheck rfl) <| sq_q rfl (fun W hT => r_fieldAddr T.fld69_1 rfl) <| sq_q rfl (fun W hT => r_load1 (v := .slice _ _ _) T.one41 rfl (Blk.cell (show Blk W b _ _ from hT.2.2.2.2.1.trans o74) rfl)) <| sq_q rfl (fun W hT => r_loadA (vs := [_, _, _, _, _]) T.agg51 rfl (Blk.cells (n := 5) (vs := [_, _, _, _, _]) (show Blk W b8 _ _ from hT.2.2.2.2.2.1.trans o75) rfl) rfl) <| sq_lit1 (ps := [(0, .tmp 88)]) (vs := [.int _ _, S _, .int _ _, S _, .bool _]) rfl T.lit41 (by decide) rfl q6 rfl ?_
      intro b76 w77 e78 c79 hb80
      have ge_b76 := gB e78 HC.size
      have geK_b76 : Wc.heap.size ≤ b76 := by rw [e78]; exact HK.1
      have ne_b5_b76 := nF e78 hb11.ne_size
      have ne_bx_b76 := nF e78 hbx.ne_size
      have ne_b6_b76 := nF e78 hb6.ne_size
      have ne_b7_b76 := nF e78 hb7.ne_size
      have ne_b_b76 := nF e78 hbP.ne_size
      have ne_b8_b76 := nF e78 hb36.ne_size
      have nm_b76 : b76 ∉ mb [] := fun hx => by have := (hM.lt _ hx).2; omega
      have na_ob76 : b76 ∉ ob A := hoQ.fresh (by rw [e78]; exact Nat.le_refl _)
      have na_wb76 : b76 ∉ ob Aw2 := hwQ.fresh (by rw [e78]; exact Nat.le_refl _)
      replace HC := HC.then c79
      replace hmx := hmx.tr0 c79
      replace ht := ht.tr0 c79
      replace hM := hM.tr c79 (by simp)
      replace hb11 := hb11.tr0 c79
      replace hbx := hbx.tr0 c79
      replace hD4 := Nat.lt_of_lt_of_le hD4 c79.size
      replace hD5 := Nat.lt_of_lt_of_le hD5 c79.size
      replace hb6 := hb6.tr0 c79
      replace hb7 := hb7.tr0 c79
      replace hbP := hbP.tr0 c79
      replace hoQ := hoQ.tr0 c79
      replace hwQ := hwQ.tr0 c79
      replace hb36 := hb36.tr0 c79
      replace HK := HK.chg c79 (fun k hx => absurd hx (by simp))
      clear e78
      refine ext_T (b := b76) ⟨(Eq.trans hb11 o70.symm), (Eq.trans hbx o71.symm), (Eq.trans hb6 o72.symm), (Eq.trans hb7 o73.symm), (Eq.trans hbP o74.symm), (Eq.trans hb36 o75.symm), trivial⟩ ?_
      have o81 := hb80
      have hszA := HC.size
      refine sq_append1 (c := tok5E) (D2 := fun _ => False) (xs := Z.out) (ys := [(yZ s Z).1]) rfl T.slice41 rfl rfl hoQ rfl rfl (one_elem rfl (hb80.cells (n := 5) rfl)) (fun _ _ h => h.elim) (fun k hk => (have h9 := HK.1; have hk9 := hk; ⟨by have := HC.size; omega, by have := hbP.lt; omega, by have := hbx.lt; omega, by have := hb11.lt; omega, by have := hb6.lt; omega, by have := hb7.lt; omega, by have := hD5; omega, by have := hD4; omega⟩)) q7 q7 ?_
      intro A82 cap83 w84 ho85 c86 hg87
      replace HC := HC.trans c86 (fun k hk => .inr ((hoQ.inD k hk).1))
      replace hmx := hmx.tr c86 (by intro hx; have h1 := (hoQ.inD _ hx).1; omega)
      replace ht := ht.tr c86 (fun hx => by first | (have h1 := (hoQ.inD _ hx).1; omega) | (have h1 : w.heap.size ≤ 0 := hoQ.inD _ hx; omega))
      replace hM := hM.tr c86 (fun k hk => by cases hk)
      replace hb11 := hb11.tr c86 (fun hx => by first | (have h1 := hoQ.inD _ hx; omega) | exact na_ob5 hx | exact hav _ hx (by simp))
      replace hbx := hbx.tr c86 (fun hx => by first | (have h1 := hoQ.inD _ hx; omega) | exact na_obx hx | exact hav _ hx (by simp))
      replace hD4 := Nat.lt_of_lt_of_le hD4 c86.size
      replace hD5 := Nat.lt_of_lt_of_le hD5 c86.size
      replace hb6 := hb6.tr c86 (fun hx => by first | (have h1 := hoQ.inD _ hx; omega) | exact na_ob6 hx | exact hav _ hx (by simp))
      replace hb7 := hb7.tr c86 (fun hx => by first | (have h1 := hoQ.inD _ hx; omega) | exact na_ob7 hx | exact hav _ hx (by simp))
      replace hbP := hbP.tr c86 (fun hx => by first | (have h1 := hoQ.inD _ hx; omega) | exact na_ob hx | exact hav _ hx (by simp))
      replace hwQ := hwQ.trF flat_flat c86 (fun k hk hx => own_disj hoQ hwQ k hx hk)
      replace hb36 := hb36.tr c86 (fun hx => by first | (have h1 := hoQ.inD _ hx; omega) | exact na_ob8 hx | exact hav _ hx (by simp))
      replace HK := HK.chg c86 (by intro k hk hK; have h1 := hoQ.inD k hk; have h2 := lo0_ho k hk; simp only [NK] at hK; omega)
      replace hb80 := hb80.tr c86 (fun hx => by first | (have h1 := hoQ.inD _ hx; omega) | exact na_ob76 hx | exact hav _ hx (by simp))
      refine ⟨_, fun _ h => h, ⟨(Eq.trans hb80 o81.symm), ⟨(Eq.trans hb11 o70.symm), (Eq.trans hbx o71.symm), (Eq.trans hb6 o72.symm), (Eq.trans hb7 o73.symm), (Eq.trans hbP o74.symm), (Eq.trans hb36 o75.symm), trivial⟩⟩, ?_⟩
      refine sq_q rfl (fun W hT => r_nilCheck rfl) <| sq_q rfl (fun W hT => r_fieldAddr T.fld69_1 rfl) <| sq_store2 rfl T.size41 (v := .slice _ _ _) rfl rfl rfl hbP rfl (Nat.le_of_ble_eq_true rfl) q5 rfl ?_
      intro w88 c89 hb90; simp only [setVs, setV] at hb90
      clear hbP
      replace HC := HC.then1 c89 ge_b
      replace hmx := hmx.tr c89 q1
      replace ht := ht.tr c89 q1
      replace hM := hM.tr c89 (by intro k hk hx; have hlo := (hM.lt k hk).1; simp only [List.mem_singleton] at hx; subst hx; first | exact nm_b hk | omega | (cases hk; done))
      replace hb11 := hb11.tr1 c89 (Ne.symm ne_b_b5)
      replace hbx := hbx.tr1 c89 (Ne.symm ne_b_bx)
      replace hD4 := Nat.lt_of_lt_of_le hD4 c89.size
      replace hD5 := Nat.lt_of_lt_of_le hD5 c89.size
      replace hb6 := hb6.tr1 c89 (Ne.symm ne_b_b6)
      replace hb7 := hb7.tr1 c89 (Ne.symm ne_b_b7)
      replace ho85 := ho85.trF flat_flat c89 (by intro k hk hx; simp only [List.mem_cons, List.mem_nil_iff, or_false] at hx; obtain rfl := hx; first | exact na_ob hk | exact absurd (ho85.inD _ hk) (by simp))
      replace hwQ := hwQ.trF flat_flat c89 (by intro k hk hx; simp only [List.mem_cons, List.mem_nil_iff, or_false] at hx; obtain rfl := hx; first | exact na_wb hk | exact absurd (hwQ.inD _ hk) (by simp))
      replace HK := HK.chg c89 (by
       intro k hx hK
       obtain rfl := List.mem_singleton.1 hx
       rcases hK with h | h | (h) | h
       · exact absurd h ne_b_lp
       · exact absurd h ne_b_DD
       · exact absurd h ne_b_bx
       · exact absurd h (Nat.not_le.2 lt0_b))
      clear o70
      clear o71
      clear o72
      clear o73
      clear o74
      clear o75
      clear o81
      refine sq_nil <| block_n <| ⟨HK, ?_⟩
      have hzn : ∀ u, u ∈ pre ++ [yZ s Z] → u.2 = 0 := fun u hu => (List.mem_append.1 hu).elim (hz u) (fun h => by rw [List.mem_singleton.1 h]; exact he0)
      have hmo : mO s (pre ++ [yZ s Z]).length = Z.out ++ [(yZ s Z).1] := by rw [List.length_append]; show nxO s (itZ s pre.length _) = _; rw [← hZ]; rfl
      have hmw : mW s (pre ++ [yZ s Z]).length = Z.ws := by rw [List.length_append]; show nxW s (itZ s pre.length _) = _; rw [← hZ]; exact hpush
      have hmol : Z.out.length + [(yZ s Z).1].length = (mO s (pre ++ [yZ s Z]).length).length := by rw [hmo, List.length_append]
      rw [hmol] at hb90
      rw [← hmo] at ho85
      rw [← hmw] at hb90 hwQ
      exact ⟨A82, cap83, Aw2, capw2, hzn, HC, hmx, ht, hM, hb11, hbx, hD4, hD5, hb90, ho85, hwQ, hb6, hb7⟩
    ·rw [List.concat_eq_append] at hlz
     have hll : Z.out.length = l0.length + 1 := by rw [hlz]; simp
     have hsub1 : IntKind.i64.wrap ((Z.out.length : Int) - 1) = ((l0.length : Nat) : Int) := by rw [wrap64_id (by omega) (by omega)]; omega
     have hslo := (hoQ.flat (D' := fun k => k ∈ ob A) flat_flat (fun k hk _ => hk)).sl
     refine x_region rfl <| fa T.fld51_0 rfl <| lI T.one3 rfl (hb36.cell rfl) <| Wp rfl <| st_eql rfl rfl <| mB rfl <| w_split (d := 34) rfl (fun g91 => ?_) (fun g91 => ?_)
     ·try simp only [nm, ne_eq] at g91
      refine w_yes 3 34 true <| st_move (v := .int _ _) rfl <| w_yes 3 34 true <| st_gtr rfl rfl <| pT rfl rfl <| mB rfl <| w_split (d := 38) rfl (fun g92 => ?_) (fun g92 => ?_)
      ·try simp only [nm, ne_eq] at g92
       refine w_yes 7 38 true <| st_load1 (v := .pointer _) T.one66 rfl (hb11.cell rfl) <| w_yes 7 38 true <| st_nilCheck rfl <| w_yes 7 38 true <| st_fieldAddr T.fld69_1 rfl <| w_yes 7 38 true <| st_load1 (v := .slice _ _ _) T.one41 rfl (hbP.cell rfl) <| w_yes 7 38 true <| st_move (v := .int _ _) rfl <| w_yes 7 38 true <| st_subk rfl rfl (by exact hsub1) ?_
       obtain ⟨lb97, _, vs96, hA93, hR95, hC94⟩ := hslo.at (i := l0.length) (x := z) (by rw [hlz]; simp)
       obtain rfl : vs96 = [.int .i64 z.kind, S z.text, .int .i64 z.at_, S z.here, .bool z.raw] := hR95
       refine w_yes 7 38 true <| st_indexAddr T.u41 T.size51 (congrArg (fun z => Value.slice z _ _) hA93) rfl (by omega) (by omega) <| w_yes 7 38 true <| st_fieldAddr T.fld51_0 rfl <| w_yes 7 38 true <| st_load1 (v := .int _ _) T.one3 rfl (hC94.at (j := 0) rfl) <| w_yes 7 38 true <| st_eql rfl rfl <| pT rfl rfl <| mB rfl <| w_split (d := 50) rfl (fun g98 => ?_) (fun g98 => ?_)
       ·try simp only [nm, ne_eq] at g98
        refine w_yes 19 50 true <| st_load1 (v := .pointer _) T.one66 rfl (hb11.cell rfl) <| w_yes 19 50 true <| st_nilCheck rfl <| w_yes 19 50 true <| st_fieldAddr T.fld69_1 rfl <| w_yes 19 50 true <| st_load1 (v := .slice _ _ _) T.one41 rfl (hbP.cell rfl) <| w_yes 19 50 true <| st_move (v := .int _ _) rfl <| w_yes 19 50 true <| st_subk rfl rfl (by exact hsub1) ?_
        obtain ⟨lb103, _, vs102, hA99, hR101, hC100⟩ := hslo.at (i := l0.length) (x := z) (by rw [hlz]; simp)
        obtain rfl : vs102 = [.int .i64 z.kind, S z.text, .int .i64 z.at_, S z.here, .bool z.raw] := hR101
        refine w_yes 19 50 true <| st_indexAddr T.u41 T.size51 (congrArg (fun z => Value.slice z _ _) hA99) rfl (by omega) (by omega) <| w_yes 19 50 true <| st_fieldAddr T.fld51_1 rfl <| w_yes 19 50 true <| st_load1 (v := S _) T.one9 rfl (hC100.at (j := 1) rfl) <| w_yes 19 50 true <| st_call (ags := [_, _]) rfl rfl T.ent27 rfl (HasPrefix_spec z.text [60, 60] _) ?_
        rintro _ w104 ⟨rfl, c105⟩
        replace HC := HC.then c105
        replace hmx := hmx.tr0 c105
        replace ht := ht.tr0 c105
        replace hM := hM.tr c105 (by simp)
        replace hb11 := hb11.tr0 c105
        replace hbx := hbx.tr0 c105
        replace hD4 := Nat.lt_of_lt_of_le hD4 c105.size
        replace hD5 := Nat.lt_of_lt_of_le hD5 c105.size
        replace hb6 := hb6.tr0 c105
        replace hb7 := hb7.tr0 c105
        replace hbP := hbP.tr0 c105
        replace hoQ := hoQ.tr0 c105
        replace hwQ := hwQ.tr0 c105
        replace hb36 := hb36.tr0 c105
        replace HK := HK.chg c105 (fun k hx => absurd hx (by simp))
        replace hslo := hslo.tr0 c105
        refine pT rfl rfl <| en <| x_cond rfl (fun h2 => ?_) (fun h2 => ?_)
        ·try simp only [nm, ne_eq] at h2
         have hpush : pushW Z.out Z.ws (yZ s Z).1 = Z.ws ++ [(Z.out.length, decide (z.text = [60, 60, 45]))] := by rw [hlz]; exact push_yes (by first | assumption | simp_all) (by first | assumption | simp_all) (by first | assumption | simp_all)
         obtain ⟨lb110, _, vs109, hA106, hR108, hC107⟩ := hslo.at (i := l0.length) (x := z) (by rw [hlz]; simp)
         obtain rfl : vs109 = [.int .i64 z.kind, S z.text, .int .i64 z.at_, S z.here, .bool z.raw] := hR108
         refine x_draw [(0, 0), (1, 0), (2, 0), (3, 0), (4, 0), (5, 0), (6, 0), (7, 0), (8, 0), (9, 0), (10, 0), (11, 0), (12, 0), (13, 0), (14, 0), (15, 0), (16, 0), (17, 1), (18, 1), (19, 0), (20, 0), (21, 2)] T.mixed rfl rfl rfl (fun W => W.heap[b5]? = w104.heap[b5]? ∧ W.heap[bx]? = w104.heap[bx]? ∧ W.heap[b6]? = w104.heap[b6]? ∧ W.heap[b7]? = w104.heap[b7]? ∧ W.heap[b]? = w104.heap[b]? ∧ W.heap[b8]? = w104.heap[b8]? ∧ W.heap[lb110]? = w104.heap[lb110]? ∧ True) ⟨rfl, rfl, rfl, rfl, rfl, rfl, rfl, trivial⟩ ?_
         have o113 := hb11
         have o114 := hbx
         have o115 := hb6
         have o116 := hb7
         have o117 := hbP
         have o118 := hb36
         have c112 := Chg.drew w104
         generalize World.drew w104 = w111 at c112 ⊢
         have ht_lb110 : lb110 < w111.heap.size ∧ w111.heap[lb110]? = w104.heap[lb110]? := ⟨Nat.lt_of_lt_of_le hC107.lt c112.size, c112.block lb110 hC107.lt (by simp)⟩
         replace HC := HC.then c112
         replace hmx := hmx.tr0 c112
         replace ht := ht.tr0 c112
         replace hM := hM.tr c112 (by simp)
         replace hb11 := hb11.tr0 c112
         replace hbx := hbx.tr0 c112
         replace hD4 := Nat.lt_of_lt_of_le hD4 c112.size
         replace hD5 := Nat.lt_of_lt_of_le hD5 c112.size
         replace hb6 := hb6.tr0 c112
         replace hb7 := hb7.tr0 c112
         replace hbP := hbP.tr0 c112
         replace hoQ := hoQ.tr0 c112
         replace hwQ := hwQ.tr0 c112
         replace hb36 := hb36.tr0 c112
         replace HK := HK.chg c112 (fun k hx => absurd hx (by simp))
         have hlbA_lb110 : lb110 ∈ ob A := by rw [hA106]; simp [ob]
         refine sq_q rfl (fun W hT => r_load1 (v := .pointer _) T.one66 rfl (Blk.cell (show Blk W b5 _ _ from hT.1.trans o113) rfl)) <| sq_q rfl (fun W hT => r_load1 (v := .pointer _) T.one66 rfl (Blk.cell (show Blk W b5 _ _ from hT.1.trans o113) rfl)) <| sq_q rfl (fun W hT => r_nilCheck rfl) <| sq_q rfl (fun W hT => r_fieldAddr T.fld69_2 rfl) <| sq_q rfl (fun W hT => r_load1 (v := .slice _ _ _) T.one67 rfl (Blk.cell (show Blk W b _ _ from hT.2.2.2.2.1.trans o117) rfl)) <| sq_q rfl (fun W hT => r_move (v := .int _ _) rfl) <| sq_q rfl (fun W hT => r_load1 (v := .pointer _) T.one66 rfl (Blk.cell (show Blk W b5 _ _ from hT.1.trans o113) rfl)) <| sq_q rfl (fun W hT => r_nilCheck rfl) <| sq_q rfl (fun W hT => r_fieldAddr T.fld69_1 rfl) <| sq_q rfl (fun W hT => r_load1 (v := .slice _ _ _) T.one41 rfl (Blk.cell (show Blk W b _ _ from hT.2.2.2.2.1.trans o117) rfl)) <| sq_q rfl (fun W hT => r_move (v := .int _ _) rfl) <| sq_q rfl (fun W hT => r_subk rfl rfl (by exact hsub1)) <| sq_q rfl (fun W hT => r_indexAddr T.u41 T.size51 (congrArg (fun z => Value.slice z _ _) hA106) rfl (by omega) (by omega)) <| sq_q rfl (fun W hT => r_fieldAddr T.fld51_1 rfl) <| sq_q rfl (fun W hT => r_load1 (v := S _) T.one9 rfl (Cells.at (j := 1) (Cells.tr hC107 hT.2.2.2.2.2.2.1) rfl)) <| sq_q rfl (fun W hT => r_seql rfl rfl) <| sq_q rfl (fun W hT => r_bld (ps := [(0, .tmp 67), (1, .tmp 77)]) (vs := [.int _ _, .bool _]) T.bld75 rfl) <| sq_lit1 (ps := [(0, .tmp 78)]) (vs := [.int _ _, .bool _]) rfl T.lit67 (by decide) rfl q6 rfl ?_
         intro b119 w120 e121 c122 hb123
         have ge_b119 := gB e121 HC.size
         have geK_b119 : Wc.heap.size ≤ b119 := by rw [e121]; exact HK.1
         have ne_b5_b119 := nF e121 hb11.ne_size
         have ne_bx_b119 := nF e121 hbx.ne_size
         have ne_b6_b119 := nF e121 hb6.ne_size
         have ne_b7_b119 := nF e121 hb7.ne_size
         have ne_b_b119 := nF e121 hbP.ne_size
         have ne_b8_b119 := nF e121 hb36.ne_size
         have nm_b119 : b119 ∉ mb [] := fun hx => by have := (hM.lt _ hx).2; omega
         have na_ob119 : b119 ∉ ob A := hoQ.fresh (by rw [e121]; exact Nat.le_refl _)
         have na_wb119 : b119 ∉ ob Aw2 := hwQ.fresh (by rw [e121]; exact Nat.le_refl _)
         have nh_lb110_b119 : lb110 ≠ b119 := by have h1 := ht_lb110.1; have h2 := e121; omega
         replace HC := HC.then c122
         replace hmx := hmx.tr0 c122
         replace ht := ht.tr0 c122
         replace hM := hM.tr c122 (by simp)
         replace hb11 := hb11.tr0 c122
         replace hbx := hbx.tr0 c122
         replace hD4 := Nat.lt_of_lt_of_le hD4 c122.size
         replace hD5 := Nat.lt_of_lt_of_le hD5 c122.size
         replace hb6 := hb6.tr0 c122
         replace hb7 := hb7.tr0 c122
         replace hbP := hbP.tr0 c122
         replace hoQ := hoQ.tr0 c122
         replace hwQ := hwQ.tr0 c122
         replace hb36 := hb36.tr0 c122
         replace HK := HK.chg c122 (fun k hx => absurd hx (by simp))
         replace ht_lb110 := And.intro (Nat.lt_of_lt_of_le ht_lb110.1 c122.size) ((c122.block lb110 ht_lb110.1 (by simp)).trans ht_lb110.2)
         clear e121
         refine ext_T (b := b119) ⟨(Eq.trans hb11 o113.symm), (Eq.trans hbx o114.symm), (Eq.trans hb6 o115.symm), (Eq.trans hb7 o116.symm), (Eq.trans hbP o117.symm), (Eq.trans hb36 o118.symm), (by first | assumption | exact ht_lb110.2), trivial⟩ ?_
         have o124 := hb123
         have hszA := HC.size
         refine sq_append1 (c := wtE) (D2 := fun _ => False) (xs := Z.ws) (ys := [(Z.out.length, decide (z.text = [60, 60, 45]))]) rfl T.slice67 rfl rfl hwQ rfl rfl (one_elem rfl (hb123.cells (n := 2) rfl)) (fun _ _ h => h.elim) (fun k hk => (have h9 := HK.1; have hk9 := hk; ⟨by have := HC.size; omega, by have := hbP.lt; omega, by have := hbx.lt; omega, by have := hb11.lt; omega, by have := hb6.lt; omega, by have := hb7.lt; omega, by have := hD5; omega, by have := hD4; omega⟩)) q7 q7 ?_
         intro A125 cap126 w127 ho128 c129 hg130
         replace HC := HC.trans c129 (fun k hk => .inr ((hwQ.inD k hk).1))
         replace hmx := hmx.tr c129 (by intro hx; have h1 := (hwQ.inD _ hx).1; omega)
         replace ht := ht.tr c129 (fun hx => by first | (have h1 := (hwQ.inD _ hx).1; omega) | (have h1 : w.heap.size ≤ 0 := hwQ.inD _ hx; omega))
         replace hM := hM.tr c129 (fun k hk => by cases hk)
         replace hb11 := hb11.tr c129 (fun hx => by first | (have h1 := hwQ.inD _ hx; omega) | exact na_wb5 hx | exact hav _ hx (by simp))
         replace hbx := hbx.tr c129 (fun hx => by first | (have h1 := hwQ.inD _ hx; omega) | exact na_wbx hx | exact hav _ hx (by simp))
         replace hD4 := Nat.lt_of_lt_of_le hD4 c129.size
         replace hD5 := Nat.lt_of_lt_of_le hD5 c129.size
         replace hb6 := hb6.tr c129 (fun hx => by first | (have h1 := hwQ.inD _ hx; omega) | exact na_wb6 hx | exact hav _ hx (by simp))
         replace hb7 := hb7.tr c129 (fun hx => by first | (have h1 := hwQ.inD _ hx; omega) | exact na_wb7 hx | exact hav _ hx (by simp))
         replace hbP := hbP.tr c129 (fun hx => by first | (have h1 := hwQ.inD _ hx; omega) | exact na_wb hx | exact hav _ hx (by simp))
         replace hoQ := hoQ.trF flat_flat c129 (fun k hk hx => own_disj hoQ hwQ k hk hx)
         replace hb36 := hb36.tr c129 (fun hx => by first | (have h1 := hwQ.inD _ hx; omega) | exact na_wb8 hx | exact hav _ hx (by simp))
         replace HK := HK.chg c129 (by intro k hk hK; have h1 := hwQ.inD k hk; have h2 := lo0_hw k hk; simp only [NK] at hK; omega)
         replace ht_lb110 := And.intro (Nat.lt_of_lt_of_le ht_lb110.1 c129.size) ((c129.block lb110 ht_lb110.1 (hdj _ hlbA_lb110)).trans ht_lb110.2)
         replace hb123 := hb123.tr c129 (fun hx => by first | (have h1 := hwQ.inD _ hx; omega) | exact na_wb119 hx | exact hav _ hx (by simp))
         refine ⟨_, fun _ h => h, ⟨(Eq.trans hb123 o124.symm), ⟨(Eq.trans hb11 o113.symm), (Eq.trans hbx o114.symm), (Eq.trans hb6 o115.symm), (Eq.trans hb7 o116.symm), (Eq.trans hbP o117.symm), (Eq.trans hb36 o118.symm), (by first | assumption | exact ht_lb110.2), trivial⟩⟩, ?_⟩
         refine sq_q rfl (fun W hT => r_nilCheck rfl) <| sq_q rfl (fun W hT => r_fieldAddr T.fld69_2 rfl) <| sq_store2 rfl T.size67 (v := .slice _ _ _) rfl rfl rfl hbP rfl (Nat.le_of_ble_eq_true rfl) q5 rfl ?_
         intro w131 c132 hb133; simp only [setVs, setV] at hb133
         clear hbP
         replace HC := HC.then1 c132 ge_b
         replace hmx := hmx.tr c132 q1
         replace ht := ht.tr c132 q1
         replace hM := hM.tr c132 (by intro k hk hx; have hlo := (hM.lt k hk).1; simp only [List.mem_singleton] at hx; subst hx; first | exact nm_b hk | omega | (cases hk; done))
         replace hb11 := hb11.tr1 c132 (Ne.symm ne_b_b5)
         replace hbx := hbx.tr1 c132 (Ne.symm ne_b_bx)
         replace hD4 := Nat.lt_of_lt_of_le hD4 c132.size
         replace hD5 := Nat.lt_of_lt_of_le hD5 c132.size
         replace hb6 := hb6.tr1 c132 (Ne.symm ne_b_b6)
         replace hb7 := hb7.tr1 c132 (Ne.symm ne_b_b7)
         replace hoQ := hoQ.trF flat_flat c132 (by intro k hk hx; simp only [List.mem_cons, List.mem_nil_iff, or_false] at hx; obtain rfl := hx; first | exact na_ob hk | exact absurd (hoQ.inD _ hk) (by simp))
         replace ho128 := ho128.trF flat_flat c132 (by intro k hk hx; simp only [List.mem_cons, List.mem_nil_iff, or_false] at hx; obtain rfl := hx; first | exact na_wb hk | exact absurd (ho128.inD _ hk) (by simp))
         replace hb36 := hb36.tr1 c132 (Ne.symm ne_b_b8)
         replace HK := HK.chg c132 (by
          intro k hx hK
          obtain rfl := List.mem_singleton.1 hx
          rcases hK with h | h | (h) | h
          · exact absurd h ne_b_lp
          · exact absurd h ne_b_DD
          · exact absurd h ne_b_bx
          · exact absurd h (Nat.not_le.2 lt0_b))
         replace ht_lb110 := And.intro (Nat.lt_of_lt_of_le ht_lb110.1 c132.size) ((c132.block lb110 ht_lb110.1 (fun hx => nAo_b (List.mem_singleton.1 hx ▸ hlbA_lb110))).trans ht_lb110.2)
         replace hb123 := hb123.tr1 c132 (Ne.symm ne_b_b119)
         clear o113
         clear o114
         clear o115
         clear o116
         clear o117
         clear o118
         clear o124
         refine sq_nil <| then_n <| x_draw [(0, 0), (1, 0), (2, 0), (3, 0), (4, 0), (5, 0), (6, 1), (7, 1), (8, 0), (9, 0), (10, 2)] T.mixed rfl rfl rfl (fun W => W.heap[b5]? = w131.heap[b5]? ∧ W.heap[bx]? = w131.heap[bx]? ∧ W.heap[b6]? = w131.heap[b6]? ∧ W.heap[b7]? = w131.heap[b7]? ∧ W.heap[b8]? = w131.heap[b8]? ∧ W.heap[b119]? = w131.heap[b119]? ∧ W.heap[b]? = w131.heap[b]? ∧ True) ⟨rfl, rfl, rfl, rfl, rfl, rfl, rfl, trivial⟩ ?_
         have o136 := hb11
         have o137 := hbx
         have o138 := hb6
         have o139 := hb7
         have o140 := hb36
         have o141 := hb123
         have o142 := hb133
         have c135 := Chg.drew w131
         generalize World.drew w131 = w134 at c135 ⊢
         replace HC := HC.then c135
         replace hmx := hmx.tr0 c135
         replace ht := ht.tr0 c135
         replace hM := hM.tr c135 (by simp)
         replace hb11 := hb11.tr0 c135
         replace hbx := hbx.tr0 c135
         replace hD4 := Nat.lt_of_lt_of_le hD4 c135.size
         replace hD5 := Nat.lt_of_lt_of_le hD5 c135.size
         replace hb6 := hb6.tr0 c135
         replace hb7 := hb7.tr0 c135
         replace hoQ := hoQ.tr0 c135
         replace ho128 := ho128.tr0 c135
         replace hb36 := hb36.tr0 c135
         replace HK := HK.chg c135 (fun k hx => absurd hx (by simp))
         replace hb123 := hb123.tr0 c135
         replace hb133 := hb133.tr0 c135
         refine sq_q rfl (fun W hT => r_load1 (v := .pointer _) T.one66 rfl (Blk.cell (show Blk W b5 _ _ from hT.1.trans o136) rfl)) <| sq_q rfl (fun W hT => r_load1 (v := .pointer _) T.one66 rfl (Blk.cell (show Blk W b5 _ _ from hT.1.trans o136) rfl)) <| sq_q rfl (fun W hT => r_nilCheck rfl) <| sq_q rfl (fun W hT => r_fieldAddr T.fld69_1 rfl) <| sq_q rfl (fun W hT => r_load1 (v := .slice _ _ _) T.one41 rfl (Blk.cell (show Blk W b _ _ from hT.2.2.2.2.2.2.1.trans o142) rfl)) <| sq_q rfl (fun W hT => r_loadA (vs := [_, _, _, _, _]) T.agg51 rfl (Blk.cells (n := 5) (vs := [_, _, _, _, _]) (show Blk W b8 _ _ from hT.2.2.2.2.1.trans o140) rfl) rfl) <| sq_lit1 (ps := [(0, .tmp 88)]) (vs := [.int _ _, S _, .int _ _, S _, .bool _]) rfl T.lit41 (by decide) rfl q6 rfl ?_
         intro b143 w144 e145 c146 hb147
         have ge_b143 := gB e145 HC.size
         have geK_b143 : Wc.heap.size ≤ b143 := by rw [e145]; exact HK.1
         have ne_b5_b143 := nF e145 hb11.ne_size
         have ne_bx_b143 := nF e145 hbx.ne_size
         have ne_b6_b143 := nF e145 hb6.ne_size
         have ne_b7_b143 := nF e145 hb7.ne_size
         have ne_b8_b143 := nF e145 hb36.ne_size
         have ne_b119_b143 := nF e145 hb123.ne_size
         have ne_b_b143 := nF e145 hb133.ne_size
         have nm_b143 : b143 ∉ mb [] := fun hx => by have := (hM.lt _ hx).2; omega
         have na_ob143 : b143 ∉ ob A := hoQ.fresh (by rw [e145]; exact Nat.le_refl _)
         have na_wb143 : b143 ∉ ob A125 := ho128.fresh (by rw [e145]; exact Nat.le_refl _)
         replace HC := HC.then c146
         replace hmx := hmx.tr0 c146
         replace ht := ht.tr0 c146
         replace hM := hM.tr c146 (by simp)
         replace hb11 := hb11.tr0 c146
         replace hbx := hbx.tr0 c146
         replace hD4 := Nat.lt_of_lt_of_le hD4 c146.size
         replace hD5 := Nat.lt_of_lt_of_le hD5 c146.size
         replace hb6 := hb6.tr0 c146
         replace hb7 := hb7.tr0 c146
         replace hoQ := hoQ.tr0 c146
         replace ho128 := ho128.tr0 c146
         replace hb36 := hb36.tr0 c146
         replace HK := HK.chg c146 (fun k hx => absurd hx (by simp))
         replace hb123 := hb123.tr0 c146
         replace hb133 := hb133.tr0 c146
         clear e145
         refine ext_T (b := b143) ⟨(Eq.trans hb11 o136.symm), (Eq.trans hbx o137.symm), (Eq.trans hb6 o138.symm), (Eq.trans hb7 o139.symm), (Eq.trans hb36 o140.symm), (Eq.trans hb123 o141.symm), (Eq.trans hb133 o142.symm), trivial⟩ ?_
         have o148 := hb147
         have hszA := HC.size
         refine sq_append1 (c := tok5E) (D2 := fun _ => False) (xs := Z.out) (ys := [(yZ s Z).1]) rfl T.slice41 rfl rfl hoQ rfl rfl (one_elem rfl (hb147.cells (n := 5) rfl)) (fun _ _ h => h.elim) (fun k hk => (have h9 := HK.1; have hk9 := hk; ⟨by have := HC.size; omega, by have := hb133.lt; omega, by have := hbx.lt; omega, by have := hb11.lt; omega, by have := hb6.lt; omega, by have := hb7.lt; omega, by have := hD5; omega, by have := hD4; omega⟩)) q7 q7 ?_
         intro A149 cap150 w151 ho152 c153 hg154
         replace HC := HC.trans c153 (fun k hk => .inr ((hoQ.inD k hk).1))
         replace hmx := hmx.tr c153 (by intro hx; have h1 := (hoQ.inD _ hx).1; omega)
         replace ht := ht.tr c153 (fun hx => by first | (have h1 := (hoQ.inD _ hx).1; omega) | (have h1 : w.heap.size ≤ 0 := hoQ.inD _ hx; omega))
         replace hM := hM.tr c153 (fun k hk => by cases hk)
         replace hb11 := hb11.tr c153 (fun hx => by first | (have h1 := hoQ.inD _ hx; omega) | exact na_ob5 hx | exact hav _ hx (by simp))
         replace hbx := hbx.tr c153 (fun hx => by first | (have h1 := hoQ.inD _ hx; omega) | exact na_obx hx | exact hav _ hx (by simp))
         replace hD4 := Nat.lt_of_lt_of_le hD4 c153.size
         replace hD5 := Nat.lt_of_lt_of_le hD5 c153.size
         replace hb6 := hb6.tr c153 (fun hx => by first | (have h1 := hoQ.inD _ hx; omega) | exact na_ob6 hx | exact hav _ hx (by simp))
         replace hb7 := hb7.tr c153 (fun hx => by first | (have h1 := hoQ.inD _ hx; omega) | exact na_ob7 hx | exact hav _ hx (by simp))
         replace ho128 := ho128.trF flat_flat c153 (fun k hk hx => own_disj hoQ ho128 k hx hk)
         replace hb36 := hb36.tr c153 (fun hx => by first | (have h1 := hoQ.inD _ hx; omega) | exact na_ob8 hx | exact hav _ hx (by simp))
         replace HK := HK.chg c153 (by intro k hk hK; have h1 := hoQ.inD k hk; have h2 := lo0_ho k hk; simp only [NK] at hK; omega)
         replace hb123 := hb123.tr c153 (fun hx => by first | (have h1 := hoQ.inD _ hx; omega) | exact na_ob119 hx | exact hav _ hx (by simp))
         replace hb133 := hb133.tr c153 (fun hx => by first | (have h1 := hoQ.inD _ hx; omega) | exact na_ob hx | exact hav _ hx (by simp))
         replace hb147 := hb147.tr c153 (fun hx => by first | (have h1 := hoQ.inD _ hx; omega) | exact na_ob143 hx | exact hav _ hx (by simp))
         refine ⟨_, fun _ h => h, ⟨(Eq.trans hb147 o148.symm), ⟨(Eq.trans hb11 o136.symm), (Eq.trans hbx o137.symm), (Eq.trans hb6 o138.symm), (Eq.trans hb7 o139.symm), (Eq.trans hb36 o140.symm), (Eq.trans hb123 o141.symm), (Eq.trans hb133 o142.symm), trivial⟩⟩, ?_⟩
         refine sq_q rfl (fun W hT => r_nilCheck rfl) <| sq_q rfl (fun W hT => r_fieldAddr T.fld69_1 rfl) <| sq_store2 rfl T.size41 (v := .slice _ _ _) rfl rfl rfl hb133 rfl (Nat.le_of_ble_eq_true rfl) q5 rfl ?_
         intro w155 c156 hb157; simp only [setVs, setV] at hb157
         clear hb133
         replace HC := HC.then1 c156 ge_b
         replace hmx := hmx.tr c156 q1
         replace ht := ht.tr c156 q1
         replace hM := hM.tr c156 (by intro k hk hx; have hlo := (hM.lt k hk).1; simp only [List.mem_singleton] at hx; subst hx; first | exact nm_b hk | omega | (cases hk; done))
         replace hb11 := hb11.tr1 c156 (Ne.symm ne_b_b5)
         replace hbx := hbx.tr1 c156 (Ne.symm ne_b_bx)
         replace hD4 := Nat.lt_of_lt_of_le hD4 c156.size
         replace hD5 := Nat.lt_of_lt_of_le hD5 c156.size
         replace hb6 := hb6.tr1 c156 (Ne.symm ne_b_b6)
         replace hb7 := hb7.tr1 c156 (Ne.symm ne_b_b7)
         replace ho152 := ho152.trF flat_flat c156 (by intro k hk hx; simp only [List.mem_cons, List.mem_nil_iff, or_false] at hx; obtain rfl := hx; first | exact na_ob hk | exact absurd (ho152.inD _ hk) (by simp))
         replace ho128 := ho128.trF flat_flat c156 (by intro k hk hx; simp only [List.mem_cons, List.mem_nil_iff, or_false] at hx; obtain rfl := hx; first | exact na_wb hk | exact absurd (ho128.inD _ hk) (by simp))
         replace HK := HK.chg c156 (by
          intro k hx hK
          obtain rfl := List.mem_singleton.1 hx
          rcases hK with h | h | (h) | h
          · exact absurd h ne_b_lp
          · exact absurd h ne_b_DD
          · exact absurd h ne_b_bx
          · exact absurd h (Nat.not_le.2 lt0_b))
         clear o136
         clear o137
         clear o138
         clear o139
         clear o140
         clear o141
         clear o142
         clear o148
         refine sq_nil <| block_n <| ⟨HK, ?_⟩
         have hzn : ∀ u, u ∈ pre ++ [yZ s Z] → u.2 = 0 := fun u hu => (List.mem_append.1 hu).elim (hz u) (fun h => by rw [List.mem_singleton.1 h]; exact he0)
         have hmo : mO s (pre ++ [yZ s Z]).length = Z.out ++ [(yZ s Z).1] := by rw [List.length_append]; show nxO s (itZ s pre.length _) = _; rw [← hZ]; rfl
         have hmw : mW s (pre ++ [yZ s Z]).length = (Z.ws ++ [(Z.out.length, decide (z.text = [60, 60, 45]))]) := by rw [List.length_append]; show nxW s (itZ s pre.length _) = _; rw [← hZ]; exact hpush
         have hmol : Z.out.length + [(yZ s Z).1].length = (mO s (pre ++ [yZ s Z]).length).length := by rw [hmo, List.length_append]
         rw [hmol] at hb157
         rw [← hmo] at ho152
         have hmwl : Z.ws.length + [(Z.out.length, decide (z.text = [60, 60, 45]))].length = (mW s (pre ++ [yZ s Z]).length).length := by rw [hmw, List.length_append]
         rw [hmwl] at hb157
         rw [← hmw] at ho128
         exact ⟨A149, cap150, A125, cap126, hzn, HC, hmx, ht, hM, hb11, hbx, hD4, hD5, hb157, ho152, ho128, hb6, hb7⟩
        ·try simp only [nm, ne_eq] at h2
         have hpush : pushW Z.out Z.ws (yZ s Z).1 = Z.ws := by rw [hlz]; exact push_no (by rintro ⟨h7, h8, h9⟩; simp_all)
         refine x_skip <| then_n <| x_draw [(0, 0), (1, 0), (2, 0), (3, 0), (4, 0), (5, 0), (6, 1), (7, 1), (8, 0), (9, 0), (10, 2)] T.mixed rfl rfl rfl (fun W => W.heap[b5]? = w104.heap[b5]? ∧ W.heap[bx]? = w104.heap[bx]? ∧ W.heap[b6]? = w104.heap[b6]? ∧ W.heap[b7]? = w104.heap[b7]? ∧ W.heap[b]? = w104.heap[b]? ∧ W.heap[b8]? = w104.heap[b8]? ∧ True) ⟨rfl, rfl, rfl, rfl, rfl, rfl, trivial⟩ ?_
         have o160 := hb11
         have o161 := hbx
         have o162 := hb6
         have o163 := hb7
         have o164 := hbP
         have o165 := hb36
         have c159 := Chg.drew w104
         generalize World.drew w104 = w158 at c159 ⊢
         replace HC := HC.then c159
         replace hmx := hmx.tr0 c159
         replace ht := ht.tr0 c159
         replace hM := hM.tr c159 (by simp)
         replace hb11 := hb11.tr0 c159
         replace hbx := hbx.tr0 c159
         replace hD4 := Nat.lt_of_lt_of_le hD4 c159.size
         replace hD5 := Nat.lt_of_lt_of_le hD5 c159.size
         replace hb6 := hb6.tr0 c159
         replace hb7 := hb7.tr0 c159
         replace hbP := hbP.tr0 c159
         replace hoQ := hoQ.tr0 c159
         replace hwQ := hwQ.tr0 c159
         replace hb36 := hb36.tr0 c159
         replace HK := HK.chg c159 (fun k hx => absurd hx (by simp))
         refine sq_q rfl (fun W hT => r_load1 (v := .pointer _) T.one66 rfl (Blk.cell (show Blk W b5 _ _ from hT.1.trans o160) rfl)) <| sq_q rfl (fun W hT => r_load1 (v := .pointer _) T.one66 rfl (Blk.cell (show Blk W b5 _ _ from hT.1.trans o160) rfl)) <| sq_q rfl (fun W hT => r_nilCheck rfl) <| sq_q rfl (fun W hT => r_fieldAddr T.fld69_1 rfl) <| sq_q rfl (fun W hT => r_load1 (v := .slice _ _ _) T.one41 rfl (Blk.cell (show Blk W b _ _ from hT.2.2.2.2.1.trans o164) rfl)) <| sq_q rfl (fun W hT => r_loadA (vs := [_, _, _, _, _]) T.agg51 rfl (Blk.cells (n := 5) (vs := [_, _, _, _, _]) (show Blk W b8 _ _ from hT.2.2.2.2.2.1.trans o165) rfl) rfl) <| sq_lit1 (ps := [(0, .tmp 88)]) (vs := [.int _ _, S _, .int _ _, S _, .bool _]) rfl T.lit41 (by decide) rfl q6 rfl ?_
         intro b166 w167 e168 c169 hb170
         have ge_b166 := gB e168 HC.size
         have geK_b166 : Wc.heap.size ≤ b166 := by rw [e168]; exact HK.1
         have ne_b5_b166 := nF e168 hb11.ne_size
         have ne_bx_b166 := nF e168 hbx.ne_size
         have ne_b6_b166 := nF e168 hb6.ne_size
         have ne_b7_b166 := nF e168 hb7.ne_size
         have ne_b_b166 := nF e168 hbP.ne_size
         have ne_b8_b166 := nF e168 hb36.ne_size
         have nm_b166 : b166 ∉ mb [] := fun hx => by have := (hM.lt _ hx).2; omega
         have na_ob166 : b166 ∉ ob A := hoQ.fresh (by rw [e168]; exact Nat.le_refl _)
         have na_wb166 : b166 ∉ ob Aw2 := hwQ.fresh (by rw [e168]; exact Nat.le_refl _)
         replace HC := HC.then c169
         replace hmx := hmx.tr0 c169
         replace ht := ht.tr0 c169
         replace hM := hM.tr c169 (by simp)
         replace hb11 := hb11.tr0 c169
         replace hbx := hbx.tr0 c169
         replace hD4 := Nat.lt_of_lt_of_le hD4 c169.size
         replace hD5 := Nat.lt_of_lt_of_le hD5 c169.size
         replace hb6 := hb6.tr0 c169
         replace hb7 := hb7.tr0 c169
         replace hbP := hbP.tr0 c169
         replace hoQ := hoQ.tr0 c169
         replace hwQ := hwQ.tr0 c169
         replace hb36 := hb36.tr0 c169
         replace HK := HK.chg c169 (fun k hx => absurd hx (by simp))
         clear e168
         refine ext_T (b := b166) ⟨(Eq.trans hb11 o160.symm), (Eq.trans hbx o161.symm), (Eq.trans hb6 o162.symm), (Eq.trans hb7 o163.symm), (Eq.trans hbP o164.symm), (Eq.trans hb36 o165.symm), trivial⟩ ?_
         have o171 := hb170
         have hszA := HC.size
         refine sq_append1 (c := tok5E) (D2 := fun _ => False) (xs := Z.out) (ys := [(yZ s Z).1]) rfl T.slice41 rfl rfl hoQ rfl rfl (one_elem rfl (hb170.cells (n := 5) rfl)) (fun _ _ h => h.elim) (fun k hk => (have h9 := HK.1; have hk9 := hk; ⟨by have := HC.size; omega, by have := hbP.lt; omega, by have := hbx.lt; omega, by have := hb11.lt; omega, by have := hb6.lt; omega, by have := hb7.lt; omega, by have := hD5; omega, by have := hD4; omega⟩)) q7 q7 ?_
         intro A172 cap173 w174 ho175 c176 hg177
         replace HC := HC.trans c176 (fun k hk => .inr ((hoQ.inD k hk).1))
         replace hmx := hmx.tr c176 (by intro hx; have h1 := (hoQ.inD _ hx).1; omega)
         replace ht := ht.tr c176 (fun hx => by first | (have h1 := (hoQ.inD _ hx).1; omega) | (have h1 : w.heap.size ≤ 0 := hoQ.inD _ hx; omega))
         replace hM := hM.tr c176 (fun k hk => by cases hk)
         replace hb11 := hb11.tr c176 (fun hx => by first | (have h1 := hoQ.inD _ hx; omega) | exact na_ob5 hx | exact hav _ hx (by simp))
         replace hbx := hbx.tr c176 (fun hx => by first | (have h1 := hoQ.inD _ hx; omega) | exact na_obx hx | exact hav _ hx (by simp))
         replace hD4 := Nat.lt_of_lt_of_le hD4 c176.size
         replace hD5 := Nat.lt_of_lt_of_le hD5 c176.size
         replace hb6 := hb6.tr c176 (fun hx => by first | (have h1 := hoQ.inD _ hx; omega) | exact na_ob6 hx | exact hav _ hx (by simp))
         replace hb7 := hb7.tr c176 (fun hx => by first | (have h1 := hoQ.inD _ hx; omega) | exact na_ob7 hx | exact hav _ hx (by simp))
         replace hbP := hbP.tr c176 (fun hx => by first | (have h1 := hoQ.inD _ hx; omega) | exact na_ob hx | exact hav _ hx (by simp))
         replace hwQ := hwQ.trF flat_flat c176 (fun k hk hx => own_disj hoQ hwQ k hx hk)
         replace hb36 := hb36.tr c176 (fun hx => by first | (have h1 := hoQ.inD _ hx; omega) | exact na_ob8 hx | exact hav _ hx (by simp))
         replace HK := HK.chg c176 (by intro k hk hK; have h1 := hoQ.inD k hk; have h2 := lo0_ho k hk; simp only [NK] at hK; omega)
         replace hb170 := hb170.tr c176 (fun hx => by first | (have h1 := hoQ.inD _ hx; omega) | exact na_ob166 hx | exact hav _ hx (by simp))
         refine ⟨_, fun _ h => h, ⟨(Eq.trans hb170 o171.symm), ⟨(Eq.trans hb11 o160.symm), (Eq.trans hbx o161.symm), (Eq.trans hb6 o162.symm), (Eq.trans hb7 o163.symm), (Eq.trans hbP o164.symm), (Eq.trans hb36 o165.symm), trivial⟩⟩, ?_⟩
         refine sq_q rfl (fun W hT => r_nilCheck rfl) <| sq_q rfl (fun W hT => r_fieldAddr T.fld69_1 rfl) <| sq_store2 rfl T.size41 (v := .slice _ _ _) rfl rfl rfl hbP rfl (Nat.le_of_ble_eq_true rfl) q5 rfl ?_
         intro w178 c179 hb180; simp only [setVs, setV] at hb180
         clear hbP
         replace HC := HC.then1 c179 ge_b
         replace hmx := hmx.tr c179 q1
         replace ht := ht.tr c179 q1
         replace hM := hM.tr c179 (by intro k hk hx; have hlo := (hM.lt k hk).1; simp only [List.mem_singleton] at hx; subst hx; first | exact nm_b hk | omega | (cases hk; done))
         replace hb11 := hb11.tr1 c179 (Ne.symm ne_b_b5)
         replace hbx := hbx.tr1 c179 (Ne.symm ne_b_bx)
         replace hD4 := Nat.lt_of_lt_of_le hD4 c179.size
         replace hD5 := Nat.lt_of_lt_of_le hD5 c179.size
         replace hb6 := hb6.tr1 c179 (Ne.symm ne_b_b6)
         replace hb7 := hb7.tr1 c179 (Ne.symm ne_b_b7)
         replace ho175 := ho175.trF flat_flat c179 (by intro k hk hx; simp only [List.mem_cons, List.mem_nil_iff, or_false] at hx; obtain rfl := hx; first | exact na_ob hk | exact absurd (ho175.inD _ hk) (by simp))
         replace hwQ := hwQ.trF flat_flat c179 (by intro k hk hx; simp only [List.mem_cons, List.mem_nil_iff, or_false] at hx; obtain rfl := hx; first | exact na_wb hk | exact absurd (hwQ.inD _ hk) (by simp))
         replace HK := HK.chg c179 (by
          intro k hx hK
          obtain rfl := List.mem_singleton.1 hx
          rcases hK with h | h | (h) | h
          · exact absurd h ne_b_lp
          · exact absurd h ne_b_DD
          · exact absurd h ne_b_bx
          · exact absurd h (Nat.not_le.2 lt0_b))
         clear o160
         clear o161
         clear o162
         clear o163
         clear o164
         clear o165
         clear o171
         refine sq_nil <| block_n <| ⟨HK, ?_⟩
         have hzn : ∀ u, u ∈ pre ++ [yZ s Z] → u.2 = 0 := fun u hu => (List.mem_append.1 hu).elim (hz u) (fun h => by rw [List.mem_singleton.1 h]; exact he0)
         have hmo : mO s (pre ++ [yZ s Z]).length = Z.out ++ [(yZ s Z).1] := by rw [List.length_append]; show nxO s (itZ s pre.length _) = _; rw [← hZ]; rfl
         have hmw : mW s (pre ++ [yZ s Z]).length = Z.ws := by rw [List.length_append]; show nxW s (itZ s pre.length _) = _; rw [← hZ]; exact hpush
         have hmol : Z.out.length + [(yZ s Z).1].length = (mO s (pre ++ [yZ s Z]).length).length := by rw [hmo, List.length_append]
         rw [hmol] at hb180
         rw [← hmo] at ho175
         rw [← hmw] at hb180 hwQ
         exact ⟨A172, cap173, Aw2, capw2, hzn, HC, hmx, ht, hM, hb11, hbx, hD4, hD5, hb180, ho175, hwQ, hb6, hb7⟩
       ·try simp only [nm, ne_eq] at g98
        iterate 10 refine w_no 19 50 true ?_
        refine pF rfl rfl <| en <| x_cond (t := false) rfl (fun h2 => ?_) (fun h2 => ?_)
        · exact absurd h2 (by decide)
        have hpush : pushW Z.out Z.ws (yZ s Z).1 = Z.ws := by rw [hlz]; exact push_no (by rintro ⟨h7, h8, h9⟩; simp_all)
        refine x_skip <| then_n <| x_draw [(0, 0), (1, 0), (2, 0), (3, 0), (4, 0), (5, 0), (6, 1), (7, 1), (8, 0), (9, 0), (10, 2)] T.mixed rfl rfl rfl (fun W => W.heap[b5]? = Wc.heap[b5]? ∧ W.heap[bx]? = Wc.heap[bx]? ∧ W.heap[b6]? = Wc.heap[b6]? ∧ W.heap[b7]? = Wc.heap[b7]? ∧ W.heap[b]? = Wc.heap[b]? ∧ W.heap[b8]? = Wc.heap[b8]? ∧ True) ⟨rfl, rfl, rfl, rfl, rfl, rfl, trivial⟩ ?_
        have o183 := hb11
        have o184 := hbx
        have o185 := hb6
        have o186 := hb7
        have o187 := hbP
        have o188 := hb36
        have c182 := Chg.drew Wc
        generalize World.drew Wc = w181 at c182 ⊢
        replace HC := HC.then c182
        replace hmx := hmx.tr0 c182
        replace ht := ht.tr0 c182
        replace hM := hM.tr c182 (by simp)
        replace hb11 := hb11.tr0 c182
        replace hbx := hbx.tr0 c182
        replace hD4 := Nat.lt_of_lt_of_le hD4 c182.size
        replace hD5 := Nat.lt_of_lt_of_le hD5 c182.size
        replace hb6 := hb6.tr0 c182
        replace hb7 := hb7.tr0 c182
        replace hbP := hbP.tr0 c182
        replace hoQ := hoQ.tr0 c182
        replace hwQ := hwQ.tr0 c182
        replace hb36 := hb36.tr0 c182
        replace HK := HK.chg c182 (fun k hx => absurd hx (by simp))
        refine sq_q rfl (fun W hT => r_load1 (v := .pointer _) T.one66 rfl (Blk.cell (show Blk W b5 _ _ from hT.1.trans o183) rfl)) <| sq_q rfl (fun W hT => r_load1 (v := .pointer _) T.one66 rfl (Blk.cell (show Blk W b5 _ _ from hT.1.trans o183) rfl)) <| sq_q rfl (fun W hT => r_nilCheck rfl) <| sq_q rfl (fun W hT => r_fieldAddr T.fld69_1 rfl) <| sq_q rfl (fun W hT => r_load1 (v := .slice _ _ _) T.one41 rfl (Blk.cell (show Blk W b _ _ from hT.2.2.2.2.1.trans o187) rfl)) <| sq_q rfl (fun W hT => r_loadA (vs := [_, _, _, _, _]) T.agg51 rfl (Blk.cells (n := 5) (vs := [_, _, _, _, _]) (show Blk W b8 _ _ from hT.2.2.2.2.2.1.trans o188) rfl) rfl) <| sq_lit1 (ps := [(0, .tmp 88)]) (vs := [.int _ _, S _, .int _ _, S _, .bool _]) rfl T.lit41 (by decide) rfl q6 rfl ?_
        intro b189 w190 e191 c192 hb193
        have ge_b189 := gB e191 HC.size
        have geK_b189 : Wc.heap.size ≤ b189 := by rw [e191]; exact HK.1
        have ne_b5_b189 := nF e191 hb11.ne_size
        have ne_bx_b189 := nF e191 hbx.ne_size
        have ne_b6_b189 := nF e191 hb6.ne_size
        have ne_b7_b189 := nF e191 hb7.ne_size
        have ne_b_b189 := nF e191 hbP.ne_size
        have ne_b8_b189 := nF e191 hb36.ne_size
        have nm_b189 : b189 ∉ mb [] := fun hx => by have := (hM.lt _ hx).2; omega
        have na_ob189 : b189 ∉ ob A := hoQ.fresh (by rw [e191]; exact Nat.le_refl _)
        have na_wb189 : b189 ∉ ob Aw2 := hwQ.fresh (by rw [e191]; exact Nat.le_refl _)
        replace HC := HC.then c192
        replace hmx := hmx.tr0 c192
        replace ht := ht.tr0 c192
        replace hM := hM.tr c192 (by simp)
        replace hb11 := hb11.tr0 c192
        replace hbx := hbx.tr0 c192
        replace hD4 := Nat.lt_of_lt_of_le hD4 c192.size
        replace hD5 := Nat.lt_of_lt_of_le hD5 c192.size
        replace hb6 := hb6.tr0 c192
        replace hb7 := hb7.tr0 c192
        replace hbP := hbP.tr0 c192
        replace hoQ := hoQ.tr0 c192
        replace hwQ := hwQ.tr0 c192
        replace hb36 := hb36.tr0 c192
        replace HK := HK.chg c192 (fun k hx => absurd hx (by simp))
        clear e191
        refine ext_T (b := b189) ⟨(Eq.trans hb11 o183.symm), (Eq.trans hbx o184.symm), (Eq.trans hb6 o185.symm), (Eq.trans hb7 o186.symm), (Eq.trans hbP o187.symm), (Eq.trans hb36 o188.symm), trivial⟩ ?_
        have o194 := hb193
        have hszA := HC.size
        refine sq_append1 (c := tok5E) (D2 := fun _ => False) (xs := Z.out) (ys := [(yZ s Z).1]) rfl T.slice41 rfl rfl hoQ rfl rfl (one_elem rfl (hb193.cells (n := 5) rfl)) (fun _ _ h => h.elim) (fun k hk => (have h9 := HK.1; have hk9 := hk; ⟨by have := HC.size; omega, by have := hbP.lt; omega, by have := hbx.lt; omega, by have := hb11.lt; omega, by have := hb6.lt; omega, by have := hb7.lt; omega, by have := hD5; omega, by have := hD4; omega⟩)) q7 q7 ?_
        intro A195 cap196 w197 ho198 c199 hg200
        replace HC := HC.trans c199 (fun k hk => .inr ((hoQ.inD k hk).1))
        replace hmx := hmx.tr c199 (by intro hx; have h1 := (hoQ.inD _ hx).1; omega)
        replace ht := ht.tr c199 (fun hx => by first | (have h1 := (hoQ.inD _ hx).1; omega) | (have h1 : w.heap.size ≤ 0 := hoQ.inD _ hx; omega))
        replace hM := hM.tr c199 (fun k hk => by cases hk)
        replace hb11 := hb11.tr c199 (fun hx => by first | (have h1 := hoQ.inD _ hx; omega) | exact na_ob5 hx | exact hav _ hx (by simp))
        replace hbx := hbx.tr c199 (fun hx => by first | (have h1 := hoQ.inD _ hx; omega) | exact na_obx hx | exact hav _ hx (by simp))
        replace hD4 := Nat.lt_of_lt_of_le hD4 c199.size
        replace hD5 := Nat.lt_of_lt_of_le hD5 c199.size
        replace hb6 := hb6.tr c199 (fun hx => by first | (have h1 := hoQ.inD _ hx; omega) | exact na_ob6 hx | exact hav _ hx (by simp))
        replace hb7 := hb7.tr c199 (fun hx => by first | (have h1 := hoQ.inD _ hx; omega) | exact na_ob7 hx | exact hav _ hx (by simp))
        replace hbP := hbP.tr c199 (fun hx => by first | (have h1 := hoQ.inD _ hx; omega) | exact na_ob hx | exact hav _ hx (by simp))
        replace hwQ := hwQ.trF flat_flat c199 (fun k hk hx => own_disj hoQ hwQ k hx hk)
        replace hb36 := hb36.tr c199 (fun hx => by first | (have h1 := hoQ.inD _ hx; omega) | exact na_ob8 hx | exact hav _ hx (by simp))
        replace HK := HK.chg c199 (by intro k hk hK; have h1 := hoQ.inD k hk; have h2 := lo0_ho k hk; simp only [NK] at hK; omega)
        replace hb193 := hb193.tr c199 (fun hx => by first | (have h1 := hoQ.inD _ hx; omega) | exact na_ob189 hx | exact hav _ hx (by simp))
        refine ⟨_, fun _ h => h, ⟨(Eq.trans hb193 o194.symm), ⟨(Eq.trans hb11 o183.symm), (Eq.trans hbx o184.symm), (Eq.trans hb6 o185.symm), (Eq.trans hb7 o186.symm), (Eq.trans hbP o187.symm), (Eq.trans hb36 o188.symm), trivial⟩⟩, ?_⟩
        refine sq_q rfl (fun W hT => r_nilCheck rfl) <| sq_q rfl (fun W hT => r_fieldAddr T.fld69_1 rfl) <| sq_store2 rfl T.size41 (v := .slice _ _ _) rfl rfl rfl hbP rfl (Nat.le_of_ble_eq_true rfl) q5 rfl ?_
        intro w201 c202 hb203; simp only [setVs, setV] at hb203
        clear hbP
        replace HC := HC.then1 c202 ge_b
        replace hmx := hmx.tr c202 q1
        replace ht := ht.tr c202 q1
        replace hM := hM.tr c202 (by intro k hk hx; have hlo := (hM.lt k hk).1; simp only [List.mem_singleton] at hx; subst hx; first | exact nm_b hk | omega | (cases hk; done))
        replace hb11 := hb11.tr1 c202 (Ne.symm ne_b_b5)
        replace hbx := hbx.tr1 c202 (Ne.symm ne_b_bx)
        replace hD4 := Nat.lt_of_lt_of_le hD4 c202.size
        replace hD5 := Nat.lt_of_lt_of_le hD5 c202.size
        replace hb6 := hb6.tr1 c202 (Ne.symm ne_b_b6)
        replace hb7 := hb7.tr1 c202 (Ne.symm ne_b_b7)
        replace ho198 := ho198.trF flat_flat c202 (by intro k hk hx; simp only [List.mem_cons, List.mem_nil_iff, or_false] at hx; obtain rfl := hx; first | exact na_ob hk | exact absurd (ho198.inD _ hk) (by simp))
        replace hwQ := hwQ.trF flat_flat c202 (by intro k hk hx; simp only [List.mem_cons, List.mem_nil_iff, or_false] at hx; obtain rfl := hx; first | exact na_wb hk | exact absurd (hwQ.inD _ hk) (by simp))
        replace HK := HK.chg c202 (by
         intro k hx hK
         obtain rfl := List.mem_singleton.1 hx
         rcases hK with h | h | (h) | h
         · exact absurd h ne_b_lp
         · exact absurd h ne_b_DD
         · exact absurd h ne_b_bx
         · exact absurd h (Nat.not_le.2 lt0_b))
        clear o183
        clear o184
        clear o185
        clear o186
        clear o187
        clear o188
        clear o194
        refine sq_nil <| block_n <| ⟨HK, ?_⟩
        have hzn : ∀ u, u ∈ pre ++ [yZ s Z] → u.2 = 0 := fun u hu => (List.mem_append.1 hu).elim (hz u) (fun h => by rw [List.mem_singleton.1 h]; exact he0)
        have hmo : mO s (pre ++ [yZ s Z]).length = Z.out ++ [(yZ s Z).1] := by rw [List.length_append]; show nxO s (itZ s pre.length _) = _; rw [← hZ]; rfl
        have hmw : mW s (pre ++ [yZ s Z]).length = Z.ws := by rw [List.length_append]; show nxW s (itZ s pre.length _) = _; rw [← hZ]; exact hpush
        have hmol : Z.out.length + [(yZ s Z).1].length = (mO s (pre ++ [yZ s Z]).length).length := by rw [hmo, List.length_append]
        rw [hmol] at hb203
        rw [← hmo] at ho198
        rw [← hmw] at hb203 hwQ
        exact ⟨A195, cap196, Aw2, capw2, hzn, HC, hmx, ht, hM, hb11, hbx, hD4, hD5, hb203, ho198, hwQ, hb6, hb7⟩
      ·try simp only [nm, ne_eq] at g92
       exfalso; omega
     ·try simp only [nm, ne_eq] at g91
      refine w_no 3 34 true <| w_no 3 34 true <| pF rfl rfl <| mB rfl ?_
      iterate 10 refine w_no 7 38 true ?_
      refine pF rfl rfl <| mB rfl ?_
      iterate 10 refine w_no 19 50 true ?_
      refine pF rfl rfl <| en <| x_cond (t := false) rfl (fun h2 => ?_) (fun h2 => ?_)
      · exact absurd h2 (by decide)
      have hpush : pushW Z.out Z.ws (yZ s Z).1 = Z.ws := by rw [hlz]; exact push_no (by rintro ⟨h7, h8, h9⟩; simp_all)
      refine x_skip <| then_n <| x_draw [(0, 0), (1, 0), (2, 0), (3, 0), (4, 0), (5, 0), (6, 1), (7, 1), (8, 0), (9, 0), (10, 2)] T.mixed rfl rfl rfl (fun W => W.heap[b5]? = Wc.heap[b5]? ∧ W.heap[bx]? = Wc.heap[bx]? ∧ W.heap[b6]? = Wc.heap[b6]? ∧ W.heap[b7]? = Wc.heap[b7]? ∧ W.heap[b]? = Wc.heap[b]? ∧ W.heap[b8]? = Wc.heap[b8]? ∧ True) ⟨rfl, rfl, rfl, rfl, rfl, rfl, trivial⟩ ?_
      have o206 := hb11
      have o207 := hbx
      have o208 := hb6
      have o209 := hb7
      have o210 := hbP
      have o211 := hb36
      have c205 := Chg.drew Wc
      generalize World.drew Wc = w204 at c205 ⊢
      replace HC := HC.then c205
      replace hmx := hmx.tr0 c205
      replace ht := ht.tr0 c205
      replace hM := hM.tr c205 (by simp)
      replace hb11 := hb11.tr0 c205
      replace hbx := hbx.tr0 c205
      replace hD4 := Nat.lt_of_lt_of_le hD4 c205.size
      replace hD5 := Nat.lt_of_lt_of_le hD5 c205.size
      replace hb6 := hb6.tr0 c205
      replace hb7 := hb7.tr0 c205
      replace hbP := hbP.tr0 c205
      replace hoQ := hoQ.tr0 c205
      replace hwQ := hwQ.tr0 c205
      replace hb36 := hb36.tr0 c205
      replace HK := HK.chg c205 (fun k hx => absurd hx (by simp))
      refine sq_q rfl (fun W hT => r_load1 (v := .pointer _) T.one66 rfl (Blk.cell (show Blk W b5 _ _ from hT.1.trans o206) rfl)) <| sq_q rfl (fun W hT => r_load1 (v := .pointer _) T.one66 rfl (Blk.cell (show Blk W b5 _ _ from hT.1.trans o206) rfl)) <| sq_q rfl (fun W hT => r_nilCheck rfl) <| sq_q rfl (fun W hT => r_fieldAddr T.fld69_1 rfl) <| sq_q rfl (fun W hT => r_load1 (v := .slice _ _ _) T.one41 rfl (Blk.cell (show Blk W b _ _ from hT.2.2.2.2.1.trans o210) rfl)) <| sq_q rfl (fun W hT => r_loadA (vs := [_, _, _, _, _]) T.agg51 rfl (Blk.cells (n := 5) (vs := [_, _, _, _, _]) (show Blk W b8 _ _ from hT.2.2.2.2.2.1.trans o211) rfl) rfl) <| sq_lit1 (ps := [(0, .tmp 88)]) (vs := [.int _ _, S _, .int _ _, S _, .bool _]) rfl T.lit41 (by decide) rfl q6 rfl ?_
      intro b212 w213 e214 c215 hb216
      have ge_b212 := gB e214 HC.size
      have geK_b212 : Wc.heap.size ≤ b212 := by rw [e214]; exact HK.1
      have ne_b5_b212 := nF e214 hb11.ne_size
      have ne_bx_b212 := nF e214 hbx.ne_size
      have ne_b6_b212 := nF e214 hb6.ne_size
      have ne_b7_b212 := nF e214 hb7.ne_size
      have ne_b_b212 := nF e214 hbP.ne_size
      have ne_b8_b212 := nF e214 hb36.ne_size
      have nm_b212 : b212 ∉ mb [] := fun hx => by have := (hM.lt _ hx).2; omega
      have na_ob212 : b212 ∉ ob A := hoQ.fresh (by rw [e214]; exact Nat.le_refl _)
      have na_wb212 : b212 ∉ ob Aw2 := hwQ.fresh (by rw [e214]; exact Nat.le_refl _)
      replace HC := HC.then c215
      replace hmx := hmx.tr0 c215
      replace ht := ht.tr0 c215
      replace hM := hM.tr c215 (by simp)
      replace hb11 := hb11.tr0 c215
      replace hbx := hbx.tr0 c215
      replace hD4 := Nat.lt_of_lt_of_le hD4 c215.size
      replace hD5 := Nat.lt_of_lt_of_le hD5 c215.size
      replace hb6 := hb6.tr0 c215
      replace hb7 := hb7.tr0 c215
      replace hbP := hbP.tr0 c215
      replace hoQ := hoQ.tr0 c215
      replace hwQ := hwQ.tr0 c215
      replace hb36 := hb36.tr0 c215
      replace HK := HK.chg c215 (fun k hx => absurd hx (by simp))
      clear e214
      refine ext_T (b := b212) ⟨(Eq.trans hb11 o206.symm), (Eq.trans hbx o207.symm), (Eq.trans hb6 o208.symm), (Eq.trans hb7 o209.symm), (Eq.trans hbP o210.symm), (Eq.trans hb36 o211.symm), trivial⟩ ?_
      have o217 := hb216
      have hszA := HC.size
      refine sq_append1 (c := tok5E) (D2 := fun _ => False) (xs := Z.out) (ys := [(yZ s Z).1]) rfl T.slice41 rfl rfl hoQ rfl rfl (one_elem rfl (hb216.cells (n := 5) rfl)) (fun _ _ h => h.elim) (fun k hk => (have h9 := HK.1; have hk9 := hk; ⟨by have := HC.size; omega, by have := hbP.lt; omega, by have := hbx.lt; omega, by have := hb11.lt; omega, by have := hb6.lt; omega, by have := hb7.lt; omega, by have := hD5; omega, by have := hD4; omega⟩)) q7 q7 ?_
      intro A218 cap219 w220 ho221 c222 hg223
      replace HC := HC.trans c222 (fun k hk => .inr ((hoQ.inD k hk).1))
      replace hmx := hmx.tr c222 (by intro hx; have h1 := (hoQ.inD _ hx).1; omega)
      replace ht := ht.tr c222 (fun hx => by first | (have h1 := (hoQ.inD _ hx).1; omega) | (have h1 : w.heap.size ≤ 0 := hoQ.inD _ hx; omega))
      replace hM := hM.tr c222 (fun k hk => by cases hk)
      replace hb11 := hb11.tr c222 (fun hx => by first | (have h1 := hoQ.inD _ hx; omega) | exact na_ob5 hx | exact hav _ hx (by simp))
      replace hbx := hbx.tr c222 (fun hx => by first | (have h1 := hoQ.inD _ hx; omega) | exact na_obx hx | exact hav _ hx (by simp))
      replace hD4 := Nat.lt_of_lt_of_le hD4 c222.size
      replace hD5 := Nat.lt_of_lt_of_le hD5 c222.size
      replace hb6 := hb6.tr c222 (fun hx => by first | (have h1 := hoQ.inD _ hx; omega) | exact na_ob6 hx | exact hav _ hx (by simp))
      replace hb7 := hb7.tr c222 (fun hx => by first | (have h1 := hoQ.inD _ hx; omega) | exact na_ob7 hx | exact hav _ hx (by simp))
      replace hbP := hbP.tr c222 (fun hx => by first | (have h1 := hoQ.inD _ hx; omega) | exact na_ob hx | exact hav _ hx (by simp))
      replace hwQ := hwQ.trF flat_flat c222 (fun k hk hx => own_disj hoQ hwQ k hx hk)
      replace hb36 := hb36.tr c222 (fun hx => by first | (have h1 := hoQ.inD _ hx; omega) | exact na_ob8 hx | exact hav _ hx (by simp))
      replace HK := HK.chg c222 (by intro k hk hK; have h1 := hoQ.inD k hk; have h2 := lo0_ho k hk; simp only [NK] at hK; omega)
      replace hb216 := hb216.tr c222 (fun hx => by first | (have h1 := hoQ.inD _ hx; omega) | exact na_ob212 hx | exact hav _ hx (by simp))
      refine ⟨_, fun _ h => h, ⟨(Eq.trans hb216 o217.symm), ⟨(Eq.trans hb11 o206.symm), (Eq.trans hbx o207.symm), (Eq.trans hb6 o208.symm), (Eq.trans hb7 o209.symm), (Eq.trans hbP o210.symm), (Eq.trans hb36 o211.symm), trivial⟩⟩, ?_⟩
      refine sq_q rfl (fun W hT => r_nilCheck rfl) <| sq_q rfl (fun W hT => r_fieldAddr T.fld69_1 rfl) <| sq_store2 rfl T.size41 (v := .slice _ _ _) rfl rfl rfl hbP rfl (Nat.le_of_ble_eq_true rfl) q5 rfl ?_
      intro w224 c225 hb226; simp only [setVs, setV] at hb226
      clear hbP
      replace HC := HC.then1 c225 ge_b
      replace hmx := hmx.tr c225 q1
      replace ht := ht.tr c225 q1
      replace hM := hM.tr c225 (by intro k hk hx; have hlo := (hM.lt k hk).1; simp only [List.mem_singleton] at hx; subst hx; first | exact nm_b hk | omega | (cases hk; done))
      replace hb11 := hb11.tr1 c225 (Ne.symm ne_b_b5)
      replace hbx := hbx.tr1 c225 (Ne.symm ne_b_bx)
      replace hD4 := Nat.lt_of_lt_of_le hD4 c225.size
      replace hD5 := Nat.lt_of_lt_of_le hD5 c225.size
      replace hb6 := hb6.tr1 c225 (Ne.symm ne_b_b6)
      replace hb7 := hb7.tr1 c225 (Ne.symm ne_b_b7)
      replace ho221 := ho221.trF flat_flat c225 (by intro k hk hx; simp only [List.mem_cons, List.mem_nil_iff, or_false] at hx; obtain rfl := hx; first | exact na_ob hk | exact absurd (ho221.inD _ hk) (by simp))
      replace hwQ := hwQ.trF flat_flat c225 (by intro k hk hx; simp only [List.mem_cons, List.mem_nil_iff, or_false] at hx; obtain rfl := hx; first | exact na_wb hk | exact absurd (hwQ.inD _ hk) (by simp))
      replace HK := HK.chg c225 (by
       intro k hx hK
       obtain rfl := List.mem_singleton.1 hx
       rcases hK with h | h | (h) | h
       · exact absurd h ne_b_lp
       · exact absurd h ne_b_DD
       · exact absurd h ne_b_bx
       · exact absurd h (Nat.not_le.2 lt0_b))
      clear o206
      clear o207
      clear o208
      clear o209
      clear o210
      clear o211
      clear o217
      refine sq_nil <| block_n <| ⟨HK, ?_⟩
      have hzn : ∀ u, u ∈ pre ++ [yZ s Z] → u.2 = 0 := fun u hu => (List.mem_append.1 hu).elim (hz u) (fun h => by rw [List.mem_singleton.1 h]; exact he0)
      have hmo : mO s (pre ++ [yZ s Z]).length = Z.out ++ [(yZ s Z).1] := by rw [List.length_append]; show nxO s (itZ s pre.length _) = _; rw [← hZ]; rfl
      have hmw : mW s (pre ++ [yZ s Z]).length = Z.ws := by rw [List.length_append]; show nxW s (itZ s pre.length _) = _; rw [← hZ]; exact hpush
      have hmol : Z.out.length + [(yZ s Z).1].length = (mO s (pre ++ [yZ s Z]).length).length := by rw [hmo, List.length_append]
      rw [hmol] at hb226
      rw [← hmo] at ho221
      rw [← hmw] at hb226 hwQ
      exact ⟨A218, cap219, Aw2, capw2, hzn, HC, hmx, ht, hM, hb11, hbx, hD4, hD5, hb226, ho221, hwQ, hb6, hb7⟩
  ·rintro W9 ⟨A, cap, Aw, capw, hz, HC, hmx, ht, hM, hb11, hbx, hD4, hD5, hb, ho, hw, hb6, hb7⟩ hDef
   replace hM := hM.cons (by omega) hDef nm_DD
   have nm_b5 : b5 ∉ mb (mk DD :: []) := fun hx => (List.mem_cons.1 (show b5 ∈ DD :: mb [] from hx)).elim (fun h => ne_b5_DD h) (fun h => by cases h)
   have nm_bx : bx ∉ mb (mk DD :: []) := fun hx => (List.mem_cons.1 (show bx ∈ DD :: mb [] from hx)).elim (fun h => ne_bx_DD h) (fun h => by cases h)
   have nm_b : b ∉ mb (mk DD :: []) := fun hx => (List.mem_cons.1 (show b ∈ DD :: mb [] from hx)).elim (fun h => ne_b_DD h) (fun h => by cases h)
   have nm_b6 : b6 ∉ mb (mk DD :: []) := fun hx => (List.mem_cons.1 (show b6 ∈ DD :: mb [] from hx)).elim (fun h => ne_b6_DD h) (fun h => by cases h)
   have nm_b7 : b7 ∉ mb (mk DD :: []) := fun hx => (List.mem_cons.1 (show b7 ∈ DD :: mb [] from hx)).elim (fun h => ne_b7_DD h) (fun h => by cases h)
   obtain ⟨n, hn⟩ : ∃ n, xs.length = n + 1 := ⟨xs.length - 1, by omega⟩
   rw [hn] at hb ho hw
   obtain ⟨hxn, hinv, hend⟩ := hyat n (by omega)
   have hee := hend.2 hn.symm
   obtain ⟨Z, hZ⟩ : ∃ Z, Z = itZ s n ⟨blankV s, [], []⟩ := ⟨_, rfl⟩
   replace hb : Blk W9 b [S s, .slice A (nxO s Z).length cap, .slice Aw (nxW s Z).length capw] 69 := by rw [hZ]; exact hb
   replace ho : Own tok5E 51 W9 (fun k => w.heap.size ≤ k ∧ k ≠ b ∧ k ≠ bx ∧ k ≠ b5 ∧ k ≠ b6 ∧ k ≠ b7 ∧ k ≠ lp ∧ k ≠ DD) A cap (nxO s Z) := by rw [hZ]; exact ho
   replace hw : Own wtE 75 W9 (fun k => w.heap.size ≤ k ∧ k ≠ b ∧ k ≠ bx ∧ k ≠ b5 ∧ k ≠ b6 ∧ k ≠ b7 ∧ k ≠ lp ∧ k ≠ DD) Aw capw (nxW s Z) := by rw [hZ]; exact hw
   rw [← hZ] at hxn hinv hee
   have he0 : (tZ s Z).2.2 = 0 := hz _ (List.mem_of_getElem? hxn)
   obtain ⟨m3, m4⟩ := inv_last hinv hee he0
   have htv : tokensV s = ((linesV (nxO s Z) (nxW s Z) (s.drop s.length)).1, 0, 0) := by rw [tokensV_end hs2 (n := n) (by rw [hX]; exact hn.symm), ← hZ, List.drop_length]; exact if_neg (by rw [he0]; simp)
   refine block_n <| then_n <| x_seq <| sr rfl <| lI T.one31 rfl (hb7.cell rfl) <| Wp rfl <| st_neq rfl rfl <| en <| x_cond rfl (fun h3 => ?_) (fun h3 => ?_)
   ·try simp only [nm, ne_eq] at h3
    first | exact absurd rfl h3 | exact absurd trivial h3 | (simp at h3; done)
   ·try simp only [nm, ne_eq] at h3
    refine x_skip <| then_n <| sr rfl <| Wp rfl <| st_load1 (v := .pointer _) T.one66 rfl (hb11.cell rfl) <| mS rfl <| Wp rfl <| st_slen (ct := #[9]) T.u9 rfl <| Wp rfl <| st_call (ags := [_, _]) rfl rfl T.ent28 rfl (lines_spec s s.length _ hb ho hw (fun k h => ⟨h.2.1, by have := h.1; omega⟩) (by omega) m3 (Nat.le_refl _) hs2 m4 hmx) ?_
    rintro _ w227 ⟨rfl, hb3, ho3, _, c228⟩
    have hiZ := ho.inD
    replace HC := HC.trans c228 (fun k hk => .inr ((List.mem_cons.1 hk).elim (fun h => by rw [h]; exact ge_b) (fun h => (hiZ _ h).1)))
    replace hM := hM.tr c228 (fun k hk => fun hx => by first | (rcases List.mem_cons.1 hx with h | h; (exact nm_b (h ▸ hk)); (have h9 := hiZ _ h; simp only [mb_cons, mb, List.mem_cons, List.mem_nil_iff, or_false] at hk; exact h9.2.2.2.2.2.2.2 hk)) | cases hk)
    replace hb11 := hb11.tr c228 (fun hx => (List.mem_cons.1 hx).elim (fun h => absurd h (Ne.symm ne_b_b5)) (fun h => (hiZ _ h).2.2.2.1 rfl))
    refine en <| sr rfl <| Wp rfl <| st_load1 (v := .pointer _) T.one66 rfl (hb11.cell rfl) <| nc rfl <| fa T.fld69_1 rfl <| lL T.one41 rfl (hb3.cell rfl) <| aL rfl <| aI rfl <| aI rfl <| en <| x_ret <| scope_r <| retM_marks hM ?_
    intro w99 c99
    have hlm := hM.lt
    replace HC := HC.trans c99 (fun k hk => .inr (by have := (hlm k hk).1; omega))
    replace ho3 := ho3.trF flat_flat c99 (by intro k hk hx; have hD := ho3.inD k hk; simp only [mb_cons, mb, List.mem_cons, List.mem_nil_iff, or_false] at hx; first | (obtain rfl := hx; exact absurd hD (by simp)) | (rcases hx with hx | hx <;> (obtain rfl := hx; exact absurd hD (by simp))))
    refine ret_tmp3 (v := .slice _ _ _) (v2 := .int _ _) (v3 := .int _ _) rfl rfl rfl rfl ?_
    rw [htv]
    exact ⟨A, cap, by rw [linesV_len], ho3.le.1, (ho3.sl).mono (fun k _ h => h.1), HC⟩
  ·intro c pre W9 hX hDef
   obtain ⟨rfl, ⟨zz, ⟨hzz, hzn⟩, HC, hmx, ht, hM, hb11, hbx, hD4, hD5, hq6, hq7⟩⟩ := hX
   replace hM := hM.cons (by omega) hDef nm_DD
   have nm_b5 : b5 ∉ mb (mk DD :: []) := fun hx => (List.mem_cons.1 (show b5 ∈ DD :: mb [] from hx)).elim (fun h => ne_b5_DD h) (fun h => by cases h)
   have nm_bx : bx ∉ mb (mk DD :: []) := fun hx => (List.mem_cons.1 (show bx ∈ DD :: mb [] from hx)).elim (fun h => ne_bx_DD h) (fun h => by cases h)
   have nm_b6 : b6 ∉ mb (mk DD :: []) := fun hx => (List.mem_cons.1 (show b6 ∈ DD :: mb [] from hx)).elim (fun h => ne_b6_DD h) (fun h => by cases h)
   have nm_b7 : b7 ∉ mb (mk DD :: []) := fun hx => (List.mem_cons.1 (show b7 ∈ DD :: mb [] from hx)).elim (fun h => ne_b7_DD h) (fun h => by cases h)
   refine x_exit <| block_x <| then_n <| x_seq <| sr rfl <| lI T.one31 rfl (hq7.cell rfl) <| Wp rfl <| st_neq rfl rfl <| en <| x_cond rfl (fun h3 => ?_) (fun h3 => ?_)
   ·try simp only [nm, ne_eq] at h3
    refine x_seq <| x_draw [(0, 0), (1, 0), (2, 0), (3, 0), (4, 0)] T.mixed rfl rfl rfl (fun W => W.heap[b5]? = W9.heap[b5]? ∧ W.heap[bx]? = W9.heap[bx]? ∧ W.heap[b6]? = W9.heap[b6]? ∧ W.heap[b7]? = W9.heap[b7]? ∧ True) ⟨rfl, rfl, rfl, rfl, trivial⟩ ?_
    have o231 := hb11
    have o232 := hbx
    have o233 := hq6
    have o234 := hq7
    have c230 := Chg.drew W9
    generalize World.drew W9 = w229 at c230 ⊢
    replace HC := HC.then c230
    replace hM := hM.tr c230 (by simp)
    refine sq_q rfl (fun W hT => r_load1 (v := .int _ _) T.one3 rfl (Blk.cell (show Blk W b6 _ _ from hT.2.2.1.trans o233) rfl)) <| sq_q rfl (fun W hT => r_load1 (v := .int _ _) T.one31 rfl (Blk.cell (show Blk W b7 _ _ from hT.2.2.2.1.trans o234) rfl)) <| sq_q rfl (fun W hT => r_assign (v := .slice _ _ _) rfl) <| sq_q rfl (fun W hT => r_assign (v := .int _ _) rfl) <| sq_q rfl (fun W hT => r_assign (v := .int _ _) rfl) ?_
    clear o231
    clear o232
    clear o233
    clear o234
    refine sq_nil <| then_n <| x_ret <| then_r <| scope_r <| retM_marks hM ?_
    intro w99 c99
    have hlm := hM.lt
    replace HC := HC.trans c99 (fun k hk => .inr (by have := (hlm k hk).1; omega))
    refine ret_tmp3 (v := .slice _ _ _) (v2 := .int _ _) (v3 := .int _ _) rfl rfl rfl rfl ?_
    rw [hzz]
    exact ⟨none, 0, rfl, Nat.le_refl _, .nil, HC⟩
   ·try simp only [nm, ne_eq] at h3
    exact absurd (by first | exact h3 | simpa using h3) hzn

end Go.Proofs.YtghjmiggobpmoaaGreatDoor.K
