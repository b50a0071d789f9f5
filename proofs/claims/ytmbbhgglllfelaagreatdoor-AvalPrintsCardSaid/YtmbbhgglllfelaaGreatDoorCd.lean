/- Reading expressions: terms; the levels. -/
import Derived.Test.YtmbbhgglllfelaaGreatDoorCc
import Derived.Test.YtmbbhgglllfelaaGreatDoorKitQ
set_option linter.unusedVariables false
set_option linter.unusedSimpArgs false
set_option autoImplicit false
set_option maxRecDepth 20000
namespace Go.Proofs.YtmbbhgglllfelaaGreatDoor.K
open Go Go.Proofs Go.RowKit

theorem un_len {o : Bytes} (h : o ∈ unL) : o.length ≤ 1 := by revert o; decide

theorem trm_step (f : Nat) (ih : RI f) : RC 89 .trm [] (f + 1) := by
 intro D Dt w b ts out d pl r hp hpr
 obtain ⟨hfr0, hDb, hDt, ⟨At, capt, Ao, capo, hb, hs, hct, ho⟩, hwf, hd, hlen, ht, hone1, hone2⟩ := hp
 obtain ⟨x, tl, rfl⟩ := hwf.ne
 have ht1 := ht.lt
 have hDtb : ¬ Dt b := fun h => (hDt b h).2 rfl
 have hDtn : ∀ k, w.heap.size ≤ k → ¬ Dt k := fun k hk h => (hDt k h).1 (hfr0 k hk)
 have hll : out.length + (tl.length + 1) ≤ 1000000000 := hlen
 rw [pP] at hpr
 refine callR_of_wp (args := [_]) Tryz.func89 rfl (Nat.le_of_ble_eq_true rfl) ?_
 have HC : ChgP (fun k => D k ∨ k = b) w w := .refl _
 refine sr rfl <| aI rfl <| en <| sr rfl <| mP rfl <| nc rfl <| fa T.fld68_0 rfl <| lL T.one52 rfl (hb.cell rfl) ?_
 obtain ⟨lb5, _, vs4, hA1, hR3, hC2⟩ := hs.at (i := 0) (x := x) (rfl)
 obtain rfl : vs4 = tokC x.1 x.2 := hR3
 refine Wp rfl <| st_indexAddr T.u52 T.size60 (congrArg (fun z => Value.slice z _ _) hA1) rfl (by decide) (by simp) <| Wp rfl <| st_loadA (vs := [_, _, _, _]) T.agg60 rfl hC2 rfl <| Wp rfl <| st_alloc T.zero60 ?_
 intro b3 w6 e7 c8 hb9
 have ge_b3 : w.heap.size ≤ b3 := by rw [e7]; exact HC.size
 have ne_b_b3 : b ≠ b3 := by rw [e7]; exact hb.ne_size
 obtain ⟨D10, sD10, nD10, mD10⟩ := dom_new D b3
 replace ho := ho.mono (D' := D10) (fun k hk hD => mD10 k hD (by omega))
 have ndD10_b : ¬ D10 b := fun h => hDb (sD10 _ h)
 have subD10 : ∀ k, D10 k → D k := fun k h => sD10 k h
 have frD10 : ∀ k, b3 + 1 ≤ k → D10 k := fun k hk => mD10 k (hfr0 k (by omega)) (by omega)
 replace HC := HC.chg0 c8
 replace hb := hb.tr0 c8
 replace hs := hs.tr0 c8
 replace ho := ho.tr0 c8
 replace ht := ht.tr0 c8
 clear e7
 refine Wp rfl <| st_store (v := .agg ⟨[.int _ _, .int _ _, S _, .int _ _]⟩) T.size60 rfl rfl rfl hb9 rfl (Nat.le_of_ble_eq_true rfl) (by simp [Value.oneCell', S]) rfl ?_
 intro w11 c12 hb13; simp only [setVs, setV] at hb13
 clear hb9
 replace HC := HC.cN c12 ge_b3
 replace hb := hb.tr1 c12 ne_b_b3
 replace hs := hs.tN c12 (fun h => (hDt _ h).1 (hfr0 _ ge_b3))
 replace ho := ho.tN c12 nD10
 replace ht := ht.tr c12 (by intro hx; have hlt := ht1; simp only [List.mem_cons, List.mem_nil_iff, or_false] at hx; first | exact hone2 hx | omega)
 refine en <| x_seq <| x_block <| sr rfl <| fa T.fld60_0 rfl <| lI T.one3 rfl (hb13.cell rfl) <| Wp rfl <| st_eql rfl rfl <| aB rfl <| en <| x_cond rfl (fun h0 => ?_) (fun h0 => ?_)
 ·try simp only [nm, ne_eq] at h0
  have hwft : WfT tl := hwf.tl (by omega)
  rw [if_pos (show (hdT (x :: tl)).1.1 = 1 from h0)] at hpr
  obtain rfl := (Option.some.inj hpr).symm
  refine sr rfl <| mP rfl <| Wp rfl <| st_call (ags := [_, _]) rfl rfl T.ent45 rfl (skip_spec (ts := x :: tl) 1 (by simp) hb hs hct hDtb) ?_
  rintro _ w14 ⟨rfl, ⟨At2, capt2, hb2, hs2, hct2⟩, c15⟩
  simp only [List.drop_succ_cons, List.drop_zero] at hb2
  replace hs2 : Sl tkE _ Dt At2 (tl) := hs2
  replace hct2 : (tl).length ≤ capt2 := hct2
  replace HC := HC.cB c15
  replace ho := ho.tN c15 ndD10_b
  replace ht := ht.tr c15 (by intro hx; have hlt := ht1; simp only [List.mem_cons, List.mem_nil_iff, or_false] at hx; first | exact hone2 hx | omega)
  replace hb13 := hb13.tr1 c15 (Ne.symm ne_b_b3)
  refine en <| sr rfl <| mP rfl <| fa T.fld60_1 rfl <| lI T.one2 rfl (hb13.cell rfl) <| Wp rfl <| st_bld (ps := [(0, .const (S [35])), (1, .tmp 21)]) (vs := [S _, .int _ _, S _, .slice _ _ _]) T.bld38 rfl <| Wp rfl <| st_call (ags := [_, _]) rfl rfl T.ent46 rfl (put_spec (D := D10) (x := ⟨[35], x.1.2.1, [], []⟩) (fun k hk => frD10 k (by have h1 := hb13.lt; omega)) ndD10_b hb2 ho (kid_none) (by omega)) ?_
  rintro _ w16 ⟨rfl, ⟨Aop17, capop17, hbp17, hop17⟩, c17⟩
  replace HC := HC.chg c17 (fun k hk => .inl ((List.mem_cons.1 hk).elim .inr (fun h => .inl (subD10 k (ho.inD k h)))))
  replace ht := ht.tr c17 (fun hx => (List.mem_cons.1 hx).elim hone2 (fun h => hone1 (subD10 0 (ho.inD 0 h))))
  replace hb13 := hb13.tr c17 (fun hx => (List.mem_cons.1 hx).elim (fun h => absurd h.symm ne_b_b3) (fun h => nD10 (ho.inD _ h)))
  replace hs2 := hs2.tr c17 (fun k hk hD => (List.mem_cons.1 hk).elim (hDt k hD).2 (fun h => (hDt k hD).1 (subD10 k (ho.inD k h))))
  refine aI rfl <| en <| x_ret <| block_r <| then_r <| ret_tmp (v := .int _ _) rfl rfl ?_
  exact ⟨rfl, ⟨_, _, _, _, hbp17, hs2, hct2, (hop17.mono (fun k _ h => subD10 k h))⟩, hwft, ⟨by simp only [List.length_append, List.length_cons, List.length_nil, List.drop_succ_cons, List.drop_zero] at *; omega, by simp only [List.length_append, List.length_cons, List.length_nil, List.drop_succ_cons, List.drop_zero] at *; omega⟩, HC⟩
 ·try simp only [nm, ne_eq] at h0
  rw [if_neg (show ¬ (hdT (x :: tl)).1.1 = 1 from h0)] at hpr
  refine sr rfl <| fa T.fld60_0 rfl <| lI T.one3 rfl (hb13.cell rfl) <| Wp rfl <| st_eql rfl rfl <| aB rfl <| en <| x_cond rfl (fun h1 => ?_) (fun h1 => ?_)
  ·try simp only [nm, ne_eq] at h1
   have hwft : WfT tl := hwf.tl (by omega)
   rw [if_pos (show (hdT (x :: tl)).1.1 = 2 from h1)] at hpr
   obtain rfl := (Option.some.inj hpr).symm
   refine sr rfl <| mP rfl <| Wp rfl <| st_call (ags := [_, _]) rfl rfl T.ent45 rfl (skip_spec (ts := x :: tl) 1 (by simp) hb hs hct hDtb) ?_
   rintro _ w18 ⟨rfl, ⟨At2, capt2, hb2, hs2, hct2⟩, c19⟩
   simp only [List.drop_succ_cons, List.drop_zero] at hb2
   replace hs2 : Sl tkE _ Dt At2 (tl) := hs2
   replace hct2 : (tl).length ≤ capt2 := hct2
   replace HC := HC.cB c19
   replace ho := ho.tN c19 ndD10_b
   replace ht := ht.tr c19 (by intro hx; have hlt := ht1; simp only [List.mem_cons, List.mem_nil_iff, or_false] at hx; first | exact hone2 hx | omega)
   replace hb13 := hb13.tr1 c19 (Ne.symm ne_b_b3)
   refine en <| sr rfl <| mP rfl <| fa T.fld60_2 rfl <| lS T.one9 rfl (hb13.cell rfl) <| Wp rfl <| st_bld (ps := [(0, .const (S [36])), (2, .tmp 32)]) (vs := [S _, .int _ _, S _, .slice _ _ _]) T.bld38 rfl <| Wp rfl <| st_call (ags := [_, _]) rfl rfl T.ent46 rfl (put_spec (D := D10) (x := ⟨[36], 0, x.1.2.2, []⟩) (fun k hk => frD10 k (by have h1 := hb13.lt; omega)) ndD10_b hb2 ho (kid_none) (by omega)) ?_
   rintro _ w20 ⟨rfl, ⟨Aop21, capop21, hbp21, hop21⟩, c21⟩
   replace HC := HC.chg c21 (fun k hk => .inl ((List.mem_cons.1 hk).elim .inr (fun h => .inl (subD10 k (ho.inD k h)))))
   replace ht := ht.tr c21 (fun hx => (List.mem_cons.1 hx).elim hone2 (fun h => hone1 (subD10 0 (ho.inD 0 h))))
   replace hb13 := hb13.tr c21 (fun hx => (List.mem_cons.1 hx).elim (fun h => absurd h.symm ne_b_b3) (fun h => nD10 (ho.inD _ h)))
   replace hs2 := hs2.tr c21 (fun k hk hD => (List.mem_cons.1 hk).elim (hDt k hD).2 (fun h => (hDt k hD).1 (subD10 k (ho.inD k h))))
   refine aI rfl <| en <| x_ret <| block_r <| then_r <| ret_tmp (v := .int _ _) rfl rfl ?_
   exact ⟨rfl, ⟨_, _, _, _, hbp21, hs2, hct2, (hop21.mono (fun k _ h => subD10 k h))⟩, hwft, ⟨by simp only [List.length_append, List.length_cons, List.length_nil, List.drop_succ_cons, List.drop_zero] at *; omega, by simp only [List.length_append, List.length_cons, List.length_nil, List.drop_succ_cons, List.drop_zero] at *; omega⟩, HC⟩
  ·try simp only [nm, ne_eq] at h1
   rw [if_neg (show ¬ (hdT (x :: tl)).1.1 = 2 from h1)] at hpr
   refine x_skip <| block_n <| then_n <| x_seq <| sr rfl <| mP rfl <| Wp rfl <| st_lit (ps := [(0, .const (S [43])), (1, .const (S [45])), (2, .const (S [33])), (3, .const (S [126]))]) (vs := [S _, S _, S _, S _]) T.lit62 (by decide) rfl (by simp only [List.forall_mem_cons, List.not_mem_nil, false_imp_iff, implies_true, and_true]; exact ⟨rfl, rfl, rfl, rfl⟩) rfl ?_
   intro b22 w23 e24 c25 hb26
   have ge_b22 : w.heap.size ≤ b22 := by rw [e24]; exact HC.size
   have ne_b_b22 : b ≠ b22 := by rw [e24]; exact hb.ne_size
   have ne_b3_b22 : b3 ≠ b22 := by rw [e24]; exact hb13.ne_size
   have nal_b22 : b22 ∉ ob Ao := ho.fresh (by rw [e24]; exact Nat.le_refl _)
   have geF_b22 : b3 + 1 ≤ b22 := by rw [e24]; exact hb13.lt
   replace HC := HC.chg0 c25
   replace hb := hb.tr0 c25
   replace hs := hs.tr0 c25
   replace ho := ho.tr0 c25
   replace ht := ht.tr0 c25
   replace hb13 := hb13.tr0 c25
   clear e24
   refine Wp rfl <| st_call (ags := [_, _]) rfl rfl T.ent65 rfl (take_spec (x := x) (tl := tl) (l := unL) hb hs hDtb (fun k hk => hDtn k (Nat.le_trans HC.size hk)) hct (sl_of_map (xs := unL) (T := 9) hb26) (by first | decide | (simp; done) | exact lv_len _)) ?_
   rintro _ w27 ⟨(⟨hC28, rfl, At28, capt28, hb28, hs28, hct28⟩ | ⟨hC28, rfl, hb28, hs28⟩), c28⟩
   ·replace HC := HC.cB c28
    replace ho := ho.tN c28 ndD10_b
    replace ht := ht.tr c28 (by intro hx; have hlt := ht1; simp only [List.mem_cons, List.mem_nil_iff, or_false] at hx; first | exact hone2 hx | omega)
    replace hb13 := hb13.tr1 c28 (Ne.symm ne_b_b3)
    replace hb26 := hb26.tr1 c28 (Ne.symm ne_b_b22)
    rw [if_pos (in_iff.2 hC28.2)] at hpr
    simp only [List.drop_succ_cons, List.drop_zero] at hpr
    have hwft : WfT tl := hwf.tl (by have := hC28.2.1; omega)
    have hun := un_len hC28.2.2
    refine mv (v := .tuple ⟨[_, _]⟩) rfl <| Wp rfl <| st_extract (vs := [_, _]) (v := S _) rfl rfl <| Wp rfl <| st_extract (vs := [_, _]) (v := .bool _) rfl rfl <| aS rfl <| aB rfl <| en <| sr rfl <| mB rfl <| en <| x_cond rfl (fun h2 => ?_) (fun h2 => ?_)
    ·try simp only [nm, ne_eq] at h2
     refine sr rfl <| mP rfl <| mS rfl <| Wp rfl <| st_sadd rfl rfl (by simp only [List.length_cons, List.length_nil]; omega) <| mP rfl <| mP rfl <| Wp rfl <| st_makeFunc ?_
     obtain ⟨ri1, hw1, hr1⟩ := bind_some (hpr)
     refine Wp rfl <| st_call (ags := [_, _]) rfl rfl T.ent22 rfl (within_call ⟨(fun k hk => frD10 k (by have h1 := hb13.lt; omega)), ndD10_b, (fun k h => ⟨fun h2 => (hDt k h).1 (subD10 k (h2)), (hDt k h).2⟩), ⟨_, _, _, _, hb28, hs28, hct28, ho⟩, hwft, hd, (by omega), ht, (fun h => hone1 (subD10 0 (h))), hone2⟩ (ih.trm) T.ent89 hw1) ?_
     rintro v1 w29 hP
     rcases ri1 with ⟨e1, a1⟩ | ⟨k1, ts1, out1⟩
     ·obtain ⟨he1, ⟨k1, rfl⟩, ⟨ts1, out1, hne1, hl1, At1, capt1, Ao1, capo1, hb1v, hs1v, hct1v, ho1v⟩, cP1⟩ := hP
      replace HC := HC.trans cP1 (fun k h => .inl (h.imp (subD10 k) id))
      replace ht := ht.trP cP1 (fun h => h.elim (fun h => hone1 (subD10 0 h)) hone2)
      replace hb13 := hb13.trP cP1 (fun h => h.elim nD10 (Ne.symm ne_b_b3))
      obtain ⟨x1, tl1, rfl⟩ := List.exists_cons_of_ne_nil hne1
      have hq1 := hl1
      simp only [List.length_cons] at hq1
      obtain rfl := hr1
      refine Wp rfl <| st_lit (ps := [(0, .tmp 48)]) (vs := [.int _ _]) T.lit36 (by decide) rfl (by simp only [List.forall_mem_cons, List.not_mem_nil, false_imp_iff, implies_true, and_true]; exact rfl) rfl ?_
      intro b30 w31 e32 c33 hb34
      have ge_b30 : w.heap.size ≤ b30 := by rw [e32]; exact HC.size
      have ne_b3_b30 : b3 ≠ b30 := by rw [e32]; exact hb13.ne_size
      have ne_b_b30 : b ≠ b30 := by rw [e32]; exact hb1v.ne_size
      have geF_b30 : b3 + 1 ≤ b30 := by rw [e32]; exact hb13.lt
      have nal_b30 : b30 ∉ ob Ao1 := ho1v.fresh (by rw [e32]; exact Nat.le_refl _)
      replace HC := HC.chg0 c33
      replace ht := ht.tr0 c33
      replace hb13 := hb13.tr0 c33
      replace hb1v := hb1v.tr0 c33
      replace hs1v := hs1v.tr0 c33
      replace ho1v := ho1v.tr0 c33
      clear e32
      refine Wp rfl <| st_bld (ps := [(0, .tmp 44), (3, .tmp 49)]) (vs := [S _, .int _ _, S _, .slice _ _ _]) T.bld38 rfl ?_
      have nak_b30 : b30 ∉ ob Ao1 := nal_b30
      refine Wp rfl <| st_call (ags := [_, _]) rfl rfl T.ent46 rfl (put_spec (D := D10) (x := ⟨117 :: x.1.2.2, 0, [], [k1]⟩) (fun k hk => frD10 k (by have h1 := hb13.lt; omega)) ndD10_b hb1v ho1v (kid_one (ks := [k1]) (show Blk _ _ (([k1] : List Int).flatMap fun x => [.int .i64 x]) _ from hb34) (by simp) ⟨frD10 _ (by exact geF_b30), nak_b30⟩) (by omega)) ?_
      rintro _ w35 ⟨rfl, ⟨Aop36, capop36, hbp36, hop36⟩, c36⟩
      replace HC := HC.chg c36 (fun k hk => .inl ((List.mem_cons.1 hk).elim .inr (fun h => .inl (subD10 k (ho1v.inD k h)))))
      replace ht := ht.tr c36 (fun hx => (List.mem_cons.1 hx).elim hone2 (fun h => hone1 (subD10 0 (ho1v.inD 0 h))))
      replace hb13 := hb13.tr c36 (fun hx => (List.mem_cons.1 hx).elim (fun h => absurd h.symm ne_b_b3) (fun h => nD10 (ho1v.inD _ h)))
      replace hs1v := hs1v.tr c36 (fun k hk hD => (List.mem_cons.1 hk).elim (hDt k hD).2 (fun h => (hDt k hD).1 (subD10 k (ho1v.inD k h))))
      refine aI rfl <| en <| x_ret <| then_r <| ret_tmp (v := .int _ _) rfl rfl ?_
      exact ⟨he1, ⟨_, rfl⟩, ⟨_, _, (by simp), (by simp only [List.length_append, List.length_cons, List.length_nil, List.drop_succ_cons, List.drop_zero] at *; omega), ⟨_, _, _, _, hbp36, hs1v, hct1v, (hop36.mono (fun k _ h => subD10 k h))⟩⟩, HC⟩
     ·obtain ⟨rfl, ⟨At1, capt1, Ao1, capo1, hb1v, hs1v, hct1v, ho1v⟩, hwf1, ⟨hm1, hl1⟩, cP1⟩ := hP
      replace HC := HC.trans cP1 (fun k h => .inl (h.imp (subD10 k) id))
      replace ht := ht.trP cP1 (fun h => h.elim (fun h => hone1 (subD10 0 h)) hone2)
      replace hb13 := hb13.trP cP1 (fun h => h.elim nD10 (Ne.symm ne_b_b3))
      have hg1 := hr1
      dsimp only at hg1
      obtain ⟨x1, tl1, rfl⟩ := hwf1.ne
      have hq1 := hl1
      simp only [List.length_cons] at hq1
      have hqm1 := hm1
      simp only [List.length_cons] at hqm1
      obtain rfl := (Option.some.inj hr1).symm
      refine Wp rfl <| st_lit (ps := [(0, .tmp 48)]) (vs := [.int _ _]) T.lit36 (by decide) rfl (by simp only [List.forall_mem_cons, List.not_mem_nil, false_imp_iff, implies_true, and_true]; exact rfl) rfl ?_
      intro b37 w38 e39 c40 hb41
      have ge_b37 : w.heap.size ≤ b37 := by rw [e39]; exact HC.size
      have ne_b3_b37 : b3 ≠ b37 := by rw [e39]; exact hb13.ne_size
      have ne_b_b37 : b ≠ b37 := by rw [e39]; exact hb1v.ne_size
      have geF_b37 : b3 + 1 ≤ b37 := by rw [e39]; exact hb13.lt
      have nal_b37 : b37 ∉ ob Ao1 := ho1v.fresh (by rw [e39]; exact Nat.le_refl _)
      replace HC := HC.chg0 c40
      replace ht := ht.tr0 c40
      replace hb13 := hb13.tr0 c40
      replace hb1v := hb1v.tr0 c40
      replace hs1v := hs1v.tr0 c40
      replace ho1v := ho1v.tr0 c40
      clear e39
      refine Wp rfl <| st_bld (ps := [(0, .tmp 44), (3, .tmp 49)]) (vs := [S _, .int _ _, S _, .slice _ _ _]) T.bld38 rfl ?_
      have nak_b37 : b37 ∉ ob Ao1 := nal_b37
      refine Wp rfl <| st_call (ags := [_, _]) rfl rfl T.ent46 rfl (put_spec (D := D10) (x := ⟨117 :: x.1.2.2, 0, [], [k1]⟩) (fun k hk => frD10 k (by have h1 := hb13.lt; omega)) ndD10_b hb1v ho1v (kid_one (ks := [k1]) (show Blk _ _ (([k1] : List Int).flatMap fun x => [.int .i64 x]) _ from hb41) (by simp) ⟨frD10 _ (by exact geF_b37), nak_b37⟩) (by omega)) ?_
      rintro _ w42 ⟨rfl, ⟨Aop43, capop43, hbp43, hop43⟩, c43⟩
      replace HC := HC.chg c43 (fun k hk => .inl ((List.mem_cons.1 hk).elim .inr (fun h => .inl (subD10 k (ho1v.inD k h)))))
      replace ht := ht.tr c43 (fun hx => (List.mem_cons.1 hx).elim hone2 (fun h => hone1 (subD10 0 (ho1v.inD 0 h))))
      replace hb13 := hb13.tr c43 (fun hx => (List.mem_cons.1 hx).elim (fun h => absurd h.symm ne_b_b3) (fun h => nD10 (ho1v.inD _ h)))
      replace hs1v := hs1v.tr c43 (fun k hk hD => (List.mem_cons.1 hk).elim (hDt k hD).2 (fun h => (hDt k hD).1 (subD10 k (ho1v.inD k h))))
      refine aI rfl <| en <| x_ret <| then_r <| ret_tmp (v := .int _ _) rfl rfl ?_
      exact ⟨rfl, ⟨_, _, _, _, hbp43, hs1v, hct1v, (hop43.mono (fun k _ h => subD10 k h))⟩, hwf1, ⟨by simp only [List.length_append, List.length_cons, List.length_nil, List.drop_succ_cons, List.drop_zero] at *; omega, by simp only [List.length_append, List.length_cons, List.length_nil, List.drop_succ_cons, List.drop_zero] at *; omega⟩, HC⟩
    ·try simp only [nm, ne_eq] at h2
     cases h2
   ·replace HC := HC.cB c28
    replace ho := ho.tN c28 ndD10_b
    replace ht := ht.tr c28 (by intro hx; have hlt := ht1; simp only [List.mem_cons, List.mem_nil_iff, or_false] at hx; first | exact hone2 hx | omega)
    replace hb13 := hb13.tr1 c28 (Ne.symm ne_b_b3)
    replace hb26 := hb26.tr1 c28 (Ne.symm ne_b_b22)
    rw [if_neg (fun h => hC28 ⟨rfl, in_iff.1 h⟩)] at hpr
    refine mv (v := .tuple ⟨[_, _]⟩) rfl <| Wp rfl <| st_extract (vs := [_, _]) (v := S _) rfl rfl <| Wp rfl <| st_extract (vs := [_, _]) (v := .bool _) rfl rfl <| aS rfl <| aB rfl <| en <| sr rfl <| mB rfl <| en <| x_cond rfl (fun h2 => ?_) (fun h2 => ?_)
    ·try simp only [nm, ne_eq] at h2
     cases h2
    ·try simp only [nm, ne_eq] at h2
     refine x_skip <| then_n <| sr rfl <| mP rfl <| Wp rfl <| st_call (ags := [_, _]) rfl rfl T.ent66 rfl (want_spec (x := x) (tl := tl) [40] hb28 hs28 hDtb (fun k hk => hDtn k (Nat.le_trans HC.size hk)) hct) ?_
     rintro _ w44 ⟨rfl, (⟨hCw45, Aw45, cw45, hbw45, hsw45, hctw45⟩ | ⟨hCw45, hbw45, hsw45⟩), c45⟩
     ·replace HC := HC.cB c45
      replace ho := ho.tN c45 ndD10_b
      replace ht := ht.tr c45 (by intro hx; have hlt := ht1; simp only [List.mem_cons, List.mem_nil_iff, or_false] at hx; first | exact hone2 hx | omega)
      replace hb13 := hb13.tr1 c45 (Ne.symm ne_b_b3)
      rw [if_pos (in_iff.2 hCw45.2)] at hpr
      simp only [List.drop_succ_cons, List.drop_zero] at hpr
      have hwft : WfT tl := hwf.tl (by have := hCw45.2.1; omega)
      refine en <| sr rfl <| mP rfl <| mP rfl <| Wp rfl <| st_makeFunc ?_
      obtain ⟨ri2, hw2, hr2⟩ := bind_some (hpr)
      refine Wp rfl <| st_call (ags := [_, _]) rfl rfl T.ent22 rfl (within_call ⟨(fun k hk => frD10 k (by have h1 := hb13.lt; omega)), ndD10_b, (fun k h => ⟨fun h2 => (hDt k h).1 (subD10 k (h2)), (hDt k h).2⟩), ⟨_, _, _, _, hbw45, hsw45, hctw45, ho⟩, hwft, hd, (by omega), ht, (fun h => hone1 (subD10 0 (h))), hone2⟩ (ih.asg) T.ent23 hw2) ?_
      rintro v2 w46 hP
      rcases ri2 with ⟨e2, a2⟩ | ⟨k2, ts2, out2⟩
      ·obtain ⟨he2, ⟨k2, rfl⟩, ⟨ts2, out2, hne2, hl2, At2, capt2, Ao2, capo2, hb2v, hs2v, hct2v, ho2v⟩, cP2⟩ := hP
       replace HC := HC.trans cP2 (fun k h => .inl (h.imp (subD10 k) id))
       replace ht := ht.trP cP2 (fun h => h.elim (fun h => hone1 (subD10 0 h)) hone2)
       replace hb13 := hb13.trP cP2 (fun h => h.elim nD10 (Ne.symm ne_b_b3))
       obtain ⟨x2, tl2, rfl⟩ := List.exists_cons_of_ne_nil hne2
       have hq2 := hl2
       simp only [List.length_cons] at hq2
       obtain rfl := hr2
       refine aI rfl <| en <| sr rfl <| mP rfl <| Wp rfl <| st_call (ags := [_, _]) rfl rfl T.ent66 rfl (want_spec (x := x2) (tl := tl2) [41] hb2v hs2v hDtb (fun k hk => hDtn k (Nat.le_trans HC.size hk)) hct2v) ?_
       rintro _ w47 ⟨rfl, (⟨hCw48, Aw48, cw48, hbw48, hsw48, hctw48⟩ | ⟨hCw48, hbw48, hsw48⟩), c48⟩
       ·exact absurd hCw48.1 he2
       ·replace HC := HC.cB c48
        replace ht := ht.tr c48 (by intro hx; have hlt := ht1; simp only [List.mem_cons, List.mem_nil_iff, or_false] at hx; first | exact hone2 hx | omega)
        replace hb13 := hb13.tr1 c48 (Ne.symm ne_b_b3)
        replace ho2v := ho2v.tN c48 ndD10_b
        rw [if_neg he2, if_neg he2] at hbw48
        refine en <| sr rfl <| mI rfl <| aI rfl <| en <| x_ret <| ret_tmp (v := .int _ _) rfl rfl ?_
        exact ⟨he2, ⟨_, rfl⟩, ⟨_, _, (by simp), (by simp only [List.length_append, List.length_cons, List.length_nil, List.drop_succ_cons, List.drop_zero] at *; omega), ⟨_, _, _, _, hbw48, hsw48, hct2v, (ho2v.mono (fun k _ h => subD10 k h))⟩⟩, HC⟩
      ·obtain ⟨rfl, ⟨At2, capt2, Ao2, capo2, hb2v, hs2v, hct2v, ho2v⟩, hwf2, ⟨hm2, hl2⟩, cP2⟩ := hP
       replace HC := HC.trans cP2 (fun k h => .inl (h.imp (subD10 k) id))
       replace ht := ht.trP cP2 (fun h => h.elim (fun h => hone1 (subD10 0 h)) hone2)
       replace hb13 := hb13.trP cP2 (fun h => h.elim nD10 (Ne.symm ne_b_b3))
       have hg2 := hr2
       dsimp only at hg2
       obtain ⟨x2, tl2, rfl⟩ := hwf2.ne
       have hq2 := hl2
       simp only [List.length_cons] at hq2
       have hqm2 := hm2
       simp only [List.length_cons] at hqm2
       refine aI rfl <| en <| sr rfl <| mP rfl <| Wp rfl <| st_call (ags := [_, _]) rfl rfl T.ent66 rfl (want_spec (x := x2) (tl := tl2) [41] hb2v hs2v hDtb (fun k hk => hDtn k (Nat.le_trans HC.size hk)) hct2v) ?_
       rintro _ w49 ⟨rfl, (⟨hCw50, Aw50, cw50, hbw50, hsw50, hctw50⟩ | ⟨hCw50, hbw50, hsw50⟩), c50⟩
       ·replace HC := HC.cB c50
        replace ht := ht.tr c50 (by intro hx; have hlt := ht1; simp only [List.mem_cons, List.mem_nil_iff, or_false] at hx; first | exact hone2 hx | omega)
        replace hb13 := hb13.tr1 c50 (Ne.symm ne_b_b3)
        replace ho2v := ho2v.tN c50 ndD10_b
        rw [if_pos (in_iff.2 hCw50.2)] at hg2
        simp only [List.drop_succ_cons, List.drop_zero] at hg2
        have hwft2 : WfT tl2 := hwf2.tl (by have := hCw50.2.1; omega)
        obtain rfl := (Option.some.inj hg2).symm
        refine en <| sr rfl <| mI rfl <| aI rfl <| en <| x_ret <| ret_tmp (v := .int _ _) rfl rfl ?_
        exact ⟨rfl, ⟨_, _, _, _, hbw50, hsw50, hctw50, (ho2v.mono (fun k _ h => subD10 k h))⟩, hwft2, ⟨by simp only [List.length_append, List.length_cons, List.length_nil, List.drop_succ_cons, List.drop_zero] at *; omega, by simp only [List.length_append, List.length_cons, List.length_nil, List.drop_succ_cons, List.drop_zero] at *; omega⟩, HC⟩
       ·replace HC := HC.cB c50
        replace ht := ht.tr c50 (by intro hx; have hlt := ht1; simp only [List.mem_cons, List.mem_nil_iff, or_false] at hx; first | exact hone2 hx | omega)
        replace hb13 := hb13.tr1 c50 (Ne.symm ne_b_b3)
        replace ho2v := ho2v.tN c50 ndD10_b
        rw [if_pos rfl, if_pos rfl] at hbw50
        rw [if_neg (fun h => hCw50 ⟨rfl, in_iff.1 h⟩)] at hg2
        obtain rfl := (Option.some.inj hg2).symm
        refine en <| sr rfl <| mI rfl <| aI rfl <| en <| x_ret <| ret_tmp (v := .int _ _) rfl rfl ?_
        exact ⟨(show (101 : Int) ≠ 0 by decide), ⟨_, rfl⟩, ⟨_, _, (by simp), (by simp only [List.length_append, List.length_cons, List.length_nil, List.drop_succ_cons, List.drop_zero] at *; omega), ⟨_, _, _, _, hbw50, hsw50, hct2v, (ho2v.mono (fun k _ h => subD10 k h))⟩⟩, HC⟩
     ·replace HC := HC.cB c45
      replace ho := ho.tN c45 ndD10_b
      replace ht := ht.tr c45 (by intro hx; have hlt := ht1; simp only [List.mem_cons, List.mem_nil_iff, or_false] at hx; first | exact hone2 hx | omega)
      replace hb13 := hb13.tr1 c45 (Ne.symm ne_b_b3)
      rw [if_pos rfl, if_pos rfl] at hbw45
      rw [if_neg (fun h => hCw45 ⟨rfl, in_iff.1 h⟩)] at hpr
      obtain rfl := (Option.some.inj hpr).symm
      refine en <| sr rfl <| mP rfl <| mP rfl <| Wp rfl <| st_makeFunc <| Wp rfl <| st_call (ags := [_, _]) rfl rfl T.ent22 rfl (within_bad (x := x) (tl := tl) (show (101 : Int) ≠ 0 by decide) (by omega) (by omega) hbw45 hsw45 hDtb (fun k hk => hDtn k (Nat.le_trans HC.size hk))) ?_
      rintro _ w51 ⟨rfl, hbi52, c52⟩
      replace HC := HC.cB c52
      replace ho := ho.tN c52 ndD10_b
      replace ht := ht.tr c52 (by intro hx; have hlt := ht1; simp only [List.mem_cons, List.mem_nil_iff, or_false] at hx; first | exact hone2 hx | omega)
      replace hb13 := hb13.tr1 c52 (Ne.symm ne_b_b3)
      replace hsw45 := hsw45.tN c52 (fun h => (hDt _ h).2 rfl)
      refine aI rfl <| en <| sr rfl <| mP rfl <| Wp rfl <| st_call (ags := [_, _]) rfl rfl T.ent66 rfl (want_spec (x := x) (tl := tl) [41] hbi52 hsw45 hDtb (fun k hk => hDtn k (Nat.le_trans HC.size hk)) hct) ?_
      rintro _ w53 ⟨rfl, (⟨hCw54, Aw54, cw54, hbw54, hsw54, hctw54⟩ | ⟨hCw54, hbw54, hsw54⟩), c54⟩
      ·exact absurd hCw54.1 (show (101 : Int) ≠ 0 by decide)
      ·replace HC := HC.cB c54
       replace ho := ho.tN c54 ndD10_b
       replace ht := ht.tr c54 (by intro hx; have hlt := ht1; simp only [List.mem_cons, List.mem_nil_iff, or_false] at hx; first | exact hone2 hx | omega)
       replace hb13 := hb13.tr1 c54 (Ne.symm ne_b_b3)
       rw [if_neg (show (101 : Int) ≠ 0 by decide), if_neg (show (101 : Int) ≠ 0 by decide)] at hbw54
       refine en <| sr rfl <| mI rfl <| aI rfl <| en <| x_ret <| ret_tmp (v := .int _ _) rfl rfl ?_
       exact ⟨(show (101 : Int) ≠ 0 by decide), ⟨_, rfl⟩, ⟨_, _, (by simp), (by simp only [List.length_append, List.length_cons, List.length_nil, List.drop_succ_cons, List.drop_zero] at *; omega), ⟨_, _, _, _, hbw54, hsw54, hct, (ho.mono (fun k _ h => subD10 k h))⟩⟩, HC⟩

/-- The operators' rows, as they lie. -/
def LvAt (w : World) (D : Nat → Prop) : List Value → List (List Bytes) → Prop
  | v :: vs, l :: ls => (∃ A cap, v = .slice A l.length cap ∧ Sl sE w D A l) ∧ LvAt w D vs ls
  | [], [] => True
  | _, _ => False
theorem LvAt.get {w : World} {D : Nat → Prop} : ∀ {vs : List Value} {ls : List (List Bytes)} {n : Nat}, LvAt w D vs ls → n < ls.length → ∃ A cap, nthV vs n = some (.slice A (ls.getD n []).length cap) ∧ Sl sE w D A (ls.getD n [])
  | v :: vs, l :: ls, 0, h, _ => by obtain ⟨⟨A, cap, h1, h2⟩, _⟩ := h; exact ⟨A, cap, by rw [h1]; rfl, h2⟩
  | v :: vs, l :: ls, n + 1, h, hn => by
    obtain ⟨A, cap, h1, h2⟩ := LvAt.get (n := n) h.2 (by simpa using hn)
    exact ⟨A, cap, by rw [nthV_eq] at *; simpa using h1, by simpa using h2⟩
  | [], [], n, _, hn => by simp at hn
  | _ :: _, [], n, h, _ => h.elim
  | [], _ :: _, n, h, _ => h.elim
theorem LvAt.keep {w w' : World} {D : Nat → Prop} (he : ∀ k, k < w.heap.size → D k → w'.heap[k]? = w.heap[k]?) (hs : w.heap.size ≤ w'.heap.size) : ∀ {vs : List Value} {ls : List (List Bytes)}, LvAt w D vs ls → LvAt w' D vs ls
  | v :: vs, l :: ls, h => by obtain ⟨⟨A, cap, h1, h2⟩, h3⟩ := h; exact ⟨⟨A, cap, h1, h2.keep he hs⟩, LvAt.keep he hs h3⟩
  | [], [], _ => trivial
  | _ :: _, [], h => h.elim
  | [], _ :: _, h => h.elim
theorem LvAt.tr {w w' : World} {D : Nat → Prop} {vs : List Value} {ls : List (List Bytes)} {bs : List Nat} (h : LvAt w D vs ls) (c : Chg bs w w') (hb : ∀ k, k ∈ bs → ¬ D k) : LvAt w' D vs ls := h.keep (fun k hk hD => c.block k hk fun hx => hb k hx hD) c.size
theorem LvAt.trP {w w' : World} {D M : Nat → Prop} {vs : List Value} {ls : List (List Bytes)} (h : LvAt w D vs ls) (c : ChgP M w w') (hb : ∀ k, D k → ¬ M k) : LvAt w' D vs ls := h.keep (fun k hk hD => c.block k hk (hb k hD)) c.size
theorem sl_one {w : World} {D : Nat → Prop} {b : Nat} {xs : List Bytes} {T : TypeId} (h : Blk w b (xs.map S) T) (hD : D b) : Sl sE w D (some ⟨b, 0, none⟩) xs := (sl_of_map h).mono (fun k _ hk => by subst hk; exact hD)
/-- A domain without a span. -/
theorem dom_span (D : Nat → Prop) (lo hi : Nat) : ∃ D1 : Nat → Prop, (∀ k, D1 k → D k) ∧ (∀ k, lo ≤ k → k < hi → ¬ D1 k) ∧ (∀ k, D k → k < lo → D1 k) ∧ ∀ k, D k → hi ≤ k → D1 k :=
  ⟨fun k => D k ∧ ¬ (lo ≤ k ∧ k < hi), fun _ h => h.1, fun k h1 h2 h => h.2 ⟨h1, h2⟩, fun k h1 h2 => ⟨h1, by omega⟩, fun k h1 h2 => ⟨h1, by omega⟩⟩

theorem levels_spec (w : World) : CallR Tryz.prog 88 #[] w fun v w' => ∃ L0 L1 L2 L3 L4 L5 L6 L7 L8 L9 : Option Addr, ∃ lc0 lc1 lc2 lc3 lc4 lc5 lc6 lc7 lc8 lc9 : Nat, v = .agg ⟨[.slice L0 1 lc0, .slice L1 1 lc1, .slice L2 1 lc2, .slice L3 1 lc3, .slice L4 1 lc4, .slice L5 2 lc5, .slice L6 4 lc6, .slice L7 2 lc7, .slice L8 2 lc8, .slice L9 3 lc9]⟩ ∧ LvAt w' (fun k => w.heap.size ≤ k ∧ k < w'.heap.size) [.slice L0 1 lc0, .slice L1 1 lc1, .slice L2 1 lc2, .slice L3 1 lc3, .slice L4 1 lc4, .slice L5 2 lc5, .slice L6 4 lc6, .slice L7 2 lc7, .slice L8 2 lc8, .slice L9 3 lc9] lvls ∧ Chg [] w w' := by
 refine callR_of_wp (args := []) Tryz.func88 rfl (Nat.le_of_ble_eq_true rfl) ?_
 have HC : Chg [] w w := .refl _
 refine sr rfl <| Wp rfl <| st_alloc T.zero128 ?_
 intro b0 w1 e2 c3 hb4
 have ge_b0 : w.heap.size ≤ b0 := by rw [e2]; exact HC.size
 replace HC := HC.then c3
 clear e2
 refine en <| sr rfl <| Wp rfl <| st_lit (ps := [(0, .const (S [124, 124]))]) (vs := [S _]) T.lit62 (by decide) rfl (by simp only [List.forall_mem_cons, List.not_mem_nil, false_imp_iff, implies_true, and_true]; exact rfl) rfl ?_
 intro b5 w6 e7 c8 hb9
 have ge_b5 : w.heap.size ≤ b5 := by rw [e7]; exact HC.size
 have ne_b0_b5 : b0 ≠ b5 := by rw [e7]; exact hb4.ne_size
 replace HC := HC.then c8
 replace hb4 := hb4.tr0 c8
 clear e7
 refine Wp rfl <| st_lit (ps := [(0, .const (S [38, 38]))]) (vs := [S _]) T.lit62 (by decide) rfl (by simp only [List.forall_mem_cons, List.not_mem_nil, false_imp_iff, implies_true, and_true]; exact rfl) rfl ?_
 intro b10 w11 e12 c13 hb14
 have ge_b10 : w.heap.size ≤ b10 := by rw [e12]; exact HC.size
 have ne_b0_b10 : b0 ≠ b10 := by rw [e12]; exact hb4.ne_size
 have ne_b5_b10 : b5 ≠ b10 := by rw [e12]; exact hb9.ne_size
 replace HC := HC.then c13
 replace hb4 := hb4.tr0 c13
 replace hb9 := hb9.tr0 c13
 clear e12
 refine Wp rfl <| st_lit (ps := [(0, .const (S [124]))]) (vs := [S _]) T.lit62 (by decide) rfl (by simp only [List.forall_mem_cons, List.not_mem_nil, false_imp_iff, implies_true, and_true]; exact rfl) rfl ?_
 intro b15 w16 e17 c18 hb19
 have ge_b15 : w.heap.size ≤ b15 := by rw [e17]; exact HC.size
 have ne_b0_b15 : b0 ≠ b15 := by rw [e17]; exact hb4.ne_size
 have ne_b5_b15 : b5 ≠ b15 := by rw [e17]; exact hb9.ne_size
 have ne_b10_b15 : b10 ≠ b15 := by rw [e17]; exact hb14.ne_size
 replace HC := HC.then c18
 replace hb4 := hb4.tr0 c18
 replace hb9 := hb9.tr0 c18
 replace hb14 := hb14.tr0 c18
 clear e17
 refine Wp rfl <| st_lit (ps := [(0, .const (S [94]))]) (vs := [S _]) T.lit62 (by decide) rfl (by simp only [List.forall_mem_cons, List.not_mem_nil, false_imp_iff, implies_true, and_true]; exact rfl) rfl ?_
 intro b20 w21 e22 c23 hb24
 have ge_b20 : w.heap.size ≤ b20 := by rw [e22]; exact HC.size
 have ne_b0_b20 : b0 ≠ b20 := by rw [e22]; exact hb4.ne_size
 have ne_b5_b20 : b5 ≠ b20 := by rw [e22]; exact hb9.ne_size
 have ne_b10_b20 : b10 ≠ b20 := by rw [e22]; exact hb14.ne_size
 have ne_b15_b20 : b15 ≠ b20 := by rw [e22]; exact hb19.ne_size
 replace HC := HC.then c23
 replace hb4 := hb4.tr0 c23
 replace hb9 := hb9.tr0 c23
 replace hb14 := hb14.tr0 c23
 replace hb19 := hb19.tr0 c23
 clear e22
 refine Wp rfl <| st_lit (ps := [(0, .const (S [38]))]) (vs := [S _]) T.lit62 (by decide) rfl (by simp only [List.forall_mem_cons, List.not_mem_nil, false_imp_iff, implies_true, and_true]; exact rfl) rfl ?_
 intro b25 w26 e27 c28 hb29
 have ge_b25 : w.heap.size ≤ b25 := by rw [e27]; exact HC.size
 have ne_b0_b25 : b0 ≠ b25 := by rw [e27]; exact hb4.ne_size
 have ne_b5_b25 : b5 ≠ b25 := by rw [e27]; exact hb9.ne_size
 have ne_b10_b25 : b10 ≠ b25 := by rw [e27]; exact hb14.ne_size
 have ne_b15_b25 : b15 ≠ b25 := by rw [e27]; exact hb19.ne_size
 have ne_b20_b25 : b20 ≠ b25 := by rw [e27]; exact hb24.ne_size
 replace HC := HC.then c28
 replace hb4 := hb4.tr0 c28
 replace hb9 := hb9.tr0 c28
 replace hb14 := hb14.tr0 c28
 replace hb19 := hb19.tr0 c28
 replace hb24 := hb24.tr0 c28
 clear e27
 refine Wp rfl <| st_lit (ps := [(0, .const (S [61, 61])), (1, .const (S [33, 61]))]) (vs := [S _, S _]) T.lit62 (by decide) rfl (by simp only [List.forall_mem_cons, List.not_mem_nil, false_imp_iff, implies_true, and_true]; exact ⟨rfl, rfl⟩) rfl ?_
 intro b30 w31 e32 c33 hb34
 have ge_b30 : w.heap.size ≤ b30 := by rw [e32]; exact HC.size
 have ne_b0_b30 : b0 ≠ b30 := by rw [e32]; exact hb4.ne_size
 have ne_b5_b30 : b5 ≠ b30 := by rw [e32]; exact hb9.ne_size
 have ne_b10_b30 : b10 ≠ b30 := by rw [e32]; exact hb14.ne_size
 have ne_b15_b30 : b15 ≠ b30 := by rw [e32]; exact hb19.ne_size
 have ne_b20_b30 : b20 ≠ b30 := by rw [e32]; exact hb24.ne_size
 have ne_b25_b30 : b25 ≠ b30 := by rw [e32]; exact hb29.ne_size
 replace HC := HC.then c33
 replace hb4 := hb4.tr0 c33
 replace hb9 := hb9.tr0 c33
 replace hb14 := hb14.tr0 c33
 replace hb19 := hb19.tr0 c33
 replace hb24 := hb24.tr0 c33
 replace hb29 := hb29.tr0 c33
 clear e32
 refine Wp rfl <| st_lit (ps := [(0, .const (S [60])), (1, .const (S [60, 61])), (2, .const (S [62])), (3, .const (S [62, 61]))]) (vs := [S _, S _, S _, S _]) T.lit62 (by decide) rfl (by simp only [List.forall_mem_cons, List.not_mem_nil, false_imp_iff, implies_true, and_true]; exact ⟨rfl, rfl, rfl, rfl⟩) rfl ?_
 intro b35 w36 e37 c38 hb39
 have ge_b35 : w.heap.size ≤ b35 := by rw [e37]; exact HC.size
 have ne_b0_b35 : b0 ≠ b35 := by rw [e37]; exact hb4.ne_size
 have ne_b5_b35 : b5 ≠ b35 := by rw [e37]; exact hb9.ne_size
 have ne_b10_b35 : b10 ≠ b35 := by rw [e37]; exact hb14.ne_size
 have ne_b15_b35 : b15 ≠ b35 := by rw [e37]; exact hb19.ne_size
 have ne_b20_b35 : b20 ≠ b35 := by rw [e37]; exact hb24.ne_size
 have ne_b25_b35 : b25 ≠ b35 := by rw [e37]; exact hb29.ne_size
 have ne_b30_b35 : b30 ≠ b35 := by rw [e37]; exact hb34.ne_size
 replace HC := HC.then c38
 replace hb4 := hb4.tr0 c38
 replace hb9 := hb9.tr0 c38
 replace hb14 := hb14.tr0 c38
 replace hb19 := hb19.tr0 c38
 replace hb24 := hb24.tr0 c38
 replace hb29 := hb29.tr0 c38
 replace hb34 := hb34.tr0 c38
 clear e37
 refine Wp rfl <| st_lit (ps := [(0, .const (S [60, 60])), (1, .const (S [62, 62]))]) (vs := [S _, S _]) T.lit62 (by decide) rfl (by simp only [List.forall_mem_cons, List.not_mem_nil, false_imp_iff, implies_true, and_true]; exact ⟨rfl, rfl⟩) rfl ?_
 intro b40 w41 e42 c43 hb44
 have ge_b40 : w.heap.size ≤ b40 := by rw [e42]; exact HC.size
 have ne_b0_b40 : b0 ≠ b40 := by rw [e42]; exact hb4.ne_size
 have ne_b5_b40 : b5 ≠ b40 := by rw [e42]; exact hb9.ne_size
 have ne_b10_b40 : b10 ≠ b40 := by rw [e42]; exact hb14.ne_size
 have ne_b15_b40 : b15 ≠ b40 := by rw [e42]; exact hb19.ne_size
 have ne_b20_b40 : b20 ≠ b40 := by rw [e42]; exact hb24.ne_size
 have ne_b25_b40 : b25 ≠ b40 := by rw [e42]; exact hb29.ne_size
 have ne_b30_b40 : b30 ≠ b40 := by rw [e42]; exact hb34.ne_size
 have ne_b35_b40 : b35 ≠ b40 := by rw [e42]; exact hb39.ne_size
 replace HC := HC.then c43
 replace hb4 := hb4.tr0 c43
 replace hb9 := hb9.tr0 c43
 replace hb14 := hb14.tr0 c43
 replace hb19 := hb19.tr0 c43
 replace hb24 := hb24.tr0 c43
 replace hb29 := hb29.tr0 c43
 replace hb34 := hb34.tr0 c43
 replace hb39 := hb39.tr0 c43
 clear e42
 refine Wp rfl <| st_lit (ps := [(0, .const (S [43])), (1, .const (S [45]))]) (vs := [S _, S _]) T.lit62 (by decide) rfl (by simp only [List.forall_mem_cons, List.not_mem_nil, false_imp_iff, implies_true, and_true]; exact ⟨rfl, rfl⟩) rfl ?_
 intro b45 w46 e47 c48 hb49
 have ge_b45 : w.heap.size ≤ b45 := by rw [e47]; exact HC.size
 have ne_b0_b45 : b0 ≠ b45 := by rw [e47]; exact hb4.ne_size
 have ne_b5_b45 : b5 ≠ b45 := by rw [e47]; exact hb9.ne_size
 have ne_b10_b45 : b10 ≠ b45 := by rw [e47]; exact hb14.ne_size
 have ne_b15_b45 : b15 ≠ b45 := by rw [e47]; exact hb19.ne_size
 have ne_b20_b45 : b20 ≠ b45 := by rw [e47]; exact hb24.ne_size
 have ne_b25_b45 : b25 ≠ b45 := by rw [e47]; exact hb29.ne_size
 have ne_b30_b45 : b30 ≠ b45 := by rw [e47]; exact hb34.ne_size
 have ne_b35_b45 : b35 ≠ b45 := by rw [e47]; exact hb39.ne_size
 have ne_b40_b45 : b40 ≠ b45 := by rw [e47]; exact hb44.ne_size
 replace HC := HC.then c48
 replace hb4 := hb4.tr0 c48
 replace hb9 := hb9.tr0 c48
 replace hb14 := hb14.tr0 c48
 replace hb19 := hb19.tr0 c48
 replace hb24 := hb24.tr0 c48
 replace hb29 := hb29.tr0 c48
 replace hb34 := hb34.tr0 c48
 replace hb39 := hb39.tr0 c48
 replace hb44 := hb44.tr0 c48
 clear e47
 refine Wp rfl <| st_lit (ps := [(0, .const (S [42])), (1, .const (S [47])), (2, .const (S [37]))]) (vs := [S _, S _, S _]) T.lit62 (by decide) rfl (by simp only [List.forall_mem_cons, List.not_mem_nil, false_imp_iff, implies_true, and_true]; exact ⟨rfl, rfl, rfl⟩) rfl ?_
 intro b50 w51 e52 c53 hb54
 have ge_b50 : w.heap.size ≤ b50 := by rw [e52]; exact HC.size
 have ne_b0_b50 : b0 ≠ b50 := by rw [e52]; exact hb4.ne_size
 have ne_b5_b50 : b5 ≠ b50 := by rw [e52]; exact hb9.ne_size
 have ne_b10_b50 : b10 ≠ b50 := by rw [e52]; exact hb14.ne_size
 have ne_b15_b50 : b15 ≠ b50 := by rw [e52]; exact hb19.ne_size
 have ne_b20_b50 : b20 ≠ b50 := by rw [e52]; exact hb24.ne_size
 have ne_b25_b50 : b25 ≠ b50 := by rw [e52]; exact hb29.ne_size
 have ne_b30_b50 : b30 ≠ b50 := by rw [e52]; exact hb34.ne_size
 have ne_b35_b50 : b35 ≠ b50 := by rw [e52]; exact hb39.ne_size
 have ne_b40_b50 : b40 ≠ b50 := by rw [e52]; exact hb44.ne_size
 have ne_b45_b50 : b45 ≠ b50 := by rw [e52]; exact hb49.ne_size
 replace HC := HC.then c53
 replace hb4 := hb4.tr0 c53
 replace hb9 := hb9.tr0 c53
 replace hb14 := hb14.tr0 c53
 replace hb19 := hb19.tr0 c53
 replace hb24 := hb24.tr0 c53
 replace hb29 := hb29.tr0 c53
 replace hb34 := hb34.tr0 c53
 replace hb39 := hb39.tr0 c53
 replace hb44 := hb44.tr0 c53
 replace hb49 := hb49.tr0 c53
 clear e52
 refine Wp rfl <| st_bldA (ps := [(0, .tmp 1), (1, .tmp 2), (2, .tmp 3), (3, .tmp 4), (4, .tmp 5), (5, .tmp 6), (6, .tmp 7), (7, .tmp 8), (8, .tmp 9), (9, .tmp 10)]) (vs := [.slice _ _ _, .slice _ _ _, .slice _ _ _, .slice _ _ _, .slice _ _ _, .slice _ _ _, .slice _ _ _, .slice _ _ _, .slice _ _ _, .slice _ _ _]) T.u128 T.size62 T.zagg128 rfl <| Wp rfl <| st_store (v := .agg ⟨[.slice _ _ _, .slice _ _ _, .slice _ _ _, .slice _ _ _, .slice _ _ _, .slice _ _ _, .slice _ _ _, .slice _ _ _, .slice _ _ _, .slice _ _ _]⟩) T.size128 rfl rfl rfl hb4 rfl (Nat.le_of_ble_eq_true rfl) (by simp [Value.oneCell', S]) rfl ?_
 intro w55 c56 hb57; simp only [setVs, setV] at hb57
 clear hb4
 replace HC := HC.then1 c56 ge_b0
 replace hb9 := hb9.tr1 c56 (Ne.symm ne_b0_b5)
 replace hb14 := hb14.tr1 c56 (Ne.symm ne_b0_b10)
 replace hb19 := hb19.tr1 c56 (Ne.symm ne_b0_b15)
 replace hb24 := hb24.tr1 c56 (Ne.symm ne_b0_b20)
 replace hb29 := hb29.tr1 c56 (Ne.symm ne_b0_b25)
 replace hb34 := hb34.tr1 c56 (Ne.symm ne_b0_b30)
 replace hb39 := hb39.tr1 c56 (Ne.symm ne_b0_b35)
 replace hb44 := hb44.tr1 c56 (Ne.symm ne_b0_b40)
 replace hb49 := hb49.tr1 c56 (Ne.symm ne_b0_b45)
 replace hb54 := hb54.tr1 c56 (Ne.symm ne_b0_b50)
 refine en <| x_ret <| ret_cellA (vs := [_, _, _, _, _, _, _, _, _, _]) rfl rfl T.agg128 (hb57.cells (n := 10) rfl) rfl ?_
 exact ⟨_, _, _, _, _, _, _, _, _, _, _, _, _, _, _, _, _, _, _, _, rfl, ⟨⟨_, _, rfl, sl_one (xs := lvls.getD 0 []) (T := 9) hb9 (by have := ge_b5; exact ⟨by omega, hb9.lt⟩)⟩, ⟨⟨_, _, rfl, sl_one (xs := lvls.getD 1 []) (T := 9) hb14 (by have := ge_b10; exact ⟨by omega, hb14.lt⟩)⟩, ⟨⟨_, _, rfl, sl_one (xs := lvls.getD 2 []) (T := 9) hb19 (by have := ge_b15; exact ⟨by omega, hb19.lt⟩)⟩, ⟨⟨_, _, rfl, sl_one (xs := lvls.getD 3 []) (T := 9) hb24 (by have := ge_b20; exact ⟨by omega, hb24.lt⟩)⟩, ⟨⟨_, _, rfl, sl_one (xs := lvls.getD 4 []) (T := 9) hb29 (by have := ge_b25; exact ⟨by omega, hb29.lt⟩)⟩, ⟨⟨_, _, rfl, sl_one (xs := lvls.getD 5 []) (T := 9) hb34 (by have := ge_b30; exact ⟨by omega, hb34.lt⟩)⟩, ⟨⟨_, _, rfl, sl_one (xs := lvls.getD 6 []) (T := 9) hb39 (by have := ge_b35; exact ⟨by omega, hb39.lt⟩)⟩, ⟨⟨_, _, rfl, sl_one (xs := lvls.getD 7 []) (T := 9) hb44 (by have := ge_b40; exact ⟨by omega, hb44.lt⟩)⟩, ⟨⟨_, _, rfl, sl_one (xs := lvls.getD 8 []) (T := 9) hb49 (by have := ge_b45; exact ⟨by omega, hb49.lt⟩)⟩, ⟨⟨_, _, rfl, sl_one (xs := lvls.getD 9 []) (T := 9) hb54 (by have := ge_b50; exact ⟨by omega, hb54.lt⟩)⟩, trivial⟩⟩⟩⟩⟩⟩⟩⟩⟩⟩, HC⟩

theorem lv_len (n : Nat) : (lvls.getD n []).length ≤ 9223372036854775807 := by
  by_cases h : n < 10
  · have : n = 0 ∨ n = 1 ∨ n = 2 ∨ n = 3 ∨ n = 4 ∨ n = 5 ∨ n = 6 ∨ n = 7 ∨ n = 8 ∨ n = 9 := by omega
    rcases this with rfl | rfl | rfl | rfl | rfl | rfl | rfl | rfl | rfl | rfl <;> decide
  · rw [List.getD_eq_getElem?_getD, List.getElem?_eq_none (by show 10 ≤ n; omega)]; simp
/-- What the loop over a level's operators keeps. -/
def LI (n d f B T0 : Nat) (r : PR) (pl : Int) (tk : Bool) (op : Bytes) (kk : Int) (tsl : List Tk) (outl : List Nd) (fl cpl : Nat) (pll el : Int) : Prop :=
  tsl ≠ [] ∧ tsl.length ≤ cpl ∧ outl.length + tsl.length + (if tk = true then 1 else 0) ≤ B ∧ fl ≤ f ∧
  ((tk = true ∧ el = 0 ∧ pll = pl ∧ WfT tsl ∧ tsl.length + 1 ≤ T0 ∧ PR.bind (pP fl (.lev (n + 1)) d tsl outl) (fun k2 ts2 out2 => pP fl (.lop n (out2.length : Nat)) d ts2 (out2 ++ [⟨op, 0, [], [kk, k2]⟩])) = some r) ∨
   (tk = false ∧ el = 0 ∧ pll = pl ∧ WfT tsl ∧ tsl.length ≤ T0 ∧ r = .good kk tsl outl) ∨ (tk = false ∧ el ≠ 0 ∧ r = .bad el pll))
theorem LI.go {n d f B T0 : Nat} {r : PR} {pl : Int} {tk : Bool} {op : Bytes} {kk : Int} {tsl : List Tk} {outl : List Nd} {fl cpl : Nat} {pll el : Int} (h : LI n d f B T0 r pl tk op kk tsl outl fl cpl pll el) (ht : tk = true) :
    el = 0 ∧ pll = pl ∧ WfT tsl ∧ tsl.length + 1 ≤ T0 ∧ PR.bind (pP fl (.lev (n + 1)) d tsl outl) (fun k2 ts2 out2 => pP fl (.lop n (out2.length : Nat)) d ts2 (out2 ++ [⟨op, 0, [], [kk, k2]⟩])) = some r ∧ tsl.length ≤ cpl ∧ fl ≤ f ∧ outl.length + (tsl.length + 1) ≤ B := by
  obtain ⟨h1, h2, h3, h4, h5 | h5 | h5⟩ := h
  · obtain ⟨_, q2, q3, q4, q0, q5⟩ := h5
    rw [if_pos ht] at h3
    exact ⟨q2, q3, q4, q0, q5, h2, h4, by omega⟩
  · rw [ht] at h5; cases h5.1
  · rw [ht] at h5; cases h5.1
theorem LI.stop {n d f B T0 : Nat} {r : PR} {pl : Int} {tk : Bool} {op : Bytes} {kk : Int} {tsl : List Tk} {outl : List Nd} {fl cpl : Nat} {pll el : Int} (h : LI n d f B T0 r pl tk op kk tsl outl fl cpl pll el) (ht : tk = false) :
    tsl ≠ [] ∧ tsl.length ≤ cpl ∧ outl.length + tsl.length ≤ B ∧ ((el = 0 ∧ pll = pl ∧ WfT tsl ∧ tsl.length ≤ T0 ∧ r = .good kk tsl outl) ∨ (el ≠ 0 ∧ r = .bad el pll)) := by
  obtain ⟨h1, h2, h3, h4, h5 | h5 | h5⟩ := h
  · rw [ht] at h5; cases h5.1
  · exact ⟨h1, h2, by omega, .inl h5.2⟩
  · exact ⟨h1, h2, by omega, .inr h5.2⟩

theorem lev_step (f : Nat) (ihs : ∀ f', f' ≤ f → RI f') (n : Nat) (hn : n ≤ 10) : RC 64 (.lev n) [.int .i64 (n : Int)] (f + 1) := by
 intro D Dt w b ts out d pl r hp hpr
 obtain ⟨hfr0, hDb, hDt, ⟨At, capt, Ao, capo, hb, hs, hct, ho⟩, hwf, hd, hlen, ht, hone1, hone2⟩ := hp
 obtain ⟨x, tl, rfl⟩ := hwf.ne
 have ht1 := ht.lt
 have hDtb : ¬ Dt b := fun h => (hDt b h).2 rfl
 have hDtn : ∀ k, w.heap.size ≤ k → ¬ Dt k := fun k hk h => (hDt k h).1 (hfr0 k hk)
 have hll : out.length + (tl.length + 1) ≤ 1000000000 := hlen
 rw [pP] at hpr
 have ih := ihs f (Nat.le_refl f)
 refine callR_of_wp (args := [_, _]) Tryz.func64 rfl (Nat.le_of_ble_eq_true rfl) ?_
 have HC : ChgP (fun k => D k ∨ k = b) w w := .refl _
 refine sr rfl <| aI rfl <| en <| sr rfl <| Wp rfl <| st_call (ags := []) rfl rfl T.ent88 rfl (levels_spec _) ?_
 rintro _ w1 ⟨L0, L1, L2, L3, L4, L5, L6, L7, L8, L9, lc0, lc1, lc2, lc3, lc4, lc5, lc6, lc7, lc8, lc9, rfl, hlv, c2⟩
 obtain ⟨Ds, sDs, nDs, mDs, qDs⟩ := dom_span D w.heap.size w1.heap.size
 replace ho := ho.mono (D' := Ds) (fun k hk hD => mDs k hD hk)
 have ndDs_b : ¬ Ds b := fun h => hDb (sDs b h)
 have frDs : ∀ k, w1.heap.size ≤ k → Ds k := fun k hk => qDs k (hfr0 k (Nat.le_trans c2.size hk)) hk
 have hbw : b < w.heap.size := hb.lt
 have hlo1 : ∀ k, (w.heap.size ≤ k ∧ k < w1.heap.size) → ¬ (Ds k ∨ k = b) := fun k hk h => h.elim (nDs k hk.1 hk.2) (fun h => by omega)
 replace HC := HC.chg0 c2
 replace hb := hb.tr0 c2
 replace hs := hs.tr0 c2
 replace ho := ho.tr0 c2
 replace ht := ht.tr0 c2
 refine Wp rfl <| st_alloc T.zero128 ?_
 intro b5 w3 e4 c5 hb6
 have ge_b5 : w.heap.size ≤ b5 := by rw [e4]; exact HC.size
 have ne_b_b5 : b ≠ b5 := by rw [e4]; exact hb.ne_size
 have lo_b5 : w1.heap.size ≤ b5 := by rw [e4]; exact Nat.le_refl _
 obtain ⟨D7, sD7, nD7, mD7⟩ := dom_new Ds b5
 replace ho := ho.mono (D' := D7) (fun k hk hD => mD7 k hD (by omega))
 have ndD7_b : ¬ D7 b := fun h => ndDs_b (sD7 _ h)
 have subD7 : ∀ k, D7 k → D k := fun k h => sDs k (sD7 k h)
 have frD7 : ∀ k, b5 + 1 ≤ k → D7 k := fun k hk => mD7 k (frDs k (by omega)) (by omega)
 replace HC := HC.chg0 c5
 replace hb := hb.tr0 c5
 replace hs := hs.tr0 c5
 replace ho := ho.tr0 c5
 replace ht := ht.tr0 c5
 replace hlv := hlv.tr c5 (fun k hx => absurd hx (by simp))
 clear e4
 refine Wp rfl <| st_store (v := .agg ⟨[.slice _ _ _, .slice _ _ _, .slice _ _ _, .slice _ _ _, .slice _ _ _, .slice _ _ _, .slice _ _ _, .slice _ _ _, .slice _ _ _, .slice _ _ _]⟩) T.size128 rfl rfl rfl hb6 rfl (Nat.le_of_ble_eq_true rfl) (by simp [Value.oneCell', S]) rfl ?_
 intro w8 c9 hb10; simp only [setVs, setV] at hb10
 clear hb6
 replace HC := HC.cN c9 ge_b5
 replace hb := hb.tr1 c9 ne_b_b5
 replace hs := hs.tN c9 (fun h => (hDt _ h).1 (hfr0 _ ge_b5))
 replace ho := ho.tN c9 nD7
 replace ht := ht.tr c9 (by intro hx; have hlt := ht1; simp only [List.mem_cons, List.mem_nil_iff, or_false] at hx; first | exact hone2 hx | omega)
 replace hlv := hlv.tr c9 (by intro k hx hD; obtain rfl := List.mem_singleton.1 hx; exact absurd hD.2 (Nat.not_lt.2 lo_b5))
 refine en <| x_seq <| sr rfl <| mI rfl <| Wp rfl <| st_eql rfl rfl <| en <| x_cond rfl (fun h0 => ?_) (fun h0 => ?_)
 ·try simp only [nm, ne_eq] at h0
  rw [if_pos (show n = 10 by omega)] at hpr
  refine sr rfl <| mP rfl <| mP rfl <| Wp rfl <| st_makeFunc <| Wp rfl <| st_call (ags := [_, _]) rfl rfl T.ent22 rfl (within_call ⟨(fun k hk => frD7 k (by have h1 := hb10.lt; omega)), ndD7_b, (fun k h => ⟨fun h2 => (hDt k h).1 (subD7 k (h2)), (hDt k h).2⟩), ⟨_, _, _, _, hb, hs, hct, ho⟩, hwf, hd, hlen, ht, (fun h => hone1 (subD7 0 (h))), hone2⟩ (ih.trm) T.ent89 hpr) ?_
  rintro vP w11 hP
  refine av rfl <| en <| x_ret <| then_r <| ret_tmp  rfl rfl ?_
  exact hP.lift subD7 HC
 ·try simp only [nm, ne_eq] at h0
  rw [if_neg (show ¬ n = 10 by omega)] at hpr
  have hn1 : IntKind.i64.wrap ((n : Int) + 1) = ((n + 1 : Nat) : Int) := by rw [wrap64_id (by omega) (by omega)]; omega
  have hBB : out.length + (x :: tl).length = out.length + (tl.length + 1) := rfl
  refine x_skip <| then_n <| sr rfl <| mP rfl <| mI rfl <| Wp rfl <| st_addk rfl rfl (by exact hn1) ?_
  obtain ⟨ri1, hw1, hr1⟩ := bind_some (hpr)
  refine Wp rfl <| st_call (ags := [_, _]) rfl rfl T.ent64 rfl (ih.lev (n + 1) (by omega) _ _ _ _ _ _ _ _ _ ⟨(fun k hk => frD7 k (by have h1 := hb10.lt; omega)), ndD7_b, (fun k h => ⟨fun h2 => (hDt k h).1 (subD7 k (h2)), (hDt k h).2⟩), ⟨_, _, _, _, hb, hs, hct, ho⟩, hwf, hd, hlen, ht, (fun h => hone1 (subD7 0 (h))), hone2⟩ hw1) ?_
  rintro v1 w12 hP
  rcases ri1 with ⟨e1, a1⟩ | ⟨k1, ts1, out1⟩
  ·obtain ⟨he1, ⟨k1, rfl⟩, ⟨ts1, out1, hne1, hl1, At1, capt1, Ao1, capo1, hb1v, hs1v, hct1v, ho1v⟩, cP1⟩ := hP
   replace HC := HC.trans cP1 (fun k h => .inl (h.imp (subD7 k) id))
   replace ht := ht.trP cP1 (fun h => h.elim (fun h => hone1 (subD7 0 h)) hone2)
   replace hlv := hlv.trP cP1 (fun k hD h => hlo1 k hD (h.imp (sD7 k) id))
   replace hb10 := hb10.trP cP1 (fun h => h.elim nD7 (Ne.symm ne_b_b5))
   obtain ⟨x1, tl1, rfl⟩ := List.exists_cons_of_ne_nil hne1
   have hq1 := hl1
   simp only [List.length_cons] at hq1
   refine aI rfl <| en <| x_seq <| x_seq ?_
   obtain ⟨Av, cv, hnv0, hvS⟩ := hlv.get (n := n) (by show n < 10; omega)
   have hnv : nthV [.slice L0 1 lc0, .slice L1 1 lc1, .slice L2 1 lc2, .slice L3 1 lc3, .slice L4 1 lc4, .slice L5 2 lc5, .slice L6 4 lc6, .slice L7 2 lc7, .slice L8 2 lc8, .slice L9 3 lc9] (0 + ((n : Nat) : Int).toNat * 1) = some (.slice Av (lvls.getD n []).length cv) := by rw [show 0 + ((n : Nat) : Int).toNat * 1 = n by simp]; exact hnv0
   refine x_region rfl <| mP rfl <| mI rfl <| Wp rfl <| st_arrAddr T.u128 T.size62 rfl rfl (by omega) (by omega) <| lL T.one62 rfl (hb10.cell hnv) <| Wp rfl <| st_call (ags := [_, _]) rfl rfl T.ent65 rfl (take_spec (x := x1) (tl := tl1) (l := (lvls.getD n [])) hb1v hs1v hDtb (fun k hk => hDtn k (Nat.le_trans HC.size hk)) hct1v (hvS) (by first | decide | (simp; done) | exact lv_len _)) ?_
   rintro _ w13 ⟨(⟨hC14, rfl, At14, capt14, hb14, hs14, hct14⟩ | ⟨hC14, rfl, hb14, hs14⟩), c14⟩
   ·replace HC := HC.cB c14
    replace ht := ht.tr c14 (by intro hx; have hlt := ht1; simp only [List.mem_cons, List.mem_nil_iff, or_false] at hx; first | exact hone2 hx | omega)
    replace hlv := hlv.tr c14 (by intro k hx hD; obtain rfl := List.mem_singleton.1 hx; omega)
    replace hb10 := hb10.tr1 c14 (Ne.symm ne_b_b5)
    replace ho1v := ho1v.tN c14 ndD7_b
    exact absurd hC14.1 he1
   ·replace HC := HC.cB c14
    replace ht := ht.tr c14 (by intro hx; have hlt := ht1; simp only [List.mem_cons, List.mem_nil_iff, or_false] at hx; first | exact hone2 hx | omega)
    replace hlv := hlv.tr c14 (by intro k hx hD; obtain rfl := List.mem_singleton.1 hx; omega)
    replace hb10 := hb10.tr1 c14 (Ne.symm ne_b_b5)
    replace ho1v := ho1v.tN c14 ndD7_b
    refine mv (v := .tuple ⟨[_, _]⟩) rfl <| Wp rfl <| st_extract (vs := [_, _]) (v := S _) rfl rfl <| Wp rfl <| st_extract (vs := [_, _]) (v := .bool _) rfl rfl <| aS rfl <| aB rfl <| en <| x_block <| x_loop (ι := Bool × Bytes × Int × List Tk × List Nd × Nat × (Option Addr × Nat × Option Addr × Nat) × Int × Int) [6, 7, 8, 28, 29, 30, 31, 32, 33, 34, 35, 36, 37, 38, 39, 40, 41, 42, 43, 44, 45, 46] (fun ⟨tk, op, kk, tsl, outl, fl, ⟨Atl, cpl, Aol, col⟩, pll, el⟩ => [(8, .bool tk), (7, S op), (6, .int .i64 kk)]) (fun ⟨tk, op, kk, tsl, outl, fl, ⟨Atl, cpl, Aol, col⟩, pll, el⟩ W => (LI n d f (out.length + (tl.length + 1)) (tl.length + 1) r pl tk op kk tsl outl fl cpl pll el) ∧ (ChgP (fun k => D k ∨ k = b) w W) ∧ (Tab W) ∧ (LvAt W (fun k => w.heap.size ≤ k ∧ k < w1.heap.size) [.slice L0 1 lc0, .slice L1 1 lc1, .slice L2 1 lc2, .slice L3 1 lc3, .slice L4 1 lc4, .slice L5 2 lc5, .slice L6 4 lc6, .slice L7 2 lc7, .slice L8 2 lc8, .slice L9 3 lc9] lvls) ∧ (Blk W b5 [.slice L0 1 lc0, .slice L1 1 lc1, .slice L2 1 lc2, .slice L3 1 lc3, .slice L4 1 lc4, .slice L5 2 lc5, .slice L6 4 lc6, .slice L7 2 lc7, .slice L8 2 lc8, .slice L9 3 lc9] 128) ∧ (Blk W b [.slice Atl tsl.length cpl, .slice Aol outl.length col, .int .i64 (d : Int), .int .i64 pll, .int .i64 el] 68) ∧ (Sl tkE W Dt Atl tsl) ∧ (Own ndE 38 W D7 Aol col outl)) (fun ⟨tk, op, kk, tsl, outl, fl, ⟨Atl, cpl, Aol, col⟩, pll, el⟩ => if tk = true then tsl.length + 1 else 0) (false, [], k1, (x1 :: tl1), out1, 0, (At1, capt1, Ao1, capo1), a1, e1) ?_ ?_ ?_
    · exact ⟨rfl, rfl, rfl, trivial⟩
    ·refine ⟨?_, HC, ht, hlv, hb10, hb14, hs14, ho1v⟩
     exact ⟨by simp, hct1v, (by simp only [List.length_append, List.length_cons, List.length_nil, if_pos, Bool.false_eq_true, if_false] at *; omega), Nat.zero_le _, .inr (.inr ⟨rfl, he1, hr1⟩)⟩
    intro ⟨tk, op, kk, tsl, outl, fl, ⟨Atl, cpl, Aol, col⟩, pll, el⟩ G16 w15 ⟨hLI, HC, ht, hlv, hb10, hbl, hsl, hol⟩
    change wp _ _ _ _ _ (upds (over _ _ G16) [(8, .bool tk), (7, S op), (6, .int .i64 kk)]) _ _
    refine x_seq <| sr rfl <| mB rfl <| en <| x_cond rfl (fun h1 => ?_) (fun h1 => ?_)
    ·try simp only [nm, ne_eq] at h1
     obtain ⟨he0, hpl0, hwfl, hT0, hcont, hcpl, hfl, hBl⟩ := hLI.go h1
     obtain rfl := he0
     obtain rfl := hpl0.symm
     have hlenl : outl.length + tsl.length ≤ 1000000000 := by omega
     refine x_skip <| then_n <| x_seq <| x_block <| x_region rfl <| mP rfl <| mS rfl <| mI rfl <| mP rfl <| mI rfl <| Wp rfl <| st_addk rfl rfl (by exact hn1) ?_
     obtain ⟨ri2, hw2, hr2⟩ := bind_some (hcont)
     refine Wp rfl <| st_call (ags := [_, _]) rfl rfl T.ent64 rfl ((ihs fl hfl).lev (n + 1) (by omega) _ _ _ _ _ _ _ _ _ ⟨(fun k hk => frD7 k (by have h1 := hb10.lt; omega)), ndD7_b, (fun k h => ⟨fun h2 => (hDt k h).1 (subD7 k (h2)), (hDt k h).2⟩), ⟨_, _, _, _, hbl, hsl, hcpl, hol⟩, hwfl, hd, hlenl, ht, (fun h => hone1 (subD7 0 (h))), hone2⟩ hw2) ?_
     rintro v2 w17 hP
     rcases ri2 with ⟨e2, a2⟩ | ⟨k2, ts2, out2⟩
     ·obtain ⟨he2, ⟨k2, rfl⟩, ⟨ts2, out2, hne2, hl2, At2, capt2, Ao2, capo2, hb2v, hs2v, hct2v, ho2v⟩, cP2⟩ := hP
      replace HC := HC.trans cP2 (fun k h => .inl (h.imp (subD7 k) id))
      replace ht := ht.trP cP2 (fun h => h.elim (fun h => hone1 (subD7 0 h)) hone2)
      replace hlv := hlv.trP cP2 (fun k hD h => hlo1 k hD (h.imp (sD7 k) id))
      replace hb10 := hb10.trP cP2 (fun h => h.elim nD7 (Ne.symm ne_b_b5))
      obtain ⟨x2, tl2, rfl⟩ := List.exists_cons_of_ne_nil hne2
      have hq2 := hl2
      simp only [List.length_cons] at hq2
      refine Wp rfl <| st_lit (ps := [(0, .tmp 39), (1, .tmp 43)]) (vs := [.int _ _, .int _ _]) T.lit36 (by decide) rfl (by simp only [List.forall_mem_cons, List.not_mem_nil, false_imp_iff, implies_true, and_true]; exact ⟨rfl, rfl⟩) rfl ?_
      intro b18 w19 e20 c21 hb22
      have ge_b18 : w.heap.size ≤ b18 := by rw [e20]; exact HC.size
      have ne_b5_b18 : b5 ≠ b18 := by rw [e20]; exact hb10.ne_size
      have ne_b_b18 : b ≠ b18 := by rw [e20]; exact hb2v.ne_size
      have geF_b18 : b5 + 1 ≤ b18 := by rw [e20]; exact hb10.lt
      have nal_b18 : b18 ∉ ob Ao2 := ho2v.fresh (by rw [e20]; exact Nat.le_refl _)
      replace HC := HC.chg0 c21
      replace ht := ht.tr0 c21
      replace hlv := hlv.tr c21 (fun k hx => absurd hx (by simp))
      replace hb10 := hb10.tr0 c21
      replace hb2v := hb2v.tr0 c21
      replace hs2v := hs2v.tr0 c21
      replace ho2v := ho2v.tr0 c21
      clear e20
      refine Wp rfl <| st_bld (ps := [(0, .tmp 38), (3, .tmp 44)]) (vs := [S _, .int _ _, S _, .slice _ _ _]) T.bld38 rfl ?_
      have nak_b18 : b18 ∉ ob Ao2 := nal_b18
      refine Wp rfl <| st_call (ags := [_, _]) rfl rfl T.ent46 rfl (put_spec (D := D7) (x := ⟨op, 0, [], [kk, k2]⟩) (fun k hk => frD7 k (by have h1 := hb10.lt; omega)) ndD7_b hb2v ho2v (kid_one (ks := [kk, k2]) (show Blk _ _ (([kk, k2] : List Int).flatMap fun x => [.int .i64 x]) _ from hb22) (by simp) ⟨frD7 _ (by exact geF_b18), nak_b18⟩) (by omega)) ?_
      rintro _ w23 ⟨rfl, ⟨Aop24, capop24, hbp24, hop24⟩, c24⟩
      replace HC := HC.chg c24 (fun k hk => .inl ((List.mem_cons.1 hk).elim .inr (fun h => .inl (subD7 k (ho2v.inD k h)))))
      replace ht := ht.tr c24 (fun hx => (List.mem_cons.1 hx).elim hone2 (fun h => hone1 (subD7 0 (ho2v.inD 0 h))))
      replace hlv := hlv.tr c24 (fun k hx hD => (List.mem_cons.1 hx).elim (fun h => hlo1 k hD (.inr h)) (fun h => hlo1 k hD (.inl (sD7 k (ho2v.inD k h)))))
      replace hb10 := hb10.tr c24 (fun hx => (List.mem_cons.1 hx).elim (fun h => absurd h.symm ne_b_b5) (fun h => nD7 (ho2v.inD _ h)))
      replace hs2v := hs2v.tr c24 (fun k hk hD => (List.mem_cons.1 hk).elim (hDt k hD).2 (fun h => (hDt k hD).1 (subD7 k (ho2v.inD k h))))
      refine aI rfl <| wops_nil <| block_n <| then_n ?_
      obtain ⟨Av, cv, hnv0, hvS⟩ := hlv.get (n := n) (by show n < 10; omega)
      have hnv : nthV [.slice L0 1 lc0, .slice L1 1 lc1, .slice L2 1 lc2, .slice L3 1 lc3, .slice L4 1 lc4, .slice L5 2 lc5, .slice L6 4 lc6, .slice L7 2 lc7, .slice L8 2 lc8, .slice L9 3 lc9] (0 + ((n : Nat) : Int).toNat * 1) = some (.slice Av (lvls.getD n []).length cv) := by rw [show 0 + ((n : Nat) : Int).toNat * 1 = n by simp]; exact hnv0
      refine x_region rfl <| mP rfl <| mI rfl <| Wp rfl <| st_arrAddr T.u128 T.size62 rfl rfl (by omega) (by omega) <| lL T.one62 rfl (hb10.cell hnv) <| Wp rfl <| st_call (ags := [_, _]) rfl rfl T.ent65 rfl (take_spec (x := x2) (tl := tl2) (l := (lvls.getD n [])) hbp24 hs2v hDtb (fun k hk => hDtn k (Nat.le_trans HC.size hk)) hct2v (hvS) (by first | decide | (simp; done) | exact lv_len _)) ?_
      rintro _ w25 ⟨(⟨hC26, rfl, At26, capt26, hb26, hs26, hct26⟩ | ⟨hC26, rfl, hb26, hs26⟩), c26⟩
      ·replace HC := HC.cB c26
       replace ht := ht.tr c26 (by intro hx; have hlt := ht1; simp only [List.mem_cons, List.mem_nil_iff, or_false] at hx; first | exact hone2 hx | omega)
       replace hlv := hlv.tr c26 (by intro k hx hD; obtain rfl := List.mem_singleton.1 hx; omega)
       replace hb10 := hb10.tr1 c26 (Ne.symm ne_b_b5)
       replace hop24 := hop24.tN c26 ndD7_b
       exact absurd hC26.1 he2
      ·replace HC := HC.cB c26
       replace ht := ht.tr c26 (by intro hx; have hlt := ht1; simp only [List.mem_cons, List.mem_nil_iff, or_false] at hx; first | exact hone2 hx | omega)
       replace hlv := hlv.tr c26 (by intro k hx hD; obtain rfl := List.mem_singleton.1 hx; omega)
       replace hb10 := hb10.tr1 c26 (Ne.symm ne_b_b5)
       replace hop24 := hop24.tN c26 ndD7_b
       refine mv (v := .tuple ⟨[_, _]⟩) rfl <| Wp rfl <| st_extract (vs := [_, _]) (v := S _) rfl rfl <| Wp rfl <| st_extract (vs := [_, _]) (v := .bool _) rfl rfl <| aS rfl <| aB rfl <| en <| ⟨(false, [], ((out2.length : Nat) : Int), (x2 :: tl2), (out2 ++ [⟨op, 0, [], [kk, k2]⟩]), 0, (At2, capt2, Aop24, capop24), a2, e2), ?_, ?_, rfl, ⟨rfl, rfl, rfl, trivial⟩, ?_⟩
       ·refine ⟨?_, HC, ht, hlv, hb10, hb26, hs26, hop24⟩
        exact ⟨by simp, hct2v, (by simp only [List.length_append, List.length_cons, List.length_nil, if_pos, Bool.false_eq_true, if_false] at *; omega), Nat.zero_le _, .inr (.inr ⟨rfl, he2, hr2⟩)⟩
       ·show (if false = true then _ else _) < (if tk = true then tsl.length + 1 else 0); rw [h1, if_pos rfl]; first | (rw [if_neg (by simp)]; omega) | (rw [if_pos rfl]; simp only [List.length_cons] at *; omega)
       repeat (first | exact agree_upds agree_over rfl | refine agree_upd ?_ rfl | refine agree_upds ?_ rfl | refine agree_over_sub ?_ rfl)
     ·obtain ⟨rfl, ⟨At2, capt2, Ao2, capo2, hb2v, hs2v, hct2v, ho2v⟩, hwf2, ⟨hm2, hl2⟩, cP2⟩ := hP
      replace HC := HC.trans cP2 (fun k h => .inl (h.imp (subD7 k) id))
      replace ht := ht.trP cP2 (fun h => h.elim (fun h => hone1 (subD7 0 h)) hone2)
      replace hlv := hlv.trP cP2 (fun k hD h => hlo1 k hD (h.imp (sD7 k) id))
      replace hb10 := hb10.trP cP2 (fun h => h.elim nD7 (Ne.symm ne_b_b5))
      have hg2 := hr2
      dsimp only at hg2
      obtain ⟨x2, tl2, rfl⟩ := hwf2.ne
      have hq2 := hl2
      simp only [List.length_cons] at hq2
      have hqm2 := hm2
      simp only [List.length_cons] at hqm2
      refine Wp rfl <| st_lit (ps := [(0, .tmp 39), (1, .tmp 43)]) (vs := [.int _ _, .int _ _]) T.lit36 (by decide) rfl (by simp only [List.forall_mem_cons, List.not_mem_nil, false_imp_iff, implies_true, and_true]; exact ⟨rfl, rfl⟩) rfl ?_
      intro b27 w28 e29 c30 hb31
      have ge_b27 : w.heap.size ≤ b27 := by rw [e29]; exact HC.size
      have ne_b5_b27 : b5 ≠ b27 := by rw [e29]; exact hb10.ne_size
      have ne_b_b27 : b ≠ b27 := by rw [e29]; exact hb2v.ne_size
      have geF_b27 : b5 + 1 ≤ b27 := by rw [e29]; exact hb10.lt
      have nal_b27 : b27 ∉ ob Ao2 := ho2v.fresh (by rw [e29]; exact Nat.le_refl _)
      replace HC := HC.chg0 c30
      replace ht := ht.tr0 c30
      replace hlv := hlv.tr c30 (fun k hx => absurd hx (by simp))
      replace hb10 := hb10.tr0 c30
      replace hb2v := hb2v.tr0 c30
      replace hs2v := hs2v.tr0 c30
      replace ho2v := ho2v.tr0 c30
      clear e29
      refine Wp rfl <| st_bld (ps := [(0, .tmp 38), (3, .tmp 44)]) (vs := [S _, .int _ _, S _, .slice _ _ _]) T.bld38 rfl ?_
      have nak_b27 : b27 ∉ ob Ao2 := nal_b27
      refine Wp rfl <| st_call (ags := [_, _]) rfl rfl T.ent46 rfl (put_spec (D := D7) (x := ⟨op, 0, [], [kk, k2]⟩) (fun k hk => frD7 k (by have h1 := hb10.lt; omega)) ndD7_b hb2v ho2v (kid_one (ks := [kk, k2]) (show Blk _ _ (([kk, k2] : List Int).flatMap fun x => [.int .i64 x]) _ from hb31) (by simp) ⟨frD7 _ (by exact geF_b27), nak_b27⟩) (by omega)) ?_
      rintro _ w32 ⟨rfl, ⟨Aop33, capop33, hbp33, hop33⟩, c33⟩
      replace HC := HC.chg c33 (fun k hk => .inl ((List.mem_cons.1 hk).elim .inr (fun h => .inl (subD7 k (ho2v.inD k h)))))
      replace ht := ht.tr c33 (fun hx => (List.mem_cons.1 hx).elim hone2 (fun h => hone1 (subD7 0 (ho2v.inD 0 h))))
      replace hlv := hlv.tr c33 (fun k hx hD => (List.mem_cons.1 hx).elim (fun h => hlo1 k hD (.inr h)) (fun h => hlo1 k hD (.inl (sD7 k (ho2v.inD k h)))))
      replace hb10 := hb10.tr c33 (fun hx => (List.mem_cons.1 hx).elim (fun h => absurd h.symm ne_b_b5) (fun h => nD7 (ho2v.inD _ h)))
      replace hs2v := hs2v.tr c33 (fun k hk hD => (List.mem_cons.1 hk).elim (hDt k hD).2 (fun h => (hDt k hD).1 (subD7 k (ho2v.inD k h))))
      refine aI rfl <| wops_nil <| block_n <| then_n ?_
      obtain ⟨fl2, rfl⟩ : ∃ z, fl = z + 1 := by
                    cases fl with
                    | zero => cases hg2
                    | succ z => exact ⟨z, rfl⟩
      rw [pP] at hg2
      obtain ⟨Av, cv, hnv0, hvS⟩ := hlv.get (n := n) (by show n < 10; omega)
      have hnv : nthV [.slice L0 1 lc0, .slice L1 1 lc1, .slice L2 1 lc2, .slice L3 1 lc3, .slice L4 1 lc4, .slice L5 2 lc5, .slice L6 4 lc6, .slice L7 2 lc7, .slice L8 2 lc8, .slice L9 3 lc9] (0 + ((n : Nat) : Int).toNat * 1) = some (.slice Av (lvls.getD n []).length cv) := by rw [show 0 + ((n : Nat) : Int).toNat * 1 = n by simp]; exact hnv0
      refine x_region rfl <| mP rfl <| mI rfl <| Wp rfl <| st_arrAddr T.u128 T.size62 rfl rfl (by omega) (by omega) <| lL T.one62 rfl (hb10.cell hnv) <| Wp rfl <| st_call (ags := [_, _]) rfl rfl T.ent65 rfl (take_spec (x := x2) (tl := tl2) (l := (lvls.getD n [])) hbp33 hs2v hDtb (fun k hk => hDtn k (Nat.le_trans HC.size hk)) hct2v (hvS) (by first | decide | (simp; done) | exact lv_len _)) ?_
      rintro _ w34 ⟨(⟨hC35, rfl, At35, capt35, hb35, hs35, hct35⟩ | ⟨hC35, rfl, hb35, hs35⟩), c35⟩
      ·replace HC := HC.cB c35
       replace ht := ht.tr c35 (by intro hx; have hlt := ht1; simp only [List.mem_cons, List.mem_nil_iff, or_false] at hx; first | exact hone2 hx | omega)
       replace hlv := hlv.tr c35 (by intro k hx hD; obtain rfl := List.mem_singleton.1 hx; omega)
       replace hb10 := hb10.tr1 c35 (Ne.symm ne_b_b5)
       replace hop33 := hop33.tN c35 ndD7_b
       rw [if_pos (in_iff.2 hC35.2)] at hg2
       simp only [List.drop_succ_cons, List.drop_zero] at hg2
       have hwft2 : WfT tl2 := hwf2.tl (by have := hC35.2.1; omega)
       refine mv (v := .tuple ⟨[_, _]⟩) rfl <| Wp rfl <| st_extract (vs := [_, _]) (v := S _) rfl rfl <| Wp rfl <| st_extract (vs := [_, _]) (v := .bool _) rfl rfl <| aS rfl <| aB rfl <| en <| ⟨(true, x2.1.2.2, ((out2.length : Nat) : Int), tl2, (out2 ++ [⟨op, 0, [], [kk, k2]⟩]), fl2, (At35, capt35, Aop33, capop33), pl, 0), ?_, ?_, rfl, ⟨rfl, rfl, rfl, trivial⟩, ?_⟩
       ·refine ⟨?_, HC, ht, hlv, hb10, hb35, hs35, hop33⟩
        exact ⟨(by obtain ⟨y, z, e⟩ := hwft2.ne; rw [e]; simp), hct35, (by simp only [List.length_append, List.length_cons, List.length_nil, if_pos, Bool.false_eq_true, if_false] at *; omega), by omega, .inl ⟨rfl, rfl, rfl, hwft2, (by simp only [List.length_append, List.length_cons, List.length_nil, if_pos, Bool.false_eq_true, if_false] at *; omega), hg2⟩⟩
       ·show (if true = true then _ else _) < (if tk = true then tsl.length + 1 else 0); rw [h1, if_pos rfl]; first | (rw [if_neg (by simp)]; omega) | (rw [if_pos rfl]; simp only [List.length_cons] at *; omega)
       repeat (first | exact agree_upds agree_over rfl | refine agree_upd ?_ rfl | refine agree_upds ?_ rfl | refine agree_over_sub ?_ rfl)
      ·replace HC := HC.cB c35
       replace ht := ht.tr c35 (by intro hx; have hlt := ht1; simp only [List.mem_cons, List.mem_nil_iff, or_false] at hx; first | exact hone2 hx | omega)
       replace hlv := hlv.tr c35 (by intro k hx hD; obtain rfl := List.mem_singleton.1 hx; omega)
       replace hb10 := hb10.tr1 c35 (Ne.symm ne_b_b5)
       replace hop33 := hop33.tN c35 ndD7_b
       rw [if_neg (fun h => hC35 ⟨rfl, in_iff.1 h⟩)] at hg2
       have hrr2 := (Option.some.inj hg2).symm
       refine mv (v := .tuple ⟨[_, _]⟩) rfl <| Wp rfl <| st_extract (vs := [_, _]) (v := S _) rfl rfl <| Wp rfl <| st_extract (vs := [_, _]) (v := .bool _) rfl rfl <| aS rfl <| aB rfl <| en <| ⟨(false, [], ((out2.length : Nat) : Int), (x2 :: tl2), (out2 ++ [⟨op, 0, [], [kk, k2]⟩]), 0, (At2, capt2, Aop33, capop33), pl, 0), ?_, ?_, rfl, ⟨rfl, rfl, rfl, trivial⟩, ?_⟩
       ·refine ⟨?_, HC, ht, hlv, hb10, hb35, hs35, hop33⟩
        exact ⟨by simp, hct2v, (by simp only [List.length_append, List.length_cons, List.length_nil, if_pos, Bool.false_eq_true, if_false] at *; omega), Nat.zero_le _, .inr (.inl ⟨rfl, rfl, rfl, hwf2, (by simp only [List.length_append, List.length_cons, List.length_nil, if_pos, Bool.false_eq_true, if_false] at *; omega), hrr2⟩)⟩
       ·show (if false = true then _ else _) < (if tk = true then tsl.length + 1 else 0); rw [h1, if_pos rfl]; first | (rw [if_neg (by simp)]; omega) | (rw [if_pos rfl]; simp only [List.length_cons] at *; omega)
       repeat (first | exact agree_upds agree_over rfl | refine agree_upd ?_ rfl | refine agree_upds ?_ rfl | refine agree_over_sub ?_ rfl)
    ·try simp only [nm, ne_eq] at h1
     refine x_exit <| then_x <| then_x <| block_x <| then_n <| sr rfl <| mI rfl <| aI rfl <| en <| x_ret <| ret_tmp (v := .int _ _) rfl rfl ?_
     obtain ⟨z1, z2, z3, (⟨rfl, rfl, z6, z8, z7⟩ | ⟨z4, z5⟩)⟩ := hLI.stop (by simpa using h1)
     · rw [z7]; exact ⟨rfl, ⟨_, _, _, _, hbl, hsl, z2, hol.mono (fun k _ h => subD7 k h)⟩, z6, ⟨z8, by rw [hBB]; omega⟩, HC⟩
     · rw [z5]; exact ⟨z4, ⟨_, rfl⟩, ⟨_, _, z1, by rw [hBB]; omega, ⟨_, _, _, _, hbl, hsl, z2, hol.mono (fun k _ h => subD7 k h)⟩⟩, HC⟩
  ·obtain ⟨rfl, ⟨At1, capt1, Ao1, capo1, hb1v, hs1v, hct1v, ho1v⟩, hwf1, ⟨hm1, hl1⟩, cP1⟩ := hP
   replace HC := HC.trans cP1 (fun k h => .inl (h.imp (subD7 k) id))
   replace ht := ht.trP cP1 (fun h => h.elim (fun h => hone1 (subD7 0 h)) hone2)
   replace hlv := hlv.trP cP1 (fun k hD h => hlo1 k hD (h.imp (sD7 k) id))
   replace hb10 := hb10.trP cP1 (fun h => h.elim nD7 (Ne.symm ne_b_b5))
   have hg1 := hr1
   dsimp only at hg1
   obtain ⟨x1, tl1, rfl⟩ := hwf1.ne
   have hq1 := hl1
   simp only [List.length_cons] at hq1
   have hqm1 := hm1
   simp only [List.length_cons] at hqm1
   obtain ⟨f1, rfl⟩ : ∃ z, f = z + 1 := by
           cases f with
           | zero => cases hg1
           | succ z => exact ⟨z, rfl⟩
   rw [pP] at hg1
   refine aI rfl <| en <| x_seq <| x_seq ?_
   obtain ⟨Av, cv, hnv0, hvS⟩ := hlv.get (n := n) (by show n < 10; omega)
   have hnv : nthV [.slice L0 1 lc0, .slice L1 1 lc1, .slice L2 1 lc2, .slice L3 1 lc3, .slice L4 1 lc4, .slice L5 2 lc5, .slice L6 4 lc6, .slice L7 2 lc7, .slice L8 2 lc8, .slice L9 3 lc9] (0 + ((n : Nat) : Int).toNat * 1) = some (.slice Av (lvls.getD n []).length cv) := by rw [show 0 + ((n : Nat) : Int).toNat * 1 = n by simp]; exact hnv0
   refine x_region rfl <| mP rfl <| mI rfl <| Wp rfl <| st_arrAddr T.u128 T.size62 rfl rfl (by omega) (by omega) <| lL T.one62 rfl (hb10.cell hnv) <| Wp rfl <| st_call (ags := [_, _]) rfl rfl T.ent65 rfl (take_spec (x := x1) (tl := tl1) (l := (lvls.getD n [])) hb1v hs1v hDtb (fun k hk => hDtn k (Nat.le_trans HC.size hk)) hct1v (hvS) (by first | decide | (simp; done) | exact lv_len _)) ?_
   rintro _ w36 ⟨(⟨hC37, rfl, At37, capt37, hb37, hs37, hct37⟩ | ⟨hC37, rfl, hb37, hs37⟩), c37⟩
   ·replace HC := HC.cB c37
    replace ht := ht.tr c37 (by intro hx; have hlt := ht1; simp only [List.mem_cons, List.mem_nil_iff, or_false] at hx; first | exact hone2 hx | omega)
    replace hlv := hlv.tr c37 (by intro k hx hD; obtain rfl := List.mem_singleton.1 hx; omega)
    replace hb10 := hb10.tr1 c37 (Ne.symm ne_b_b5)
    replace ho1v := ho1v.tN c37 ndD7_b
    rw [if_pos (in_iff.2 hC37.2)] at hg1
    simp only [List.drop_succ_cons, List.drop_zero] at hg1
    have hwft1 : WfT tl1 := hwf1.tl (by have := hC37.2.1; omega)
    refine mv (v := .tuple ⟨[_, _]⟩) rfl <| Wp rfl <| st_extract (vs := [_, _]) (v := S _) rfl rfl <| Wp rfl <| st_extract (vs := [_, _]) (v := .bool _) rfl rfl <| aS rfl <| aB rfl <| en <| x_block <| x_loop (ι := Bool × Bytes × Int × List Tk × List Nd × Nat × (Option Addr × Nat × Option Addr × Nat) × Int × Int) [6, 7, 8, 28, 29, 30, 31, 32, 33, 34, 35, 36, 37, 38, 39, 40, 41, 42, 43, 44, 45, 46] (fun ⟨tk, op, kk, tsl, outl, fl, ⟨Atl, cpl, Aol, col⟩, pll, el⟩ => [(8, .bool tk), (7, S op), (6, .int .i64 kk)]) (fun ⟨tk, op, kk, tsl, outl, fl, ⟨Atl, cpl, Aol, col⟩, pll, el⟩ W => (LI n d (f1 + 1) (out.length + (tl.length + 1)) (tl.length + 1) r pl tk op kk tsl outl fl cpl pll el) ∧ (ChgP (fun k => D k ∨ k = b) w W) ∧ (Tab W) ∧ (LvAt W (fun k => w.heap.size ≤ k ∧ k < w1.heap.size) [.slice L0 1 lc0, .slice L1 1 lc1, .slice L2 1 lc2, .slice L3 1 lc3, .slice L4 1 lc4, .slice L5 2 lc5, .slice L6 4 lc6, .slice L7 2 lc7, .slice L8 2 lc8, .slice L9 3 lc9] lvls) ∧ (Blk W b5 [.slice L0 1 lc0, .slice L1 1 lc1, .slice L2 1 lc2, .slice L3 1 lc3, .slice L4 1 lc4, .slice L5 2 lc5, .slice L6 4 lc6, .slice L7 2 lc7, .slice L8 2 lc8, .slice L9 3 lc9] 128) ∧ (Blk W b [.slice Atl tsl.length cpl, .slice Aol outl.length col, .int .i64 (d : Int), .int .i64 pll, .int .i64 el] 68) ∧ (Sl tkE W Dt Atl tsl) ∧ (Own ndE 38 W D7 Aol col outl)) (fun ⟨tk, op, kk, tsl, outl, fl, ⟨Atl, cpl, Aol, col⟩, pll, el⟩ => if tk = true then tsl.length + 1 else 0) (true, x1.1.2.2, k1, tl1, out1, f1, (At37, capt37, Ao1, capo1), pl, 0) ?_ ?_ ?_
    · exact ⟨rfl, rfl, rfl, trivial⟩
    ·refine ⟨?_, HC, ht, hlv, hb10, hb37, hs37, ho1v⟩
     exact ⟨(by obtain ⟨y, z, e⟩ := hwft1.ne; rw [e]; simp), hct37, (by simp only [List.length_append, List.length_cons, List.length_nil, if_pos, Bool.false_eq_true, if_false] at *; omega), by omega, .inl ⟨rfl, rfl, rfl, hwft1, (by simp only [List.length_append, List.length_cons, List.length_nil, if_pos, Bool.false_eq_true, if_false] at *; omega), hg1⟩⟩
    intro ⟨tk, op, kk, tsl, outl, fl, ⟨Atl, cpl, Aol, col⟩, pll, el⟩ G39 w38 ⟨hLI, HC, ht, hlv, hb10, hbl, hsl, hol⟩
    change wp _ _ _ _ _ (upds (over _ _ G39) [(8, .bool tk), (7, S op), (6, .int .i64 kk)]) _ _
    refine x_seq <| sr rfl <| mB rfl <| en <| x_cond rfl (fun h1 => ?_) (fun h1 => ?_)
    ·try simp only [nm, ne_eq] at h1
     obtain ⟨he0, hpl0, hwfl, hT0, hcont, hcpl, hfl, hBl⟩ := hLI.go h1
     obtain rfl := he0
     obtain rfl := hpl0.symm
     have hlenl : outl.length + tsl.length ≤ 1000000000 := by omega
     refine x_skip <| then_n <| x_seq <| x_block <| x_region rfl <| mP rfl <| mS rfl <| mI rfl <| mP rfl <| mI rfl <| Wp rfl <| st_addk rfl rfl (by exact hn1) ?_
     obtain ⟨ri2, hw2, hr2⟩ := bind_some (hcont)
     refine Wp rfl <| st_call (ags := [_, _]) rfl rfl T.ent64 rfl ((ihs fl hfl).lev (n + 1) (by omega) _ _ _ _ _ _ _ _ _ ⟨(fun k hk => frD7 k (by have h1 := hb10.lt; omega)), ndD7_b, (fun k h => ⟨fun h2 => (hDt k h).1 (subD7 k (h2)), (hDt k h).2⟩), ⟨_, _, _, _, hbl, hsl, hcpl, hol⟩, hwfl, hd, hlenl, ht, (fun h => hone1 (subD7 0 (h))), hone2⟩ hw2) ?_
     rintro v2 w40 hP
     rcases ri2 with ⟨e2, a2⟩ | ⟨k2, ts2, out2⟩
     ·obtain ⟨he2, ⟨k2, rfl⟩, ⟨ts2, out2, hne2, hl2, At2, capt2, Ao2, capo2, hb2v, hs2v, hct2v, ho2v⟩, cP2⟩ := hP
      replace HC := HC.trans cP2 (fun k h => .inl (h.imp (subD7 k) id))
      replace ht := ht.trP cP2 (fun h => h.elim (fun h => hone1 (subD7 0 h)) hone2)
      replace hlv := hlv.trP cP2 (fun k hD h => hlo1 k hD (h.imp (sD7 k) id))
      replace hb10 := hb10.trP cP2 (fun h => h.elim nD7 (Ne.symm ne_b_b5))
      obtain ⟨x2, tl2, rfl⟩ := List.exists_cons_of_ne_nil hne2
      have hq2 := hl2
      simp only [List.length_cons] at hq2
      refine Wp rfl <| st_lit (ps := [(0, .tmp 39), (1, .tmp 43)]) (vs := [.int _ _, .int _ _]) T.lit36 (by decide) rfl (by simp only [List.forall_mem_cons, List.not_mem_nil, false_imp_iff, implies_true, and_true]; exact ⟨rfl, rfl⟩) rfl ?_
      intro b41 w42 e43 c44 hb45
      have ge_b41 : w.heap.size ≤ b41 := by rw [e43]; exact HC.size
      have ne_b5_b41 : b5 ≠ b41 := by rw [e43]; exact hb10.ne_size
      have ne_b_b41 : b ≠ b41 := by rw [e43]; exact hb2v.ne_size
      have geF_b41 : b5 + 1 ≤ b41 := by rw [e43]; exact hb10.lt
      have nal_b41 : b41 ∉ ob Ao2 := ho2v.fresh (by rw [e43]; exact Nat.le_refl _)
      replace HC := HC.chg0 c44
      replace ht := ht.tr0 c44
      replace hlv := hlv.tr c44 (fun k hx => absurd hx (by simp))
      replace hb10 := hb10.tr0 c44
      replace hb2v := hb2v.tr0 c44
      replace hs2v := hs2v.tr0 c44
      replace ho2v := ho2v.tr0 c44
      clear e43
      refine Wp rfl <| st_bld (ps := [(0, .tmp 38), (3, .tmp 44)]) (vs := [S _, .int _ _, S _, .slice _ _ _]) T.bld38 rfl ?_
      have nak_b41 : b41 ∉ ob Ao2 := nal_b41
      refine Wp rfl <| st_call (ags := [_, _]) rfl rfl T.ent46 rfl (put_spec (D := D7) (x := ⟨op, 0, [], [kk, k2]⟩) (fun k hk => frD7 k (by have h1 := hb10.lt; omega)) ndD7_b hb2v ho2v (kid_one (ks := [kk, k2]) (show Blk _ _ (([kk, k2] : List Int).flatMap fun x => [.int .i64 x]) _ from hb45) (by simp) ⟨frD7 _ (by exact geF_b41), nak_b41⟩) (by omega)) ?_
      rintro _ w46 ⟨rfl, ⟨Aop47, capop47, hbp47, hop47⟩, c47⟩
      replace HC := HC.chg c47 (fun k hk => .inl ((List.mem_cons.1 hk).elim .inr (fun h => .inl (subD7 k (ho2v.inD k h)))))
      replace ht := ht.tr c47 (fun hx => (List.mem_cons.1 hx).elim hone2 (fun h => hone1 (subD7 0 (ho2v.inD 0 h))))
      replace hlv := hlv.tr c47 (fun k hx hD => (List.mem_cons.1 hx).elim (fun h => hlo1 k hD (.inr h)) (fun h => hlo1 k hD (.inl (sD7 k (ho2v.inD k h)))))
      replace hb10 := hb10.tr c47 (fun hx => (List.mem_cons.1 hx).elim (fun h => absurd h.symm ne_b_b5) (fun h => nD7 (ho2v.inD _ h)))
      replace hs2v := hs2v.tr c47 (fun k hk hD => (List.mem_cons.1 hk).elim (hDt k hD).2 (fun h => (hDt k hD).1 (subD7 k (ho2v.inD k h))))
      refine aI rfl <| wops_nil <| block_n <| then_n ?_
      obtain ⟨Av, cv, hnv0, hvS⟩ := hlv.get (n := n) (by show n < 10; omega)
      have hnv : nthV [.slice L0 1 lc0, .slice L1 1 lc1, .slice L2 1 lc2, .slice L3 1 lc3, .slice L4 1 lc4, .slice L5 2 lc5, .slice L6 4 lc6, .slice L7 2 lc7, .slice L8 2 lc8, .slice L9 3 lc9] (0 + ((n : Nat) : Int).toNat * 1) = some (.slice Av (lvls.getD n []).length cv) := by rw [show 0 + ((n : Nat) : Int).toNat * 1 = n by simp]; exact hnv0
      refine x_region rfl <| mP rfl <| mI rfl <| Wp rfl <| st_arrAddr T.u128 T.size62 rfl rfl (by omega) (by omega) <| lL T.one62 rfl (hb10.cell hnv) <| Wp rfl <| st_call (ags := [_, _]) rfl rfl T.ent65 rfl (take_spec (x := x2) (tl := tl2) (l := (lvls.getD n [])) hbp47 hs2v hDtb (fun k hk => hDtn k (Nat.le_trans HC.size hk)) hct2v (hvS) (by first | decide | (simp; done) | exact lv_len _)) ?_
      rintro _ w48 ⟨(⟨hC49, rfl, At49, capt49, hb49, hs49, hct49⟩ | ⟨hC49, rfl, hb49, hs49⟩), c49⟩
      ·replace HC := HC.cB c49
       replace ht := ht.tr c49 (by intro hx; have hlt := ht1; simp only [List.mem_cons, List.mem_nil_iff, or_false] at hx; first | exact hone2 hx | omega)
       replace hlv := hlv.tr c49 (by intro k hx hD; obtain rfl := List.mem_singleton.1 hx; omega)
       replace hb10 := hb10.tr1 c49 (Ne.symm ne_b_b5)
       replace hop47 := hop47.tN c49 ndD7_b
       exact absurd hC49.1 he2
      ·replace HC := HC.cB c49
       replace ht := ht.tr c49 (by intro hx; have hlt := ht1; simp only [List.mem_cons, List.mem_nil_iff, or_false] at hx; first | exact hone2 hx | omega)
       replace hlv := hlv.tr c49 (by intro k hx hD; obtain rfl := List.mem_singleton.1 hx; omega)
       replace hb10 := hb10.tr1 c49 (Ne.symm ne_b_b5)
       replace hop47 := hop47.tN c49 ndD7_b
       refine mv (v := .tuple ⟨[_, _]⟩) rfl <| Wp rfl <| st_extract (vs := [_, _]) (v := S _) rfl rfl <| Wp rfl <| st_extract (vs := [_, _]) (v := .bool _) rfl rfl <| aS rfl <| aB rfl <| en <| ⟨(false, [], ((out2.length : Nat) : Int), (x2 :: tl2), (out2 ++ [⟨op, 0, [], [kk, k2]⟩]), 0, (At2, capt2, Aop47, capop47), a2, e2), ?_, ?_, rfl, ⟨rfl, rfl, rfl, trivial⟩, ?_⟩
       ·refine ⟨?_, HC, ht, hlv, hb10, hb49, hs49, hop47⟩
        exact ⟨by simp, hct2v, (by simp only [List.length_append, List.length_cons, List.length_nil, if_pos, Bool.false_eq_true, if_false] at *; omega), Nat.zero_le _, .inr (.inr ⟨rfl, he2, hr2⟩)⟩
       ·show (if false = true then _ else _) < (if tk = true then tsl.length + 1 else 0); rw [h1, if_pos rfl]; first | (rw [if_neg (by simp)]; omega) | (rw [if_pos rfl]; simp only [List.length_cons] at *; omega)
       repeat (first | exact agree_upds agree_over rfl | refine agree_upd ?_ rfl | refine agree_upds ?_ rfl | refine agree_over_sub ?_ rfl)
     ·obtain ⟨rfl, ⟨At2, capt2, Ao2, capo2, hb2v, hs2v, hct2v, ho2v⟩, hwf2, ⟨hm2, hl2⟩, cP2⟩ := hP
      replace HC := HC.trans cP2 (fun k h => .inl (h.imp (subD7 k) id))
      replace ht := ht.trP cP2 (fun h => h.elim (fun h => hone1 (subD7 0 h)) hone2)
      replace hlv := hlv.trP cP2 (fun k hD h => hlo1 k hD (h.imp (sD7 k) id))
      replace hb10 := hb10.trP cP2 (fun h => h.elim nD7 (Ne.symm ne_b_b5))
      have hg2 := hr2
      dsimp only at hg2
      obtain ⟨x2, tl2, rfl⟩ := hwf2.ne
      have hq2 := hl2
      simp only [List.length_cons] at hq2
      have hqm2 := hm2
      simp only [List.length_cons] at hqm2
      refine Wp rfl <| st_lit (ps := [(0, .tmp 39), (1, .tmp 43)]) (vs := [.int _ _, .int _ _]) T.lit36 (by decide) rfl (by simp only [List.forall_mem_cons, List.not_mem_nil, false_imp_iff, implies_true, and_true]; exact ⟨rfl, rfl⟩) rfl ?_
      intro b50 w51 e52 c53 hb54
      have ge_b50 : w.heap.size ≤ b50 := by rw [e52]; exact HC.size
      have ne_b5_b50 : b5 ≠ b50 := by rw [e52]; exact hb10.ne_size
      have ne_b_b50 : b ≠ b50 := by rw [e52]; exact hb2v.ne_size
      have geF_b50 : b5 + 1 ≤ b50 := by rw [e52]; exact hb10.lt
      have nal_b50 : b50 ∉ ob Ao2 := ho2v.fresh (by rw [e52]; exact Nat.le_refl _)
      replace HC := HC.chg0 c53
      replace ht := ht.tr0 c53
      replace hlv := hlv.tr c53 (fun k hx => absurd hx (by simp))
      replace hb10 := hb10.tr0 c53
      replace hb2v := hb2v.tr0 c53
      replace hs2v := hs2v.tr0 c53
      replace ho2v := ho2v.tr0 c53
      clear e52
      refine Wp rfl <| st_bld (ps := [(0, .tmp 38), (3, .tmp 44)]) (vs := [S _, .int _ _, S _, .slice _ _ _]) T.bld38 rfl ?_
      have nak_b50 : b50 ∉ ob Ao2 := nal_b50
      refine Wp rfl <| st_call (ags := [_, _]) rfl rfl T.ent46 rfl (put_spec (D := D7) (x := ⟨op, 0, [], [kk, k2]⟩) (fun k hk => frD7 k (by have h1 := hb10.lt; omega)) ndD7_b hb2v ho2v (kid_one (ks := [kk, k2]) (show Blk _ _ (([kk, k2] : List Int).flatMap fun x => [.int .i64 x]) _ from hb54) (by simp) ⟨frD7 _ (by exact geF_b50), nak_b50⟩) (by omega)) ?_
      rintro _ w55 ⟨rfl, ⟨Aop56, capop56, hbp56, hop56⟩, c56⟩
      replace HC := HC.chg c56 (fun k hk => .inl ((List.mem_cons.1 hk).elim .inr (fun h => .inl (subD7 k (ho2v.inD k h)))))
      replace ht := ht.tr c56 (fun hx => (List.mem_cons.1 hx).elim hone2 (fun h => hone1 (subD7 0 (ho2v.inD 0 h))))
      replace hlv := hlv.tr c56 (fun k hx hD => (List.mem_cons.1 hx).elim (fun h => hlo1 k hD (.inr h)) (fun h => hlo1 k hD (.inl (sD7 k (ho2v.inD k h)))))
      replace hb10 := hb10.tr c56 (fun hx => (List.mem_cons.1 hx).elim (fun h => absurd h.symm ne_b_b5) (fun h => nD7 (ho2v.inD _ h)))
      replace hs2v := hs2v.tr c56 (fun k hk hD => (List.mem_cons.1 hk).elim (hDt k hD).2 (fun h => (hDt k hD).1 (subD7 k (ho2v.inD k h))))
      refine aI rfl <| wops_nil <| block_n <| then_n ?_
      obtain ⟨fl2, rfl⟩ : ∃ z, fl = z + 1 := by
                    cases fl with
                    | zero => cases hg2
                    | succ z => exact ⟨z, rfl⟩
      rw [pP] at hg2
      obtain ⟨Av, cv, hnv0, hvS⟩ := hlv.get (n := n) (by show n < 10; omega)
      have hnv : nthV [.slice L0 1 lc0, .slice L1 1 lc1, .slice L2 1 lc2, .slice L3 1 lc3, .slice L4 1 lc4, .slice L5 2 lc5, .slice L6 4 lc6, .slice L7 2 lc7, .slice L8 2 lc8, .slice L9 3 lc9] (0 + ((n : Nat) : Int).toNat * 1) = some (.slice Av (lvls.getD n []).length cv) := by rw [show 0 + ((n : Nat) : Int).toNat * 1 = n by simp]; exact hnv0
      refine x_region rfl <| mP rfl <| mI rfl <| Wp rfl <| st_arrAddr T.u128 T.size62 rfl rfl (by omega) (by omega) <| lL T.one62 rfl (hb10.cell hnv) <| Wp rfl <| st_call (ags := [_, _]) rfl rfl T.ent65 rfl (take_spec (x := x2) (tl := tl2) (l := (lvls.getD n [])) hbp56 hs2v hDtb (fun k hk => hDtn k (Nat.le_trans HC.size hk)) hct2v (hvS) (by first | decide | (simp; done) | exact lv_len _)) ?_
      rintro _ w57 ⟨(⟨hC58, rfl, At58, capt58, hb58, hs58, hct58⟩ | ⟨hC58, rfl, hb58, hs58⟩), c58⟩
      ·replace HC := HC.cB c58
       replace ht := ht.tr c58 (by intro hx; have hlt := ht1; simp only [List.mem_cons, List.mem_nil_iff, or_false] at hx; first | exact hone2 hx | omega)
       replace hlv := hlv.tr c58 (by intro k hx hD; obtain rfl := List.mem_singleton.1 hx; omega)
       replace hb10 := hb10.tr1 c58 (Ne.symm ne_b_b5)
       replace hop56 := hop56.tN c58 ndD7_b
       rw [if_pos (in_iff.2 hC58.2)] at hg2
       simp only [List.drop_succ_cons, List.drop_zero] at hg2
       have hwft2 : WfT tl2 := hwf2.tl (by have := hC58.2.1; omega)
       refine mv (v := .tuple ⟨[_, _]⟩) rfl <| Wp rfl <| st_extract (vs := [_, _]) (v := S _) rfl rfl <| Wp rfl <| st_extract (vs := [_, _]) (v := .bool _) rfl rfl <| aS rfl <| aB rfl <| en <| ⟨(true, x2.1.2.2, ((out2.length : Nat) : Int), tl2, (out2 ++ [⟨op, 0, [], [kk, k2]⟩]), fl2, (At58, capt58, Aop56, capop56), pl, 0), ?_, ?_, rfl, ⟨rfl, rfl, rfl, trivial⟩, ?_⟩
       ·refine ⟨?_, HC, ht, hlv, hb10, hb58, hs58, hop56⟩
        exact ⟨(by obtain ⟨y, z, e⟩ := hwft2.ne; rw [e]; simp), hct58, (by simp only [List.length_append, List.length_cons, List.length_nil, if_pos, Bool.false_eq_true, if_false] at *; omega), by omega, .inl ⟨rfl, rfl, rfl, hwft2, (by simp only [List.length_append, List.length_cons, List.length_nil, if_pos, Bool.false_eq_true, if_false] at *; omega), hg2⟩⟩
       ·show (if true = true then _ else _) < (if tk = true then tsl.length + 1 else 0); rw [h1, if_pos rfl]; first | (rw [if_neg (by simp)]; omega) | (rw [if_pos rfl]; simp only [List.length_cons] at *; omega)
       repeat (first | exact agree_upds agree_over rfl | refine agree_upd ?_ rfl | refine agree_upds ?_ rfl | refine agree_over_sub ?_ rfl)
      ·replace HC := HC.cB c58
       replace ht := ht.tr c58 (by intro hx; have hlt := ht1; simp only [List.mem_cons, List.mem_nil_iff, or_false] at hx; first | exact hone2 hx | omega)
       replace hlv := hlv.tr c58 (by intro k hx hD; obtain rfl := List.mem_singleton.1 hx; omega)
       replace hb10 := hb10.tr1 c58 (Ne.symm ne_b_b5)
       replace hop56 := hop56.tN c58 ndD7_b
       rw [if_neg (fun h => hC58 ⟨rfl, in_iff.1 h⟩)] at hg2
       have hrr2 := (Option.some.inj hg2).symm
       refine mv (v := .tuple ⟨[_, _]⟩) rfl <| Wp rfl <| st_extract (vs := [_, _]) (v := S _) rfl rfl <| Wp rfl <| st_extract (vs := [_, _]) (v := .bool _) rfl rfl <| aS rfl <| aB rfl <| en <| ⟨(false, [], ((out2.length : Nat) : Int), (x2 :: tl2), (out2 ++ [⟨op, 0, [], [kk, k2]⟩]), 0, (At2, capt2, Aop56, capop56), pl, 0), ?_, ?_, rfl, ⟨rfl, rfl, rfl, trivial⟩, ?_⟩
       ·refine ⟨?_, HC, ht, hlv, hb10, hb58, hs58, hop56⟩
        exact ⟨by simp, hct2v, (by simp only [List.length_append, List.length_cons, List.length_nil, if_pos, Bool.false_eq_true, if_false] at *; omega), Nat.zero_le _, .inr (.inl ⟨rfl, rfl, rfl, hwf2, (by simp only [List.length_append, List.length_cons, List.length_nil, if_pos, Bool.false_eq_true, if_false] at *; omega), hrr2⟩)⟩
       ·show (if false = true then _ else _) < (if tk = true then tsl.length + 1 else 0); rw [h1, if_pos rfl]; first | (rw [if_neg (by simp)]; omega) | (rw [if_pos rfl]; simp only [List.length_cons] at *; omega)
       repeat (first | exact agree_upds agree_over rfl | refine agree_upd ?_ rfl | refine agree_upds ?_ rfl | refine agree_over_sub ?_ rfl)
    ·try simp only [nm, ne_eq] at h1
     refine x_exit <| then_x <| then_x <| block_x <| then_n <| sr rfl <| mI rfl <| aI rfl <| en <| x_ret <| ret_tmp (v := .int _ _) rfl rfl ?_
     obtain ⟨z1, z2, z3, (⟨rfl, rfl, z6, z8, z7⟩ | ⟨z4, z5⟩)⟩ := hLI.stop (by simpa using h1)
     · rw [z7]; exact ⟨rfl, ⟨_, _, _, _, hbl, hsl, z2, hol.mono (fun k _ h => subD7 k h)⟩, z6, ⟨z8, by rw [hBB]; omega⟩, HC⟩
     · rw [z5]; exact ⟨z4, ⟨_, rfl⟩, ⟨_, _, z1, by rw [hBB]; omega, ⟨_, _, _, _, hbl, hsl, z2, hol.mono (fun k _ h => subD7 k h)⟩⟩, HC⟩
   ·replace HC := HC.cB c37
    replace ht := ht.tr c37 (by intro hx; have hlt := ht1; simp only [List.mem_cons, List.mem_nil_iff, or_false] at hx; first | exact hone2 hx | omega)
    replace hlv := hlv.tr c37 (by intro k hx hD; obtain rfl := List.mem_singleton.1 hx; omega)
    replace hb10 := hb10.tr1 c37 (Ne.symm ne_b_b5)
    replace ho1v := ho1v.tN c37 ndD7_b
    rw [if_neg (fun h => hC37 ⟨rfl, in_iff.1 h⟩)] at hg1
    have hrr1 := (Option.some.inj hg1).symm
    refine mv (v := .tuple ⟨[_, _]⟩) rfl <| Wp rfl <| st_extract (vs := [_, _]) (v := S _) rfl rfl <| Wp rfl <| st_extract (vs := [_, _]) (v := .bool _) rfl rfl <| aS rfl <| aB rfl <| en <| x_block <| x_loop (ι := Bool × Bytes × Int × List Tk × List Nd × Nat × (Option Addr × Nat × Option Addr × Nat) × Int × Int) [6, 7, 8, 28, 29, 30, 31, 32, 33, 34, 35, 36, 37, 38, 39, 40, 41, 42, 43, 44, 45, 46] (fun ⟨tk, op, kk, tsl, outl, fl, ⟨Atl, cpl, Aol, col⟩, pll, el⟩ => [(8, .bool tk), (7, S op), (6, .int .i64 kk)]) (fun ⟨tk, op, kk, tsl, outl, fl, ⟨Atl, cpl, Aol, col⟩, pll, el⟩ W => (LI n d (f1 + 1) (out.length + (tl.length + 1)) (tl.length + 1) r pl tk op kk tsl outl fl cpl pll el) ∧ (ChgP (fun k => D k ∨ k = b) w W) ∧ (Tab W) ∧ (LvAt W (fun k => w.heap.size ≤ k ∧ k < w1.heap.size) [.slice L0 1 lc0, .slice L1 1 lc1, .slice L2 1 lc2, .slice L3 1 lc3, .slice L4 1 lc4, .slice L5 2 lc5, .slice L6 4 lc6, .slice L7 2 lc7, .slice L8 2 lc8, .slice L9 3 lc9] lvls) ∧ (Blk W b5 [.slice L0 1 lc0, .slice L1 1 lc1, .slice L2 1 lc2, .slice L3 1 lc3, .slice L4 1 lc4, .slice L5 2 lc5, .slice L6 4 lc6, .slice L7 2 lc7, .slice L8 2 lc8, .slice L9 3 lc9] 128) ∧ (Blk W b [.slice Atl tsl.length cpl, .slice Aol outl.length col, .int .i64 (d : Int), .int .i64 pll, .int .i64 el] 68) ∧ (Sl tkE W Dt Atl tsl) ∧ (Own ndE 38 W D7 Aol col outl)) (fun ⟨tk, op, kk, tsl, outl, fl, ⟨Atl, cpl, Aol, col⟩, pll, el⟩ => if tk = true then tsl.length + 1 else 0) (false, [], k1, (x1 :: tl1), out1, 0, (At1, capt1, Ao1, capo1), pl, 0) ?_ ?_ ?_
    · exact ⟨rfl, rfl, rfl, trivial⟩
    ·refine ⟨?_, HC, ht, hlv, hb10, hb37, hs37, ho1v⟩
     exact ⟨by simp, hct1v, (by simp only [List.length_append, List.length_cons, List.length_nil, if_pos, Bool.false_eq_true, if_false] at *; omega), Nat.zero_le _, .inr (.inl ⟨rfl, rfl, rfl, hwf1, (by simp only [List.length_append, List.length_cons, List.length_nil, if_pos, Bool.false_eq_true, if_false] at *; omega), hrr1⟩)⟩
    intro ⟨tk, op, kk, tsl, outl, fl, ⟨Atl, cpl, Aol, col⟩, pll, el⟩ G60 w59 ⟨hLI, HC, ht, hlv, hb10, hbl, hsl, hol⟩
    change wp _ _ _ _ _ (upds (over _ _ G60) [(8, .bool tk), (7, S op), (6, .int .i64 kk)]) _ _
    refine x_seq <| sr rfl <| mB rfl <| en <| x_cond rfl (fun h1 => ?_) (fun h1 => ?_)
    ·try simp only [nm, ne_eq] at h1
     obtain ⟨he0, hpl0, hwfl, hT0, hcont, hcpl, hfl, hBl⟩ := hLI.go h1
     obtain rfl := he0
     obtain rfl := hpl0.symm
     have hlenl : outl.length + tsl.length ≤ 1000000000 := by omega
     refine x_skip <| then_n <| x_seq <| x_block <| x_region rfl <| mP rfl <| mS rfl <| mI rfl <| mP rfl <| mI rfl <| Wp rfl <| st_addk rfl rfl (by exact hn1) ?_
     obtain ⟨ri2, hw2, hr2⟩ := bind_some (hcont)
     refine Wp rfl <| st_call (ags := [_, _]) rfl rfl T.ent64 rfl ((ihs fl hfl).lev (n + 1) (by omega) _ _ _ _ _ _ _ _ _ ⟨(fun k hk => frD7 k (by have h1 := hb10.lt; omega)), ndD7_b, (fun k h => ⟨fun h2 => (hDt k h).1 (subD7 k (h2)), (hDt k h).2⟩), ⟨_, _, _, _, hbl, hsl, hcpl, hol⟩, hwfl, hd, hlenl, ht, (fun h => hone1 (subD7 0 (h))), hone2⟩ hw2) ?_
     rintro v2 w61 hP
     rcases ri2 with ⟨e2, a2⟩ | ⟨k2, ts2, out2⟩
     ·obtain ⟨he2, ⟨k2, rfl⟩, ⟨ts2, out2, hne2, hl2, At2, capt2, Ao2, capo2, hb2v, hs2v, hct2v, ho2v⟩, cP2⟩ := hP
      replace HC := HC.trans cP2 (fun k h => .inl (h.imp (subD7 k) id))
      replace ht := ht.trP cP2 (fun h => h.elim (fun h => hone1 (subD7 0 h)) hone2)
      replace hlv := hlv.trP cP2 (fun k hD h => hlo1 k hD (h.imp (sD7 k) id))
      replace hb10 := hb10.trP cP2 (fun h => h.elim nD7 (Ne.symm ne_b_b5))
      obtain ⟨x2, tl2, rfl⟩ := List.exists_cons_of_ne_nil hne2
      have hq2 := hl2
      simp only [List.length_cons] at hq2
      refine Wp rfl <| st_lit (ps := [(0, .tmp 39), (1, .tmp 43)]) (vs := [.int _ _, .int _ _]) T.lit36 (by decide) rfl (by simp only [List.forall_mem_cons, List.not_mem_nil, false_imp_iff, implies_true, and_true]; exact ⟨rfl, rfl⟩) rfl ?_
      intro b62 w63 e64 c65 hb66
      have ge_b62 : w.heap.size ≤ b62 := by rw [e64]; exact HC.size
      have ne_b5_b62 : b5 ≠ b62 := by rw [e64]; exact hb10.ne_size
      have ne_b_b62 : b ≠ b62 := by rw [e64]; exact hb2v.ne_size
      have geF_b62 : b5 + 1 ≤ b62 := by rw [e64]; exact hb10.lt
      have nal_b62 : b62 ∉ ob Ao2 := ho2v.fresh (by rw [e64]; exact Nat.le_refl _)
      replace HC := HC.chg0 c65
      replace ht := ht.tr0 c65
      replace hlv := hlv.tr c65 (fun k hx => absurd hx (by simp))
      replace hb10 := hb10.tr0 c65
      replace hb2v := hb2v.tr0 c65
      replace hs2v := hs2v.tr0 c65
      replace ho2v := ho2v.tr0 c65
      clear e64
      refine Wp rfl <| st_bld (ps := [(0, .tmp 38), (3, .tmp 44)]) (vs := [S _, .int _ _, S _, .slice _ _ _]) T.bld38 rfl ?_
      have nak_b62 : b62 ∉ ob Ao2 := nal_b62
      refine Wp rfl <| st_call (ags := [_, _]) rfl rfl T.ent46 rfl (put_spec (D := D7) (x := ⟨op, 0, [], [kk, k2]⟩) (fun k hk => frD7 k (by have h1 := hb10.lt; omega)) ndD7_b hb2v ho2v (kid_one (ks := [kk, k2]) (show Blk _ _ (([kk, k2] : List Int).flatMap fun x => [.int .i64 x]) _ from hb66) (by simp) ⟨frD7 _ (by exact geF_b62), nak_b62⟩) (by omega)) ?_
      rintro _ w67 ⟨rfl, ⟨Aop68, capop68, hbp68, hop68⟩, c68⟩
      replace HC := HC.chg c68 (fun k hk => .inl ((List.mem_cons.1 hk).elim .inr (fun h => .inl (subD7 k (ho2v.inD k h)))))
      replace ht := ht.tr c68 (fun hx => (List.mem_cons.1 hx).elim hone2 (fun h => hone1 (subD7 0 (ho2v.inD 0 h))))
      replace hlv := hlv.tr c68 (fun k hx hD => (List.mem_cons.1 hx).elim (fun h => hlo1 k hD (.inr h)) (fun h => hlo1 k hD (.inl (sD7 k (ho2v.inD k h)))))
      replace hb10 := hb10.tr c68 (fun hx => (List.mem_cons.1 hx).elim (fun h => absurd h.symm ne_b_b5) (fun h => nD7 (ho2v.inD _ h)))
      replace hs2v := hs2v.tr c68 (fun k hk hD => (List.mem_cons.1 hk).elim (hDt k hD).2 (fun h => (hDt k hD).1 (subD7 k (ho2v.inD k h))))
      refine aI rfl <| wops_nil <| block_n <| then_n ?_
      obtain ⟨Av, cv, hnv0, hvS⟩ := hlv.get (n := n) (by show n < 10; omega)
      have hnv : nthV [.slice L0 1 lc0, .slice L1 1 lc1, .slice L2 1 lc2, .slice L3 1 lc3, .slice L4 1 lc4, .slice L5 2 lc5, .slice L6 4 lc6, .slice L7 2 lc7, .slice L8 2 lc8, .slice L9 3 lc9] (0 + ((n : Nat) : Int).toNat * 1) = some (.slice Av (lvls.getD n []).length cv) := by rw [show 0 + ((n : Nat) : Int).toNat * 1 = n by simp]; exact hnv0
      refine x_region rfl <| mP rfl <| mI rfl <| Wp rfl <| st_arrAddr T.u128 T.size62 rfl rfl (by omega) (by omega) <| lL T.one62 rfl (hb10.cell hnv) <| Wp rfl <| st_call (ags := [_, _]) rfl rfl T.ent65 rfl (take_spec (x := x2) (tl := tl2) (l := (lvls.getD n [])) hbp68 hs2v hDtb (fun k hk => hDtn k (Nat.le_trans HC.size hk)) hct2v (hvS) (by first | decide | (simp; done) | exact lv_len _)) ?_
      rintro _ w69 ⟨(⟨hC70, rfl, At70, capt70, hb70, hs70, hct70⟩ | ⟨hC70, rfl, hb70, hs70⟩), c70⟩
      ·replace HC := HC.cB c70
       replace ht := ht.tr c70 (by intro hx; have hlt := ht1; simp only [List.mem_cons, List.mem_nil_iff, or_false] at hx; first | exact hone2 hx | omega)
       replace hlv := hlv.tr c70 (by intro k hx hD; obtain rfl := List.mem_singleton.1 hx; omega)
       replace hb10 := hb10.tr1 c70 (Ne.symm ne_b_b5)
       replace hop68 := hop68.tN c70 ndD7_b
       exact absurd hC70.1 he2
      ·replace HC := HC.cB c70
       replace ht := ht.tr c70 (by intro hx; have hlt := ht1; simp only [List.mem_cons, List.mem_nil_iff, or_false] at hx; first | exact hone2 hx | omega)
       replace hlv := hlv.tr c70 (by intro k hx hD; obtain rfl := List.mem_singleton.1 hx; omega)
       replace hb10 := hb10.tr1 c70 (Ne.symm ne_b_b5)
       replace hop68 := hop68.tN c70 ndD7_b
       refine mv (v := .tuple ⟨[_, _]⟩) rfl <| Wp rfl <| st_extract (vs := [_, _]) (v := S _) rfl rfl <| Wp rfl <| st_extract (vs := [_, _]) (v := .bool _) rfl rfl <| aS rfl <| aB rfl <| en <| ⟨(false, [], ((out2.length : Nat) : Int), (x2 :: tl2), (out2 ++ [⟨op, 0, [], [kk, k2]⟩]), 0, (At2, capt2, Aop68, capop68), a2, e2), ?_, ?_, rfl, ⟨rfl, rfl, rfl, trivial⟩, ?_⟩
       ·refine ⟨?_, HC, ht, hlv, hb10, hb70, hs70, hop68⟩
        exact ⟨by simp, hct2v, (by simp only [List.length_append, List.length_cons, List.length_nil, if_pos, Bool.false_eq_true, if_false] at *; omega), Nat.zero_le _, .inr (.inr ⟨rfl, he2, hr2⟩)⟩
       ·show (if false = true then _ else _) < (if tk = true then tsl.length + 1 else 0); rw [h1, if_pos rfl]; first | (rw [if_neg (by simp)]; omega) | (rw [if_pos rfl]; simp only [List.length_cons] at *; omega)
       repeat (first | exact agree_upds agree_over rfl | refine agree_upd ?_ rfl | refine agree_upds ?_ rfl | refine agree_over_sub ?_ rfl)
     ·obtain ⟨rfl, ⟨At2, capt2, Ao2, capo2, hb2v, hs2v, hct2v, ho2v⟩, hwf2, ⟨hm2, hl2⟩, cP2⟩ := hP
      replace HC := HC.trans cP2 (fun k h => .inl (h.imp (subD7 k) id))
      replace ht := ht.trP cP2 (fun h => h.elim (fun h => hone1 (subD7 0 h)) hone2)
      replace hlv := hlv.trP cP2 (fun k hD h => hlo1 k hD (h.imp (sD7 k) id))
      replace hb10 := hb10.trP cP2 (fun h => h.elim nD7 (Ne.symm ne_b_b5))
      have hg2 := hr2
      dsimp only at hg2
      obtain ⟨x2, tl2, rfl⟩ := hwf2.ne
      have hq2 := hl2
      simp only [List.length_cons] at hq2
      have hqm2 := hm2
      simp only [List.length_cons] at hqm2
      refine Wp rfl <| st_lit (ps := [(0, .tmp 39), (1, .tmp 43)]) (vs := [.int _ _, .int _ _]) T.lit36 (by decide) rfl (by simp only [List.forall_mem_cons, List.not_mem_nil, false_imp_iff, implies_true, and_true]; exact ⟨rfl, rfl⟩) rfl ?_
      intro b71 w72 e73 c74 hb75
      have ge_b71 : w.heap.size ≤ b71 := by rw [e73]; exact HC.size
      have ne_b5_b71 : b5 ≠ b71 := by rw [e73]; exact hb10.ne_size
      have ne_b_b71 : b ≠ b71 := by rw [e73]; exact hb2v.ne_size
      have geF_b71 : b5 + 1 ≤ b71 := by rw [e73]; exact hb10.lt
      have nal_b71 : b71 ∉ ob Ao2 := ho2v.fresh (by rw [e73]; exact Nat.le_refl _)
      replace HC := HC.chg0 c74
      replace ht := ht.tr0 c74
      replace hlv := hlv.tr c74 (fun k hx => absurd hx (by simp))
      replace hb10 := hb10.tr0 c74
      replace hb2v := hb2v.tr0 c74
      replace hs2v := hs2v.tr0 c74
      replace ho2v := ho2v.tr0 c74
      clear e73
      refine Wp rfl <| st_bld (ps := [(0, .tmp 38), (3, .tmp 44)]) (vs := [S _, .int _ _, S _, .slice _ _ _]) T.bld38 rfl ?_
      have nak_b71 : b71 ∉ ob Ao2 := nal_b71
      refine Wp rfl <| st_call (ags := [_, _]) rfl rfl T.ent46 rfl (put_spec (D := D7) (x := ⟨op, 0, [], [kk, k2]⟩) (fun k hk => frD7 k (by have h1 := hb10.lt; omega)) ndD7_b hb2v ho2v (kid_one (ks := [kk, k2]) (show Blk _ _ (([kk, k2] : List Int).flatMap fun x => [.int .i64 x]) _ from hb75) (by simp) ⟨frD7 _ (by exact geF_b71), nak_b71⟩) (by omega)) ?_
      rintro _ w76 ⟨rfl, ⟨Aop77, capop77, hbp77, hop77⟩, c77⟩
      replace HC := HC.chg c77 (fun k hk => .inl ((List.mem_cons.1 hk).elim .inr (fun h => .inl (subD7 k (ho2v.inD k h)))))
      replace ht := ht.tr c77 (fun hx => (List.mem_cons.1 hx).elim hone2 (fun h => hone1 (subD7 0 (ho2v.inD 0 h))))
      replace hlv := hlv.tr c77 (fun k hx hD => (List.mem_cons.1 hx).elim (fun h => hlo1 k hD (.inr h)) (fun h => hlo1 k hD (.inl (sD7 k (ho2v.inD k h)))))
      replace hb10 := hb10.tr c77 (fun hx => (List.mem_cons.1 hx).elim (fun h => absurd h.symm ne_b_b5) (fun h => nD7 (ho2v.inD _ h)))
      replace hs2v := hs2v.tr c77 (fun k hk hD => (List.mem_cons.1 hk).elim (hDt k hD).2 (fun h => (hDt k hD).1 (subD7 k (ho2v.inD k h))))
      refine aI rfl <| wops_nil <| block_n <| then_n ?_
      obtain ⟨fl2, rfl⟩ : ∃ z, fl = z + 1 := by
                    cases fl with
                    | zero => cases hg2
                    | succ z => exact ⟨z, rfl⟩
      rw [pP] at hg2
      obtain ⟨Av, cv, hnv0, hvS⟩ := hlv.get (n := n) (by show n < 10; omega)
      have hnv : nthV [.slice L0 1 lc0, .slice L1 1 lc1, .slice L2 1 lc2, .slice L3 1 lc3, .slice L4 1 lc4, .slice L5 2 lc5, .slice L6 4 lc6, .slice L7 2 lc7, .slice L8 2 lc8, .slice L9 3 lc9] (0 + ((n : Nat) : Int).toNat * 1) = some (.slice Av (lvls.getD n []).length cv) := by rw [show 0 + ((n : Nat) : Int).toNat * 1 = n by simp]; exact hnv0
      refine x_region rfl <| mP rfl <| mI rfl <| Wp rfl <| st_arrAddr T.u128 T.size62 rfl rfl (by omega) (by omega) <| lL T.one62 rfl (hb10.cell hnv) <| Wp rfl <| st_call (ags := [_, _]) rfl rfl T.ent65 rfl (take_spec (x := x2) (tl := tl2) (l := (lvls.getD n [])) hbp77 hs2v hDtb (fun k hk => hDtn k (Nat.le_trans HC.size hk)) hct2v (hvS) (by first | decide | (simp; done) | exact lv_len _)) ?_
      rintro _ w78 ⟨(⟨hC79, rfl, At79, capt79, hb79, hs79, hct79⟩ | ⟨hC79, rfl, hb79, hs79⟩), c79⟩
      ·replace HC := HC.cB c79
       replace ht := ht.tr c79 (by intro hx; have hlt := ht1; simp only [List.mem_cons, List.mem_nil_iff, or_false] at hx; first | exact hone2 hx | omega)
       replace hlv := hlv.tr c79 (by intro k hx hD; obtain rfl := List.mem_singleton.1 hx; omega)
       replace hb10 := hb10.tr1 c79 (Ne.symm ne_b_b5)
       replace hop77 := hop77.tN c79 ndD7_b
       rw [if_pos (in_iff.2 hC79.2)] at hg2
       simp only [List.drop_succ_cons, List.drop_zero] at hg2
       have hwft2 : WfT tl2 := hwf2.tl (by have := hC79.2.1; omega)
       refine mv (v := .tuple ⟨[_, _]⟩) rfl <| Wp rfl <| st_extract (vs := [_, _]) (v := S _) rfl rfl <| Wp rfl <| st_extract (vs := [_, _]) (v := .bool _) rfl rfl <| aS rfl <| aB rfl <| en <| ⟨(true, x2.1.2.2, ((out2.length : Nat) : Int), tl2, (out2 ++ [⟨op, 0, [], [kk, k2]⟩]), fl2, (At79, capt79, Aop77, capop77), pl, 0), ?_, ?_, rfl, ⟨rfl, rfl, rfl, trivial⟩, ?_⟩
       ·refine ⟨?_, HC, ht, hlv, hb10, hb79, hs79, hop77⟩
        exact ⟨(by obtain ⟨y, z, e⟩ := hwft2.ne; rw [e]; simp), hct79, (by simp only [List.length_append, List.length_cons, List.length_nil, if_pos, Bool.false_eq_true, if_false] at *; omega), by omega, .inl ⟨rfl, rfl, rfl, hwft2, (by simp only [List.length_append, List.length_cons, List.length_nil, if_pos, Bool.false_eq_true, if_false] at *; omega), hg2⟩⟩
       ·show (if true = true then _ else _) < (if tk = true then tsl.length + 1 else 0); rw [h1, if_pos rfl]; first | (rw [if_neg (by simp)]; omega) | (rw [if_pos rfl]; simp only [List.length_cons] at *; omega)
       repeat (first | exact agree_upds agree_over rfl | refine agree_upd ?_ rfl | refine agree_upds ?_ rfl | refine agree_over_sub ?_ rfl)
      ·replace HC := HC.cB c79
       replace ht := ht.tr c79 (by intro hx; have hlt := ht1; simp only [List.mem_cons, List.mem_nil_iff, or_false] at hx; first | exact hone2 hx | omega)
       replace hlv := hlv.tr c79 (by intro k hx hD; obtain rfl := List.mem_singleton.1 hx; omega)
       replace hb10 := hb10.tr1 c79 (Ne.symm ne_b_b5)
       replace hop77 := hop77.tN c79 ndD7_b
       rw [if_neg (fun h => hC79 ⟨rfl, in_iff.1 h⟩)] at hg2
       have hrr2 := (Option.some.inj hg2).symm
       refine mv (v := .tuple ⟨[_, _]⟩) rfl <| Wp rfl <| st_extract (vs := [_, _]) (v := S _) rfl rfl <| Wp rfl <| st_extract (vs := [_, _]) (v := .bool _) rfl rfl <| aS rfl <| aB rfl <| en <| ⟨(false, [], ((out2.length : Nat) : Int), (x2 :: tl2), (out2 ++ [⟨op, 0, [], [kk, k2]⟩]), 0, (At2, capt2, Aop77, capop77), pl, 0), ?_, ?_, rfl, ⟨rfl, rfl, rfl, trivial⟩, ?_⟩
       ·refine ⟨?_, HC, ht, hlv, hb10, hb79, hs79, hop77⟩
        exact ⟨by simp, hct2v, (by simp only [List.length_append, List.length_cons, List.length_nil, if_pos, Bool.false_eq_true, if_false] at *; omega), Nat.zero_le _, .inr (.inl ⟨rfl, rfl, rfl, hwf2, (by simp only [List.length_append, List.length_cons, List.length_nil, if_pos, Bool.false_eq_true, if_false] at *; omega), hrr2⟩)⟩
       ·show (if false = true then _ else _) < (if tk = true then tsl.length + 1 else 0); rw [h1, if_pos rfl]; first | (rw [if_neg (by simp)]; omega) | (rw [if_pos rfl]; simp only [List.length_cons] at *; omega)
       repeat (first | exact agree_upds agree_over rfl | refine agree_upd ?_ rfl | refine agree_upds ?_ rfl | refine agree_over_sub ?_ rfl)
    ·try simp only [nm, ne_eq] at h1
     refine x_exit <| then_x <| then_x <| block_x <| then_n <| sr rfl <| mI rfl <| aI rfl <| en <| x_ret <| ret_tmp (v := .int _ _) rfl rfl ?_
     obtain ⟨z1, z2, z3, (⟨rfl, rfl, z6, z8, z7⟩ | ⟨z4, z5⟩)⟩ := hLI.stop (by simpa using h1)
     · rw [z7]; exact ⟨rfl, ⟨_, _, _, _, hbl, hsl, z2, hol.mono (fun k _ h => subD7 k h)⟩, z6, ⟨z8, by rw [hBB]; omega⟩, HC⟩
     · rw [z5]; exact ⟨z4, ⟨_, rfl⟩, ⟨_, _, z1, by rw [hBB]; omega, ⟨_, _, _, _, hbl, hsl, z2, hol.mono (fun k _ h => subD7 k h)⟩⟩, HC⟩

end Go.Proofs.YtmbbhgglllfelaaGreatDoor.K
