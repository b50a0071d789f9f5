import Derived.Test.YtghjmiggobpmoaaGreatDoorTok
import Derived.Test.YtghjmiggobpmoaaGreatDoorGramN
set_option linter.unusedVariables false
set_option linter.unusedSimpArgs false
set_option autoImplicit false
set_option maxRecDepth 20000
namespace Go.Proofs.YtghjmiggobpmoaaGreatDoor.K
open Go Go.Proofs Go.RowKit

def aw0 : Bytes := [97, 32, 38, 38, 32, 98, 32, 124, 32, 99]
def awC0 : Cm := (.mk 3 [] false false [] [] [] [(.mk 1 [] false false [] [[97]] [] [] []), (.mk 2 [] false false [] [] [] [(.mk 1 [] false false [] [[98]] [] [] []), (.mk 1 [] false false [] [[99]] [] [] [])] [])] [])
theorem aw0_eq : gramV aw0 = (awC0, 0, 0) := by kernel_rfl

def aw1 : Bytes := [105, 102, 32, 120, 59, 32, 116, 104, 101, 110, 32, 121, 59, 32, 102, 105, 32, 62, 102]
def awC1 : Cm := (.mk 9 [] false false [] [] [⟨1, [62], [102], [], false⟩] [(.mk 1 [] false false [] [[120]] [] [] []), (.mk 1 [] false false [] [[121]] [] [] [])] [])
theorem aw1_eq : gramV aw1 = (awC1, 0, 0) := by kernel_rfl

def aw2 : Bytes := [116, 104, 101, 110]
def awC2 : Cm := zCm
theorem aw2_eq : gramV aw2 = (awC2, 0, 101) := by kernel_rfl

theorem awake17_spec (w : World) (hmx : MaxT w) (ht : Tab w) : CallR Tryz.prog 6 #[] w fun v w' => v = .bool true ∧ Chg [] w w' := by
 refine callR_of_wp (args := []) Tryz.func6 rfl (Nat.le_of_ble_eq_true rfl) ?_
 have HC : Chg [] w w := .refl _
 have ht1 := ht.lt
 have hm1 := hmx.lt
 refine sr rfl <| aB rfl <| en <| sr rfl <| Wp rfl <| st_call (ags := [_]) rfl rfl T.ent7 rfl (gParse_spec aw0 _ (by decide) hmx ht) ?_
 rintro _ w1 ⟨⟨vsE, rfl, hvE, c2⟩, hplE⟩
 rw [aw0_eq] at hvE ⊢
 obtain ⟨A1E, n1E, A2E, n2E, A3E, n3E, A4E, n4E, A5E, n5E, rfl, hAE, k1E, k2E, k3E, k4E, k5E⟩ := cm_open hvE
 replace hvE := cmE.mono hvE (D' := (fun k => k < w1.heap.size)) (fun k hk _ => hk)
 have szE : w1.heap.size ≤ w1.heap.size := Nat.le_refl _
 replace HC := HC.then c2
 replace ht := ht.tr0 c2
 replace hmx := hmx.tr0 c2
 refine mv (v := .tuple ⟨[_, _, _]⟩) rfl <| Wp rfl <| st_extract (vs := [_, _, _]) (v := .agg ⟨[.int _ _, S _, .bool _, .bool _, .slice _ _ _, .slice _ _ _, .slice _ _ _, .slice _ _ _, .slice _ _ _]⟩) rfl rfl <| Wp rfl <| st_extract (vs := [_, _, _]) (v := .int _ _) rfl rfl <| Wp rfl <| st_extract (vs := [_, _, _]) (v := .int _ _) rfl rfl <| Wp rfl <| st_alloc T.zero30 ?_
 intro b1 w3 e4 c5 hb6
 have ge_b1 : w.heap.size ≤ b1 := by rw [e4]; exact HC.size
 have gq_szE_b1 : w1.heap.size ≤ b1 := by rw [e4]; exact szE
 replace HC := HC.then c5
 replace ht := ht.tr0 c5
 replace hmx := hmx.tr0 c5
 replace hvE := Enc.chg hvE c5 q8
 replace szE := Nat.le_trans szE c5.size
 clear e4
 refine Wp rfl <| st_store (v := .agg ⟨[.int _ _, S _, .bool _, .bool _, .slice _ _ _, .slice _ _ _, .slice _ _ _, .slice _ _ _, .slice _ _ _]⟩) T.size30 rfl rfl rfl hb6 rfl (Nat.le_of_ble_eq_true rfl) q5 rfl ?_
 intro w7 c8 hb9; simp only [setVs, setV] at hb9
 clear hb6
 replace HC := HC.then1 c8 ge_b1
 replace ht := ht.tr c8 q1
 replace hmx := hmx.tr c8 q1
 replace hvE := Enc.chg hvE c8 q3
 replace szE := Nat.le_trans szE c8.size
 refine aI rfl <| aI rfl <| en <| sr rfl <| Wp rfl <| st_call (ags := [_]) rfl rfl T.ent7 rfl (gParse_spec aw1 _ (by decide) hmx ht) ?_
 rintro _ w10 ⟨⟨vsF, rfl, hvF, c11⟩, hplF⟩
 rw [aw1_eq] at hvF ⊢
 obtain ⟨A1F, n1F, A2F, n2F, A3F, n3F, A4F, n4F, A5F, n5F, rfl, hAF, k1F, k2F, k3F, k4F, k5F⟩ := cm_open hvF
 replace hvF := cmE.mono hvF (D' := (fun k => k < w10.heap.size)) (fun k hk _ => hk)
 have szF : w10.heap.size ≤ w10.heap.size := Nat.le_refl _
 replace HC := HC.then c11
 replace ht := ht.tr0 c11
 replace hmx := hmx.tr0 c11
 replace hvE := Enc.chg hvE c11 q8
 replace szE := Nat.le_trans szE c11.size
 replace hb9 := hb9.tr0 c11
 refine mv (v := .tuple ⟨[_, _, _]⟩) rfl <| Wp rfl <| st_extract (vs := [_, _, _]) (v := .agg ⟨[.int _ _, S _, .bool _, .bool _, .slice _ _ _, .slice _ _ _, .slice _ _ _, .slice _ _ _, .slice _ _ _]⟩) rfl rfl <| Wp rfl <| st_extract (vs := [_, _, _]) (v := .int _ _) rfl rfl <| Wp rfl <| st_extract (vs := [_, _, _]) (v := .int _ _) rfl rfl <| Wp rfl <| st_alloc T.zero30 ?_
 intro b4 w12 e13 c14 hb15
 have ge_b4 : w.heap.size ≤ b4 := by rw [e13]; exact HC.size
 have ne_b1_b4 : b1 ≠ b4 := by rw [e13]; exact hb9.ne_size
 have gq_szE_b4 : w1.heap.size ≤ b4 := by rw [e13]; exact szE
 have gq_szF_b4 : w10.heap.size ≤ b4 := by rw [e13]; exact szF
 replace HC := HC.then c14
 replace ht := ht.tr0 c14
 replace hmx := hmx.tr0 c14
 replace hvE := Enc.chg hvE c14 q8
 replace szE := Nat.le_trans szE c14.size
 replace hb9 := hb9.tr0 c14
 replace hvF := Enc.chg hvF c14 q8
 replace szF := Nat.le_trans szF c14.size
 clear e13
 refine Wp rfl <| st_store (v := .agg ⟨[.int _ _, S _, .bool _, .bool _, .slice _ _ _, .slice _ _ _, .slice _ _ _, .slice _ _ _, .slice _ _ _]⟩) T.size30 rfl rfl rfl hb15 rfl (Nat.le_of_ble_eq_true rfl) q5 rfl ?_
 intro w16 c17 hb18; simp only [setVs, setV] at hb18
 clear hb15
 replace HC := HC.then1 c17 ge_b4
 replace ht := ht.tr c17 q1
 replace hmx := hmx.tr c17 q1
 replace hvE := Enc.chg hvE c17 q3
 replace szE := Nat.le_trans szE c17.size
 replace hb9 := hb9.tr1 c17 ne_b1_b4
 replace hvF := Enc.chg hvF c17 q3
 replace szF := Nat.le_trans szF c17.size
 refine aI rfl <| aI rfl <| en <| sr rfl <| Wp rfl <| st_call (ags := [_]) rfl rfl T.ent7 rfl (gParse_spec aw2 _ (by decide) hmx ht) ?_
 rintro _ w19 ⟨⟨vsH, rfl, hvH, c20⟩, hplH⟩
 rw [aw2_eq] at hvH ⊢
 obtain ⟨A1H, n1H, A2H, n2H, A3H, n3H, A4H, n4H, A5H, n5H, rfl, hAH, k1H, k2H, k3H, k4H, k5H⟩ := cm_open hvH
 replace hvH := cmE.mono hvH (D' := (fun k => k < w19.heap.size)) (fun k hk _ => hk)
 have szH : w19.heap.size ≤ w19.heap.size := Nat.le_refl _
 replace HC := HC.then c20
 replace hvE := Enc.chg hvE c20 q8
 replace szE := Nat.le_trans szE c20.size
 replace hb9 := hb9.tr0 c20
 replace hvF := Enc.chg hvF c20 q8
 replace szF := Nat.le_trans szF c20.size
 replace hb18 := hb18.tr0 c20
 refine mv (v := .tuple ⟨[_, _, _]⟩) rfl <| Wp rfl <| st_extract (vs := [_, _, _]) (v := .agg ⟨[.int _ _, S _, .bool _, .bool _, .slice _ _ _, .slice _ _ _, .slice _ _ _, .slice _ _ _, .slice _ _ _]⟩) rfl rfl <| Wp rfl <| st_extract (vs := [_, _, _]) (v := .int _ _) rfl rfl <| Wp rfl <| st_extract (vs := [_, _, _]) (v := .int _ _) rfl rfl <| Wp rfl <| st_alloc T.zero30 ?_
 intro b7 w21 e22 c23 hb24
 have ge_b7 : w.heap.size ≤ b7 := by rw [e22]; exact HC.size
 have ne_b1_b7 : b1 ≠ b7 := by rw [e22]; exact hb9.ne_size
 have ne_b4_b7 : b4 ≠ b7 := by rw [e22]; exact hb18.ne_size
 have gq_szE_b7 : w1.heap.size ≤ b7 := by rw [e22]; exact szE
 have gq_szF_b7 : w10.heap.size ≤ b7 := by rw [e22]; exact szF
 have gq_szH_b7 : w19.heap.size ≤ b7 := by rw [e22]; exact szH
 replace HC := HC.then c23
 replace hvE := Enc.chg hvE c23 q8
 replace szE := Nat.le_trans szE c23.size
 replace hb9 := hb9.tr0 c23
 replace hvF := Enc.chg hvF c23 q8
 replace szF := Nat.le_trans szF c23.size
 replace hb18 := hb18.tr0 c23
 replace szH := Nat.le_trans szH c23.size
 clear e22
 refine Wp rfl <| st_store (v := .agg ⟨[.int _ _, S _, .bool _, .bool _, .slice _ _ _, .slice _ _ _, .slice _ _ _, .slice _ _ _, .slice _ _ _]⟩) T.size30 rfl rfl rfl hb24 rfl (Nat.le_of_ble_eq_true rfl) q5 rfl ?_
 intro w25 c26 hb27; simp only [setVs, setV] at hb27
 clear hb24
 replace HC := HC.then1 c26 ge_b7
 replace hvE := Enc.chg hvE c26 q3
 replace szE := Nat.le_trans szE c26.size
 replace hb9 := hb9.tr1 c26 ne_b1_b7
 replace hvF := Enc.chg hvF c26 q3
 replace szF := Nat.le_trans szF c26.size
 replace hb18 := hb18.tr1 c26 ne_b4_b7
 replace szH := Nat.le_trans szH c26.size
 refine aI rfl <| aI rfl <| en <| x_seq ?_
 have hKa := (cm_at hvE).1.kids
 have hRb := (cm_at hvF).1.rds
 refine x_region rfl <| mI rfl <| Wp rfl <| st_eql rfl rfl <| mB rfl <| w_split (d := 27) rfl (fun g28 => ?_) (fun g28 => ?_)
 ·try simp only [nm, ne_eq] at g28
  refine w_yes 2 27 true <| st_fieldAddr T.fld30_0 rfl <| w_yes 2 27 true <| st_load1 (v := .int _ _) T.one3 rfl (hb9.cell rfl) <| w_yes 2 27 true <| st_eql rfl rfl <| pT rfl rfl <| mB rfl <| w_split (d := 32) rfl (fun g29 => ?_) (fun g29 => ?_)
  ·try simp only [nm, ne_eq] at g29
   refine w_yes 7 32 true <| st_fieldAddr T.fld30_7 rfl <| w_yes 7 32 true <| st_load1 (v := .slice _ _ _) T.one27 rfl (hb9.cell rfl) <| w_yes 7 32 true <| st_len (ct := #[27]) (by rw [show ((#[27] : Array TypeId)[0]?).bind Tryz.prog.underlying = some (.slice 30) from T.u27]; rfl) rfl <| w_yes 7 32 true <| st_eql rfl rfl <| pT rfl rfl <| mB rfl <| w_split (d := 38) rfl (fun g30 => ?_) (fun g30 => ?_)
   ·try simp only [nm, ne_eq] at g30
    refine w_yes 13 38 true <| st_fieldAddr T.fld30_7 rfl <| w_yes 13 38 true <| st_load1 (v := .slice _ _ _) T.one27 rfl (hb9.cell rfl) ?_
    obtain ⟨lb35, _, vs34, hA31, hR33, hC32⟩ := hKa.at (i := 1) (x := awC0.kids[1]) (rfl)
    have hvG := hR33
    obtain ⟨A1G, n1G, A2G, n2G, A3G, n3G, A4G, n4G, A5G, n5G, rfl, hAG, k1G, k2G, k3G, k4G, k5G⟩ := cm_open hR33
    refine w_yes 13 38 true <| st_indexAddr T.u27 T.size30 (congrArg (fun z => Value.slice z _ _) hA31) rfl (by decide) (by decide) <| w_yes 13 38 true <| st_fieldAddr T.fld30_0 rfl <| w_yes 13 38 true <| st_load1 (v := .int _ _) T.one3 rfl (hC32.at (j := 0) rfl) <| w_yes 13 38 true <| st_eql rfl rfl <| pT rfl rfl <| mB rfl <| w_split (d := 46) rfl (fun g36 => ?_) (fun g36 => ?_)
    ·try simp only [nm, ne_eq] at g36
     refine w_yes 21 46 true <| st_move (v := .int _ _) rfl <| w_yes 21 46 true <| st_eql rfl rfl <| pT rfl rfl <| mB rfl <| w_split (d := 50) rfl (fun g37 => ?_) (fun g37 => ?_)
     ·try simp only [nm, ne_eq] at g37
      refine w_yes 25 50 true <| st_fieldAddr T.fld30_0 rfl <| w_yes 25 50 true <| st_load1 (v := .int _ _) T.one3 rfl (hb18.cell rfl) <| w_yes 25 50 true <| st_eql rfl rfl <| pT rfl rfl <| mB rfl <| w_split (d := 55) rfl (fun g38 => ?_) (fun g38 => ?_)
      ·try simp only [nm, ne_eq] at g38
       refine w_yes 30 55 true <| st_fieldAddr T.fld30_7 rfl <| w_yes 30 55 true <| st_load1 (v := .slice _ _ _) T.one27 rfl (hb18.cell rfl) <| w_yes 30 55 true <| st_len (ct := #[27]) (by rw [show ((#[27] : Array TypeId)[0]?).bind Tryz.prog.underlying = some (.slice 30) from T.u27]; rfl) rfl <| w_yes 30 55 true <| st_eql rfl rfl <| pT rfl rfl <| mB rfl <| w_split (d := 61) rfl (fun g39 => ?_) (fun g39 => ?_)
       ·try simp only [nm, ne_eq] at g39
        refine w_yes 36 61 true <| st_fieldAddr T.fld30_6 rfl <| w_yes 36 61 true <| st_load1 (v := .slice _ _ _) T.one26 rfl (hb18.cell rfl) <| w_yes 36 61 true <| st_len (ct := #[26]) (by rw [show ((#[26] : Array TypeId)[0]?).bind Tryz.prog.underlying = some (.slice 40) from T.u26]; rfl) rfl <| w_yes 36 61 true <| st_eql rfl rfl <| pT rfl rfl <| mB rfl <| w_split (d := 67) rfl (fun g40 => ?_) (fun g40 => ?_)
        ·try simp only [nm, ne_eq] at g40
         refine w_yes 42 67 true <| st_fieldAddr T.fld30_6 rfl <| w_yes 42 67 true <| st_load1 (v := .slice _ _ _) T.one26 rfl (hb18.cell rfl) ?_
         obtain ⟨lb45, _, vs44, hA41, hR43, hC42⟩ := hRb.at (i := 0) (x := (⟨1, [62], [102], [], false⟩ : Rdr)) (rfl)
         obtain rfl : vs44 = rdrC (⟨1, [62], [102], [], false⟩ : Rdr) := hR43
         refine w_yes 42 67 true <| st_indexAddr T.u26 T.size40 (congrArg (fun z => Value.slice z _ _) hA41) rfl (by decide) (by decide) <| w_yes 42 67 true <| st_loadA (vs := [_, _, _, _, _]) T.agg40 rfl hC42 rfl <| w_yes 42 67 true <| st_bld (ps := [(0, .const (.int .i64 1)), (1, .const (S [62])), (2, .const (S [102]))]) (vs := [.int _ _, S _, S _, S _, .bool _]) T.bld40 rfl <| w_yes 42 67 true <| st_aeql T.eq40 rfl rfl rfl <| pT rfl rfl <| mB rfl <| w_split (d := 75) rfl (fun g46 => ?_) (fun g46 => ?_)
         ·try simp only [nm, ne_eq] at g46
          refine w_yes 50 75 true <| st_move (v := .int _ _) rfl <| w_yes 50 75 true <| st_eql rfl rfl <| pT rfl rfl <| mB rfl <| w_split (d := 79) rfl (fun g47 => ?_) (fun g47 => ?_)
          ·try simp only [nm, ne_eq] at g47
           refine w_yes 54 79 true <| st_move (v := .int _ _) rfl <| w_yes 54 79 true <| st_eql rfl rfl <| pT rfl rfl <| aB rfl <| en <| x_ret <| ret_tmp (v := .bool _) rfl rfl ?_
           exact ⟨rfl, HC⟩
          ·try simp only [nm, ne_eq] at g47
           first | exact absurd rfl g47 | exact absurd trivial g47 | (simp at g47; done) | exact absurd g47 (by decide)
         ·try simp only [nm, ne_eq] at g46
          first | exact absurd rfl g46 | exact absurd trivial g46 | (simp at g46; done) | exact absurd g46 (by decide)
        ·try simp only [nm, ne_eq] at g40
         first | exact absurd rfl g40 | exact absurd trivial g40 | (simp at g40; done) | exact absurd g40 (by decide)
       ·try simp only [nm, ne_eq] at g39
        first | exact absurd rfl g39 | exact absurd trivial g39 | (simp at g39; done) | exact absurd g39 (by decide)
      ·try simp only [nm, ne_eq] at g38
       first | exact absurd rfl g38 | exact absurd trivial g38 | (simp at g38; done) | exact absurd g38 (by decide)
     ·try simp only [nm, ne_eq] at g37
      first | exact absurd rfl g37 | exact absurd trivial g37 | (simp at g37; done) | exact absurd g37 (by decide)
    ·try simp only [nm, ne_eq] at g36
     first | exact absurd rfl g36 | exact absurd trivial g36 | (simp at g36; done) | exact absurd g36 (by decide)
   ·try simp only [nm, ne_eq] at g30
    first | exact absurd rfl g30 | exact absurd trivial g30 | (simp at g30; done) | exact absurd g30 (by decide)
  ·try simp only [nm, ne_eq] at g29
   first | exact absurd rfl g29 | exact absurd trivial g29 | (simp at g29; done) | exact absurd g29 (by decide)
 ·try simp only [nm, ne_eq] at g28
  first | exact absurd rfl g28 | exact absurd trivial g28 | (simp at g28; done) | exact absurd g28 (by decide)

theorem places17 {s : Bytes} (hs : s.length ≤ 3000) (hp : PlR s) (he : (gramV s).2.2 ≠ 0) : 0 ≤ (gramV s).2.1 ∧ (gramV s).2.1 ≤ s.length ∧ (gramV s).1 = zCm := by
  rcases tokens_places hs with ⟨h1, _, h3, h4⟩ | ⟨h1, h2⟩
  · rw [gramV_tok h1]; exact ⟨h3, by show (tokensV s).2.1 ≤ _; omega, rfl⟩
  · have h0 : (tokensV s).2.2 = 0 := by rw [h1]
    obtain ⟨t, ht, ha⟩ := hp h0 he
    obtain ⟨i, hi, rfl⟩ := List.mem_iff_getElem.1 ht
    have h5 := h2.at_ i _ (List.getElem?_eq_getElem hi)
    refine ⟨by rw [ha]; exact h5.1, by rw [ha]; exact h5.2.1, ?_⟩
    cases hg : gramG (tokensV s).1 with
    | ok c R => rw [gramV_ok h0 hg] at he; exact absurd rfl he
    | er R e => rw [gramV_er h0 hg]
theorem place0 {s : Bytes} (he : (gramV s).2.2 = 0) : (gramV s).2.1 = 0 := by
  by_cases h1 : (tokensV s).2.2 = 0
  · cases hg : gramG (tokensV s).1 with
    | ok c R => rw [gramV_ok h1 hg]
    | er R e => rw [gramV_er h1 hg] at he ⊢; exact absurd he (gram_ne hg)
  · rw [gramV_tok h1] at he; exact absurd he h1

end Go.Proofs.YtghjmiggobpmoaaGreatDoor.K
set_option linter.unusedVariables false
set_option linter.unusedSimpArgs false
set_option autoImplicit false
set_option maxRecDepth 20000
namespace Go.Proofs.YtghjmiggobpmoaaGreatDoor.K
open Go Go.Proofs Go.RowKit

theorem GramPlaces_spec (s : Bytes) (w : World) (hs : s.length ≤ 140737488351232) (hmx : MaxT w) (ht : Tab w) : CallR Tryz.prog 5 #[S s] w fun v w' => v = .bool true ∧ Chg [] w w' := by
 refine callR_of_wp (args := [_]) Tryz.func5 rfl (Nat.le_of_ble_eq_true rfl) ?_
 have HC : Chg [] w w := .refl _
 have ht1 := ht.lt
 have hm1 := hmx.lt
 refine sr rfl <| aB rfl <| en <| x_seq <| sr rfl <| mS rfl <| Wp rfl <| st_slen (ct := #[9]) T.u9 rfl <| Wp rfl <| st_gtr rfl rfl <| en <| x_cond rfl (fun h0 => ?_) (fun h0 => ?_)
 ·try simp only [nm, ne_eq] at h0
  refine sr rfl <| Wp rfl <| st_call (ags := []) rfl rfl T.ent6 rfl (awake17_spec _ hmx ht) ?_
  rintro _ w1 ⟨rfl, c2⟩
  replace HC := HC.then c2
  replace ht := ht.tr0 c2
  replace hmx := hmx.tr0 c2
  refine aB rfl <| en <| x_ret <| then_r <| ret_tmp (v := .bool _) rfl rfl ?_
  exact ⟨rfl, HC⟩
 ·try simp only [nm, ne_eq] at h0
  have hl3 : s.length ≤ 3000 := by first | omega | simp_all
  refine x_skip <| then_n <| sr rfl <| mS rfl <| Wp rfl <| st_call (ags := [_]) rfl rfl T.ent7 rfl (gParse_spec s _ (by omega) hmx ht) ?_
  rintro _ w3 ⟨⟨vsP, rfl, hvP, c4⟩, hplP⟩
  obtain ⟨A1P, n1P, A2P, n2P, A3P, n3P, A4P, n4P, A5P, n5P, rfl, hAP, k1P, k2P, k3P, k4P, k5P⟩ := cm_open hvP
  replace hvP := cmE.mono hvP (D' := (fun k => k < w3.heap.size)) (fun k hk _ => hk)
  have szP : w3.heap.size ≤ w3.heap.size := Nat.le_refl _
  replace HC := HC.then c4
  replace ht := ht.tr0 c4
  replace hmx := hmx.tr0 c4
  refine mv (v := .tuple ⟨[_, _, _]⟩) rfl <| Wp rfl <| st_extract (vs := [_, _, _]) (v := .agg ⟨[.int _ _, S _, .bool _, .bool _, .slice _ _ _, .slice _ _ _, .slice _ _ _, .slice _ _ _, .slice _ _ _]⟩) rfl rfl <| Wp rfl <| st_extract (vs := [_, _, _]) (v := .int _ _) rfl rfl <| Wp rfl <| st_extract (vs := [_, _, _]) (v := .int _ _) rfl rfl <| Wp rfl <| st_alloc T.zero30 ?_
  intro b3 w5 e6 c7 hb8
  have ge_b3 : w.heap.size ≤ b3 := by rw [e6]; exact HC.size
  have gq_szP_b3 : w3.heap.size ≤ b3 := by rw [e6]; exact szP
  replace HC := HC.then c7
  replace ht := ht.tr0 c7
  replace hmx := hmx.tr0 c7
  replace hvP := Enc.chg hvP c7 (by intro k hx; cases hx)
  replace szP := Nat.le_trans szP c7.size
  clear e6
  refine Wp rfl <| st_store (v := .agg ⟨[.int _ _, S _, .bool _, .bool _, .slice _ _ _, .slice _ _ _, .slice _ _ _, .slice _ _ _, .slice _ _ _]⟩) T.size30 rfl rfl rfl hb8 rfl (Nat.le_of_ble_eq_true rfl) (by simp [Value.oneCell', S]) rfl ?_
  intro w9 c10 hb11; simp only [setVs, setV] at hb11
  clear hb8
  replace HC := HC.then1 c10 ge_b3
  replace ht := ht.tr c10 (by intro hx; have := ht.lt; have := ht1; simp only [List.mem_cons, List.mem_nil_iff, or_false] at hx; omega)
  replace hmx := hmx.tr c10 (by intro hx; have := hmx.lt; have := hm1; simp only [List.mem_cons, List.mem_nil_iff, or_false] at hx; omega)
  replace hvP := Enc.chg hvP c10 (by intro k hx hD; simp only [List.mem_cons, List.mem_nil_iff, or_false] at hx; omega)
  replace szP := Nat.le_trans szP c10.size
  refine aI rfl <| aI rfl <| en <| x_seq <| sr rfl <| mI rfl <| Wp rfl <| st_eql rfl rfl <| en <| x_cond rfl (fun h1 => ?_) (fun h1 => ?_)
  ·try simp only [nm, ne_eq] at h1
   have he : (gramV s).2.2 = 0 := by first | assumption | simp_all
   refine sr rfl <| mI rfl <| Wp rfl <| st_eql rfl rfl <| mB rfl <| w_split (d := 20) rfl (fun g12 => ?_) (fun g12 => ?_)
   ·try simp only [nm, ne_eq] at g12
    refine w_yes 2 20 true <| st_call (ags := []) rfl rfl T.ent6 rfl (awake17_spec _ hmx ht) ?_
    rintro _ w13 ⟨rfl, c14⟩
    replace HC := HC.then c14
    replace ht := ht.tr0 c14
    replace hmx := hmx.tr0 c14
    replace hvP := Enc.chg hvP c14 (by intro k hx; cases hx)
    replace szP := Nat.le_trans szP c14.size
    replace hb11 := hb11.tr0 c14
    refine pT rfl rfl <| aB rfl <| en <| x_ret <| then_r <| ret_tmp (v := .bool _) rfl rfl ?_
    exact ⟨rfl, HC⟩
   ·try simp only [nm, ne_eq] at g12
    exact absurd (place0 he) (by first | assumption | simp_all)
  ·try simp only [nm, ne_eq] at h1
   have he : (gramV s).2.2 ≠ 0 := by first | assumption | simp_all
   obtain ⟨hp1, hp2, hp3⟩ := places17 hl3 hplP he
   refine x_skip <| then_n <| sr rfl <| Wp rfl <| st_loadA (vs := [_, _, _, _, _, _, _, _, _]) T.agg30 rfl (hb11.cells (n := 9) (vs := [_, _, _, _, _, _, _, _, _]) rfl) rfl <| Wp rfl <| st_bld (ps := []) (vs := [.int _ _, S _, .bool _, .bool _, .slice _ _ _, .slice _ _ _, .slice _ _ _, .slice _ _ _, .slice _ _ _]) T.bld30 rfl <| Wp rfl <| st_call (ags := [_, _]) rfl rfl T.ent11 rfl (gsame_spec (a := (gramV s).1) (b := zCm) _ hvP (zero_R (D := fun _ => True))) ?_
   rintro _ w15 ⟨r, rfl, hr, c16⟩
   obtain rfl : r = true := hr.2 hp3
   replace HC := HC.then c16
   replace ht := ht.tr0 c16
   replace hmx := hmx.tr0 c16
   replace hvP := Enc.chg hvP c16 (by intro k hx; cases hx)
   replace szP := Nat.le_trans szP c16.size
   replace hb11 := hb11.tr0 c16
   refine mB rfl <| w_split (d := 26) rfl (fun g17 => ?_) (fun g17 => ?_)
   ·try simp only [nm, ne_eq] at g17
    refine w_yes 3 26 true <| st_move (v := .int _ _) rfl <| w_yes 3 26 true <| st_geq rfl rfl <| pT rfl rfl <| mB rfl <| w_split (d := 30) rfl (fun g18 => ?_) (fun g18 => ?_)
    ·try simp only [nm, ne_eq] at g18
     refine w_yes 7 30 true <| st_move (v := .int _ _) rfl <| w_yes 7 30 true <| st_move (v := S _) rfl <| w_yes 7 30 true <| st_slen (ct := #[9]) T.u9 rfl <| w_yes 7 30 true <| st_leq rfl rfl <| pT rfl rfl <| mB rfl <| w_split (d := 36) rfl (fun g19 => ?_) (fun g19 => ?_)
     ·try simp only [nm, ne_eq] at g19
      refine w_yes 13 36 true <| st_call (ags := []) rfl rfl T.ent6 rfl (awake17_spec _ hmx ht) ?_
      rintro _ w20 ⟨rfl, c21⟩
      replace HC := HC.then c21
      replace ht := ht.tr0 c21
      replace hmx := hmx.tr0 c21
      replace hvP := Enc.chg hvP c21 (by intro k hx; cases hx)
      replace szP := Nat.le_trans szP c21.size
      replace hb11 := hb11.tr0 c21
      refine pT rfl rfl <| aB rfl <| en <| x_ret <| ret_tmp (v := .bool _) rfl rfl ?_
      exact ⟨rfl, HC⟩
     ·try simp only [nm, ne_eq] at g19
      exfalso; omega
    ·try simp only [nm, ne_eq] at g18
     exfalso; omega
   ·try simp only [nm, ne_eq] at g17
    first | exact absurd rfl g17 | exact absurd trivial g17 | (simp at g17; done) | exact absurd g17 (by decide)

end Go.Proofs.YtghjmiggobpmoaaGreatDoor.K
