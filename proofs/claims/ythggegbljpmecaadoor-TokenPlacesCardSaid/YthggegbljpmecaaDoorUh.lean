/- Tokens: the law's own functions. -/
import Derived.Test.YthggegbljpmecaaDoorUg
set_option linter.unusedVariables false
set_option linter.unusedSimpArgs false
set_option autoImplicit false
set_option maxRecDepth 20000
namespace Go.Proofs.YthggegbljpmecaaDoor.K
open Go Go.Proofs Go.RowKit

theorem tokens_len {s : Bytes} (hs : s.length ≤ 16384) : (tokensV s).1.length ≤ s.length + 1 := by
  have hyz := yld_at s (s.length + 1) ⟨blankV s, [], []⟩ (inv_first s) (by show s.length - blankV s < _; omega)
  have hyl := yld_len s (s.length + 1) ⟨blankV s, [], []⟩
  obtain ⟨n, hn⟩ : ∃ n, (yldF s (s.length + 1) ⟨blankV s, [], []⟩).length = n + 1 := ⟨_, (Nat.sub_add_cancel hyz.1).symm⟩
  rw [tokensV_end hs (n := n) hn.symm]
  have hl := (it_len s n).1
  unfold endV; split
  · exact Nat.zero_le _
  · show (linesV _ _ _).1.length ≤ _
    rw [linesV_len]; unfold nxO; rw [List.length_append, hl]; simp; omega
def ax0 : Bytes := [97, 32, 98, 59, 99]
def axT0 : List Tok := [(⟨1, [97], 0, [], false⟩ : Tok), (⟨1, [98], 2, [], false⟩ : Tok), (⟨2, [59], 3, [], false⟩ : Tok), (⟨1, [99], 4, [], false⟩ : Tok), (⟨0, [], 5, [], false⟩ : Tok)]
theorem ax0_eq : tokensV ax0 = (axT0, 0, 0) := by kernel_rfl

def ax1 : Bytes := [99, 97, 116, 32, 60, 60, 69, 10, 120, 10, 69, 10]
def axT1 : List Tok := [(⟨1, [99, 97, 116], 0, [], false⟩ : Tok), (⟨2, [60, 60], 4, [], false⟩ : Tok), (⟨1, [69], 6, [120, 10], false⟩ : Tok), (⟨3, [10], 7, [], false⟩ : Tok), (⟨0, [], 12, [], false⟩ : Tok)]
theorem ax1_eq : tokensV ax1 = (axT1, 0, 0) := by kernel_rfl

def ax2 : Bytes := [39, 120]
def axT2 : List Tok := []
theorem ax2_eq : tokensV ax2 = (axT2, 0, 101) := by kernel_rfl

theorem awake15_spec (w : World) (hmx : MaxT w) (ht : Tab w) : CallR Tryd.prog 8 #[] w fun v w' => v = .bool true ∧ Chg [] w w' := by
 refine callR_of_wp (args := []) Tryd.func8 rfl (Nat.le_of_ble_eq_true rfl) ?_
 have HC : Chg [] w w := .refl _
 have ht1 := ht.lt
 have hm1 := hmx.lt
 refine sr rfl <| aB rfl <| en <| sr rfl <| Wp rfl <| st_call (ags := [_]) rfl rfl T.ent9 rfl (Tokens_spec ax0 _ (by decide) hmx ht) ?_
 have sz1_hs0 := HC.size
 rintro _ w1 ⟨A0, cap0, rfl, hchs0, hs0, c2⟩
 rw [ax0_eq] at hs0 ⊢
 replace HC := HC.then c2
 replace ht := ht.tr0 c2
 replace hmx := hmx.tr0 c2
 refine mv (v := .tuple ⟨[_, _, _]⟩) rfl <| Wp rfl <| st_extract (vs := [_, _, _]) (v := .slice _ _ _) rfl rfl <| Wp rfl <| st_extract (vs := [_, _, _]) (v := .int _ _) rfl rfl <| Wp rfl <| st_extract (vs := [_, _, _]) (v := .int _ _) rfl rfl <| aL rfl <| aI rfl <| aI rfl <| en <| sr rfl <| Wp rfl <| st_call (ags := [_]) rfl rfl T.ent9 rfl (Tokens_spec ax1 _ (by decide) hmx ht) ?_
 have sz1_hs1 := HC.size
 rintro _ w3 ⟨A1, cap1, rfl, hchs1, hs1, c4⟩
 rw [ax1_eq] at hs1 ⊢
 replace HC := HC.then c4
 replace ht := ht.tr0 c4
 replace hmx := hmx.tr0 c4
 replace hs0 := hs0.tr0 c4
 refine mv (v := .tuple ⟨[_, _, _]⟩) rfl <| Wp rfl <| st_extract (vs := [_, _, _]) (v := .slice _ _ _) rfl rfl <| Wp rfl <| st_extract (vs := [_, _, _]) (v := .int _ _) rfl rfl <| Wp rfl <| st_extract (vs := [_, _, _]) (v := .int _ _) rfl rfl <| aL rfl <| aI rfl <| aI rfl <| en <| sr rfl <| Wp rfl <| st_call (ags := [_]) rfl rfl T.ent9 rfl (Tokens_spec ax2 _ (by decide) hmx ht) ?_
 have sz1_hs2 := HC.size
 rintro _ w5 ⟨A2, cap2, rfl, hchs2, hs2, c6⟩
 rw [ax2_eq] at hs2 ⊢
 replace HC := HC.then c6
 replace ht := ht.tr0 c6
 replace hmx := hmx.tr0 c6
 replace hs0 := hs0.tr0 c6
 replace hs1 := hs1.tr0 c6
 refine mv (v := .tuple ⟨[_, _, _]⟩) rfl <| Wp rfl <| st_extract (vs := [_, _, _]) (v := .slice _ _ _) rfl rfl <| Wp rfl <| st_extract (vs := [_, _, _]) (v := .int _ _) rfl rfl <| Wp rfl <| st_extract (vs := [_, _, _]) (v := .int _ _) rfl rfl <| aL rfl <| aI rfl <| aI rfl <| en <| sr rfl <| mI rfl <| Wp rfl <| st_eql rfl rfl <| mB rfl <| w_split (d := 27) rfl (fun g7 => ?_) (fun g7 => ?_)
 ·try simp only [nm, ne_eq] at g7
  refine w_yes 2 27 true <| st_move (v := .slice _ _ _) rfl <| w_yes 2 27 true <| st_len (ct := #[23]) (by rw [show ((#[23] : Array TypeId)[0]?).bind Tryd.prog.underlying = some (.slice 28) from T.u23]; rfl) rfl <| w_yes 2 27 true <| st_eql rfl rfl <| pT rfl rfl <| mB rfl <| w_split (d := 32) rfl (fun g8 => ?_) (fun g8 => ?_)
  ·try simp only [nm, ne_eq] at g8
   refine w_yes 7 32 true <| st_move (v := .slice _ _ _) rfl ?_
   obtain ⟨lb13, _, vs12, hA9, hR11, hC10⟩ := hs0.at (i := 2) (x := (⟨2, [59], 3, [], false⟩ : Tok)) (rfl)
   obtain rfl : vs12 = [.int .i64 (⟨2, [59], 3, [], false⟩ : Tok).kind, S (⟨2, [59], 3, [], false⟩ : Tok).text, .int .i64 (⟨2, [59], 3, [], false⟩ : Tok).at_, S (⟨2, [59], 3, [], false⟩ : Tok).here, .bool (⟨2, [59], 3, [], false⟩ : Tok).raw] := hR11
   refine w_yes 7 32 true <| st_indexAddr T.u23 T.size28 (congrArg (fun z => Value.slice z _ _) hA9) rfl (by decide) (by decide) <| w_yes 7 32 true <| st_loadA (vs := [_, _, _, _, _]) T.agg28 rfl hC10 rfl <| w_yes 7 32 true <| st_bld (ps := [(0, .const (.int .i64 2)), (1, .const (S [59])), (2, .const (.int .i64 3))]) (vs := [.int _ _, S _, .int _ _, S _, .bool _]) T.bld28 rfl <| w_yes 7 32 true <| st_aeql T.eq28 rfl rfl rfl <| pT rfl rfl <| mB rfl <| w_split (d := 39) rfl (fun g14 => ?_) (fun g14 => ?_)
   ·try simp only [nm, ne_eq] at g14
    refine w_yes 14 39 true <| st_move (v := .slice _ _ _) rfl ?_
    obtain ⟨lb19, _, vs18, hA15, hR17, hC16⟩ := hs0.at (i := 3) (x := (⟨1, [99], 4, [], false⟩ : Tok)) (rfl)
    obtain rfl : vs18 = [.int .i64 (⟨1, [99], 4, [], false⟩ : Tok).kind, S (⟨1, [99], 4, [], false⟩ : Tok).text, .int .i64 (⟨1, [99], 4, [], false⟩ : Tok).at_, S (⟨1, [99], 4, [], false⟩ : Tok).here, .bool (⟨1, [99], 4, [], false⟩ : Tok).raw] := hR17
    refine w_yes 14 39 true <| st_indexAddr T.u23 T.size28 (congrArg (fun z => Value.slice z _ _) hA15) rfl (by decide) (by decide) <| w_yes 14 39 true <| st_fieldAddr T.fld28_2 rfl <| w_yes 14 39 true <| st_load1 (v := .int _ _) T.one3 rfl (hC16.at (j := 2) rfl) <| w_yes 14 39 true <| st_eql rfl rfl <| pT rfl rfl <| mB rfl <| w_split (d := 46) rfl (fun g20 => ?_) (fun g20 => ?_)
    ·try simp only [nm, ne_eq] at g20
     refine w_yes 21 46 true <| st_move (v := .int _ _) rfl <| w_yes 21 46 true <| st_eql rfl rfl <| pT rfl rfl <| mB rfl <| w_split (d := 50) rfl (fun g21 => ?_) (fun g21 => ?_)
     ·try simp only [nm, ne_eq] at g21
      refine w_yes 25 50 true <| st_move (v := .slice _ _ _) rfl <| w_yes 25 50 true <| st_len (ct := #[23]) (by rw [show ((#[23] : Array TypeId)[0]?).bind Tryd.prog.underlying = some (.slice 28) from T.u23]; rfl) rfl <| w_yes 25 50 true <| st_eql rfl rfl <| pT rfl rfl <| mB rfl <| w_split (d := 55) rfl (fun g22 => ?_) (fun g22 => ?_)
      ·try simp only [nm, ne_eq] at g22
       refine w_yes 30 55 true <| st_move (v := .slice _ _ _) rfl ?_
       obtain ⟨lb27, _, vs26, hA23, hR25, hC24⟩ := hs1.at (i := 2) (x := (⟨1, [69], 6, [120, 10], false⟩ : Tok)) (rfl)
       obtain rfl : vs26 = [.int .i64 (⟨1, [69], 6, [120, 10], false⟩ : Tok).kind, S (⟨1, [69], 6, [120, 10], false⟩ : Tok).text, .int .i64 (⟨1, [69], 6, [120, 10], false⟩ : Tok).at_, S (⟨1, [69], 6, [120, 10], false⟩ : Tok).here, .bool (⟨1, [69], 6, [120, 10], false⟩ : Tok).raw] := hR25
       refine w_yes 30 55 true <| st_indexAddr T.u23 T.size28 (congrArg (fun z => Value.slice z _ _) hA23) rfl (by decide) (by decide) <| w_yes 30 55 true <| st_fieldAddr T.fld28_1 rfl <| w_yes 30 55 true <| st_load1 (v := S _) T.one9 rfl (hC24.at (j := 1) rfl) <| w_yes 30 55 true <| st_seql rfl rfl <| pT rfl rfl <| mB rfl <| w_split (d := 62) rfl (fun g28 => ?_) (fun g28 => ?_)
       ·try simp only [nm, ne_eq] at g28
        refine w_yes 37 62 true <| st_move (v := .slice _ _ _) rfl ?_
        obtain ⟨lb33, _, vs32, hA29, hR31, hC30⟩ := hs1.at (i := 2) (x := (⟨1, [69], 6, [120, 10], false⟩ : Tok)) (rfl)
        obtain rfl : vs32 = [.int .i64 (⟨1, [69], 6, [120, 10], false⟩ : Tok).kind, S (⟨1, [69], 6, [120, 10], false⟩ : Tok).text, .int .i64 (⟨1, [69], 6, [120, 10], false⟩ : Tok).at_, S (⟨1, [69], 6, [120, 10], false⟩ : Tok).here, .bool (⟨1, [69], 6, [120, 10], false⟩ : Tok).raw] := hR31
        refine w_yes 37 62 true <| st_indexAddr T.u23 T.size28 (congrArg (fun z => Value.slice z _ _) hA29) rfl (by decide) (by decide) <| w_yes 37 62 true <| st_fieldAddr T.fld28_3 rfl <| w_yes 37 62 true <| st_load1 (v := S _) T.one9 rfl (hC30.at (j := 3) rfl) <| w_yes 37 62 true <| st_seql rfl rfl <| pT rfl rfl <| mB rfl <| w_split (d := 69) rfl (fun g34 => ?_) (fun g34 => ?_)
        ·try simp only [nm, ne_eq] at g34
         refine w_yes 44 69 true <| st_move (v := .slice _ _ _) rfl ?_
         obtain ⟨lb39, _, vs38, hA35, hR37, hC36⟩ := hs1.at (i := 2) (x := (⟨1, [69], 6, [120, 10], false⟩ : Tok)) (rfl)
         obtain rfl : vs38 = [.int .i64 (⟨1, [69], 6, [120, 10], false⟩ : Tok).kind, S (⟨1, [69], 6, [120, 10], false⟩ : Tok).text, .int .i64 (⟨1, [69], 6, [120, 10], false⟩ : Tok).at_, S (⟨1, [69], 6, [120, 10], false⟩ : Tok).here, .bool (⟨1, [69], 6, [120, 10], false⟩ : Tok).raw] := hR37
         refine w_yes 44 69 true <| st_indexAddr T.u23 T.size28 (congrArg (fun z => Value.slice z _ _) hA35) rfl (by decide) (by decide) <| w_yes 44 69 true <| st_fieldAddr T.fld28_4 rfl <| w_yes 44 69 true <| st_load1 (v := .bool _) T.one4 rfl (hC36.at (j := 4) rfl) <| w_yes 44 69 true <| st_not rfl <| pT rfl rfl <| mB rfl <| w_split (d := 76) rfl (fun g40 => ?_) (fun g40 => ?_)
         ·try simp only [nm, ne_eq] at g40
          refine w_yes 51 76 true <| st_move (v := .int _ _) rfl <| w_yes 51 76 true <| st_eql rfl rfl <| pT rfl rfl <| mB rfl <| w_split (d := 80) rfl (fun g41 => ?_) (fun g41 => ?_)
          ·try simp only [nm, ne_eq] at g41
           refine w_yes 55 80 true <| st_move (v := .int _ _) rfl <| w_yes 55 80 true <| st_eql rfl rfl <| pT rfl rfl <| aB rfl <| en <| x_ret <| ret_tmp (v := .bool _) rfl rfl ?_
           exact ⟨rfl, HC⟩
          ·try simp only [nm, ne_eq] at g41
           first | exact absurd rfl g41 | exact absurd trivial g41 | (simp at g41; done) | exact absurd g41 (by decide) | exact absurd (by assumption) g41
         ·try simp only [nm, ne_eq] at g40
          first | exact absurd rfl g40 | exact absurd trivial g40 | (simp at g40; done) | exact absurd g40 (by decide) | exact absurd (by assumption) g40
        ·try simp only [nm, ne_eq] at g34
         first | exact absurd rfl g34 | exact absurd trivial g34 | (simp at g34; done) | exact absurd g34 (by decide) | exact absurd (by assumption) g34
       ·try simp only [nm, ne_eq] at g28
        first | exact absurd rfl g28 | exact absurd trivial g28 | (simp at g28; done) | exact absurd g28 (by decide) | exact absurd (by assumption) g28
      ·try simp only [nm, ne_eq] at g22
       first | exact absurd rfl g22 | exact absurd trivial g22 | (simp at g22; done) | exact absurd g22 (by decide) | exact absurd (by assumption) g22
     ·try simp only [nm, ne_eq] at g21
      first | exact absurd rfl g21 | exact absurd trivial g21 | (simp at g21; done) | exact absurd g21 (by decide) | exact absurd (by assumption) g21
    ·try simp only [nm, ne_eq] at g20
     first | exact absurd rfl g20 | exact absurd trivial g20 | (simp at g20; done) | exact absurd g20 (by decide) | exact absurd (by assumption) g20
   ·try simp only [nm, ne_eq] at g14
    first | exact absurd rfl g14 | exact absurd trivial g14 | (simp at g14; done) | exact absurd g14 (by decide) | exact absurd (by assumption) g14
  ·try simp only [nm, ne_eq] at g8
   first | exact absurd rfl g8 | exact absurd trivial g8 | (simp at g8; done) | exact absurd g8 (by decide) | exact absurd (by assumption) g8
 ·try simp only [nm, ne_eq] at g7
  first | exact absurd rfl g7 | exact absurd trivial g7 | (simp at g7; done) | exact absurd g7 (by decide) | exact absurd (by assumption) g7

set_option maxHeartbeats 1600000 in
theorem TokenPlaces_spec (s : Bytes) (w : World) (hs : s.length ≤ 140737488351232) (hmx : MaxT w) (ht : Tab w) : CallR Tryd.prog 3 #[S s] w fun v w' => v = .bool true ∧ Chg [] w w' := by
 refine callR_of_wp (args := [_]) Tryd.func3 rfl (Nat.le_of_ble_eq_true rfl) ?_
 have HC : Chg [] w w := .refl _
 have ht1 := ht.lt
 have hm1 := hmx.lt
 refine sr rfl <| aB rfl <| en <| x_seq <| sr rfl <| mS rfl <| Wp rfl <| st_slen (ct := #[9]) T.u9 rfl <| Wp rfl <| st_gtr rfl rfl <| en <| x_cond rfl (fun h0 => ?_) (fun h0 => ?_)
 ·try simp only [nm, ne_eq] at h0
  refine sr rfl <| Wp rfl <| st_call (ags := []) rfl rfl T.ent8 rfl (awake15_spec _ hmx ht) ?_
  rintro _ w1 ⟨rfl, c2⟩
  replace HC := HC.then c2
  replace ht := ht.tr0 c2
  replace hmx := hmx.tr0 c2
  refine aB rfl <| en <| x_ret <| then_r <| ret_tmp (v := .bool _) rfl rfl ?_
  exact ⟨rfl, HC⟩
 ·try simp only [nm, ne_eq] at h0
  have hl3 : s.length ≤ 3000 := by first | omega | simp_all
  refine x_skip <| then_n <| sr rfl <| mS rfl <| Wp rfl <| st_call (ags := [_]) rfl rfl T.ent9 rfl (Tokens_spec s _ (by omega) hmx ht) ?_
  have sz1_hs0 := HC.size
  rintro _ w3 ⟨A0, cap0, rfl, hchs0, hs0, c4⟩
  replace HC := HC.then c4
  replace ht := ht.tr0 c4
  replace hmx := hmx.tr0 c4
  refine mv (v := .tuple ⟨[_, _, _]⟩) rfl <| Wp rfl <| st_extract (vs := [_, _, _]) (v := .slice _ _ _) rfl rfl <| Wp rfl <| st_extract (vs := [_, _, _]) (v := .int _ _) rfl rfl <| Wp rfl <| st_extract (vs := [_, _, _]) (v := .int _ _) rfl rfl <| aL rfl <| aI rfl <| aI rfl <| en <| x_seq <| x_seq ?_
  have hpl := (tokens_places hl3).imp id (fun h => (⟨congrArg Prod.fst h.1, congrArg Prod.snd h.1, h.2⟩ : (tokensV s).2.1 = 0 ∧ (tokensV s).2.2 = 0 ∧ GoodT s (tokensV s).1))
  have hLn := tokens_len (s := s) (by omega)
  obtain ⟨L, hL⟩ : ∃ L, (tokensV s).1 = L := ⟨_, rfl⟩
  obtain ⟨az0, ha0⟩ : ∃ L, (tokensV s).2.1 = L := ⟨_, rfl⟩
  obtain ⟨ez0, hz0⟩ : ∃ L, (tokensV s).2.2 = L := ⟨_, rfl⟩
  rw [hL] at hs0 hpl hLn ⊢
  rw [ha0, hz0] at hpl ⊢
  refine x_region rfl <| mI rfl <| Wp rfl <| st_neq rfl rfl <| en <| x_cond rfl (fun h1 => ?_) (fun h1 => ?_)
  ·try simp only [nm, ne_eq] at h1
   obtain ⟨_, q1, q2, q3⟩ := hpl.resolve_right (fun h => absurd h.2.1 (by first | assumption | simp_all))
   try dsimp only at q1 q2 q3
   subst q1
   refine sr rfl <| mL rfl <| Wp rfl <| st_len (ct := #[23]) (by rw [show ((#[23] : Array TypeId)[0]?).bind Tryd.prog.underlying = some (.slice 28) from T.u23]; rfl) rfl <| Wp rfl <| st_eql rfl rfl <| mB rfl <| w_split (d := 23) rfl (fun g5 => ?_) (fun g5 => ?_)
   ·try simp only [nm, ne_eq] at g5
    refine w_yes 3 23 true <| st_move (v := .int _ _) rfl <| w_yes 3 23 true <| st_geq rfl rfl <| pT rfl rfl <| mB rfl <| w_split (d := 27) rfl (fun g6 => ?_) (fun g6 => ?_)
    ·try simp only [nm, ne_eq] at g6
     refine w_yes 7 27 true <| st_move (v := .int _ _) rfl <| w_yes 7 27 true <| st_move (v := S _) rfl <| w_yes 7 27 true <| st_slen (ct := #[9]) T.u9 rfl <| w_yes 7 27 true <| st_lss rfl rfl <| pT rfl rfl <| mB rfl <| w_split (d := 33) rfl (fun g7 => ?_) (fun g7 => ?_)
     ·try simp only [nm, ne_eq] at g7
      refine w_yes 13 33 true <| st_call (ags := []) rfl rfl T.ent8 rfl (awake15_spec _ hmx ht) ?_
      rintro _ w8 ⟨rfl, c9⟩
      replace HC := HC.then c9
      replace ht := ht.tr0 c9
      replace hmx := hmx.tr0 c9
      replace hs0 := hs0.tr0 c9
      refine pT rfl rfl <| aB rfl <| en <| x_ret <| then_r <| ret_tmp (v := .bool _) rfl rfl ?_
      exact ⟨rfl, HC⟩
     ·try simp only [nm, ne_eq] at g7
      exfalso; omega
    ·try simp only [nm, ne_eq] at g6
     exfalso; omega
   ·try simp only [nm, ne_eq] at g5
    first | exact absurd rfl g5 | exact absurd trivial g5 | (simp at g5; done) | exact absurd g5 (by decide) | exact absurd (by assumption) g5
  ·try simp only [nm, ne_eq] at h1
   have hG := (hpl.resolve_left (fun h => absurd h.1 (by first | assumption | simp_all))).2.2
   try dsimp only at hG
   refine x_skip <| then_n <| x_seq <| sr rfl <| mL rfl <| Wp rfl <| st_len (ct := #[23]) (by rw [show ((#[23] : Array TypeId)[0]?).bind Tryd.prog.underlying = some (.slice 28) from T.u23]; rfl) rfl <| mI rfl <| en <| x_block <| x_loop (ι := Nat) [2, 6, 7, 38, 39, 40, 41, 42, 43, 44, 45, 46, 47, 48, 49, 50, 51, 52, 53, 54, 55, 56, 57, 58, 59, 60, 61, 62, 63, 64, 65, 66, 67, 68, 69, 70, 71, 72, 73, 74, 75, 76, 77, 78, 79, 80, 81, 82, 83, 84, 85, 86, 87, 88, 89, 90, 91, 92, 93, 94, 95, 96, 97, 98, 99, 100, 101, 102, 103, 104, 105, 106, 107, 108, 109, 110, 111, 112, 113] (fun i => [(38, .int .i64 (i : Int))]) (fun i W => (i ≤ L.length) ∧ (Chg [] w W) ∧ (Tab W) ∧ (MaxT W) ∧ (Sl tok5E W (fun k => w.heap.size ≤ k) A0 L)) (fun i => L.length - i) 0 ?_ ?_ ?_
   · exact ⟨rfl, trivial⟩
   ·refine ⟨?_, HC, ht, hmx, hs0⟩
    exact Nat.zero_le _
   intro i G11 w10 ⟨hi, HC, ht, hmx, hs0⟩
   change wp _ _ _ _ _ (upds (over _ _ G11) [(38, .int .i64 (i : Int))]) _ _
   refine sr rfl <| Wp rfl <| st_lss rfl rfl <| en <| x_seq <| x_cond rfl (fun h2 => ?_) (fun h2 => ?_)
   ·try simp only [nm, ne_eq] at h2
    refine x_skip <| then_n <| x_seq <| x_block <| sr rfl <| mI rfl ?_
    obtain ⟨x, hx12⟩ : ∃ zz, L[i]? = some zz := ⟨_, List.getElem?_eq_getElem (by omega)⟩
    obtain ⟨lb17, _, vs16, hA13, hR15, hC14⟩ := hs0.at hx12
    obtain rfl : vs16 = [.int .i64 x.kind, S x.text, .int .i64 x.at_, S x.here, .bool x.raw] := hR15
    refine Wp rfl <| st_indexAddr T.u23 T.size28 (congrArg (fun z => Value.slice z _ _) hA13) rfl (by omega) (by omega) <| Wp rfl <| st_loadA (vs := [_, _, _, _, _]) T.agg28 rfl hC14 rfl <| Wp rfl <| st_alloc T.zero28 ?_
    intro b7 w18 e19 c20 hb21
    have ge_b7 : w.heap.size ≤ b7 := by rw [e19]; exact HC.size
    have nf_hs0_b7 : L = [] ∨ b7 ∉ ob (A0) := hs0.fresh (by rw [e19]; exact Nat.le_refl _)
    replace HC := HC.then c20
    replace ht := ht.tr0 c20
    replace hmx := hmx.tr0 c20
    replace hs0 := hs0.tr0 c20
    clear e19
    refine aI rfl <| Wp rfl <| st_store (v := .agg ⟨[.int _ _, S _, .int _ _, S _, .bool _]⟩) T.size28 rfl rfl rfl hb21 rfl (Nat.le_of_ble_eq_true rfl) (by simp [Value.oneCell', S]) rfl ?_
    intro w22 c23 hb24; simp only [setVs, setV] at hb24
    clear hb21
    replace HC := HC.then1 c23 ge_b7
    replace ht := ht.tr c23 (by intro hx; have := ht.lt; have := ht1; simp only [List.mem_cons, List.mem_nil_iff, or_false] at hx; omega)
    replace hmx := hmx.tr c23 (by intro hx; simp only [List.mem_cons, List.mem_nil_iff, or_false] at hx; omega)
    replace hs0 := hs0.trF flat_flat c23 (by intro k hx; simp only [List.mem_singleton] at hx; subst hx; exact nf_hs0_b7)
    refine en <| x_seq ?_
    rcases Nat.eq_zero_or_pos i with hi0 | hi0
    ·obtain ⟨kd, tx, az, hr, rz⟩ := x
     obtain ⟨g1, g2, g3, g4⟩ := hG.at_ i _ hx12
     have g5 := hG.fin i _ hx12
     try dsimp only at g1 g2 g3 g4 g5
     obtain ⟨a, rfl⟩ := Int.eq_ofNat_of_zero_le g1
     have g6 : (s.take (a + tx.length)).drop a = tx := by rw [List.drop_take, show a + tx.length - a = tx.length by omega]; exact g4
     refine x_draw [(0, 0), (1, 0), (2, 0), (3, 0), (4, 0), (5, 0), (6, 0), (7, 0), (8, 0), (9, 0), (10, 0), (11, 0), (12, 0), (13, 0), (14, 0), (15, 0), (16, 0), (17, 0), (18, 0), (19, 0), (20, 0), (21, 0), (22, 0), (23, 0), (24, 0), (25, 0), (26, 0), (27, 0), (28, 0), (29, 0), (30, 0), (31, 0), (32, 0), (33, 0), (34, 0), (35, 0), (36, 0), (37, 0), (38, 0), (39, 0), (40, 0), (41, 0), (42, 0), (43, 0), (44, 0), (45, 0), (46, 0), (47, 0), (48, 0), (49, 0), (50, 0), (51, 0), (52, 0), (53, 0), (54, 0), (55, 0), (56, 0), (57, 0), (58, 0), (59, 0), (60, 0), (61, 0), (62, 0), (63, 0), (64, 0), (65, 0), (66, 0), (67, 0), (68, 0), (69, 0)] T.mixed rfl rfl rfl (fun W => W.heap[b7]? = w22.heap[b7]? ∧ True) ⟨rfl, trivial⟩ ?_
     have o27 := hb24
     have c26 := Chg.drew w22
     generalize World.drew w22 = w25 at c26 ⊢
     replace HC := HC.then c26
     replace ht := ht.tr0 c26
     replace hmx := hmx.tr0 c26
     replace hs0 := hs0.tr0 c26
     replace hb24 := hb24.tr0 c26
     refine sq_q rfl (fun W hT => r_fieldAddr T.fld28_2 rfl) <| sq_q rfl (fun W hT => r_load1 (v := .int _ _) T.one3 rfl (Blk.cell (show Blk W b7 _ _ from hT.1.trans o27) rfl)) <| sq_q rfl (fun W hT => r_lss rfl rfl) <| sq_q rfl (fun W hT => r_move (v := .bool _) rfl) <| sq_split (d := 46) rfl (fun g28 => ?_) (fun g28 => ?_)
     ·try simp only [nm, ne_eq] at g28
      exfalso; omega
     ·try simp only [nm, ne_eq] at g28
      refine sq_q rfl (fun W hT => r_fieldAddr T.fld28_2 rfl) <| sq_q rfl (fun W hT => r_load1 (v := .int _ _) T.one3 rfl (Blk.cell (show Blk W b7 _ _ from hT.1.trans o27) rfl)) <| sq_q rfl (fun W hT => r_move (v := S _) rfl) <| sq_q rfl (fun W hT => r_slen (ct := #[9]) T.u9 rfl) <| sq_q rfl (fun W hT => r_gtr rfl rfl) <| sq_q rfl (fun W hT => r_pick (b := false) (v := .bool _) rfl rfl) <| sq_q rfl (fun W hT => r_move (v := .bool _) rfl) <| sq_split (d := 53) rfl (fun g29 => ?_) (fun g29 => ?_)
      ·try simp only [nm, ne_eq] at g29
       exfalso; omega
      ·try simp only [nm, ne_eq] at g29
       refine sq_q rfl (fun W hT => r_fieldAddr T.fld28_1 rfl) <| sq_q rfl (fun W hT => r_load1 (v := S _) T.one9 rfl (Blk.cell (show Blk W b7 _ _ from hT.1.trans o27) rfl)) <| sq_q rfl (fun W hT => r_slen (ct := #[9]) T.u9 rfl) <| sq_q rfl (fun W hT => r_move (v := S _) rfl) <| sq_q rfl (fun W hT => r_slen (ct := #[9]) T.u9 rfl) <| sq_q rfl (fun W hT => r_fieldAddr T.fld28_2 rfl) <| sq_q rfl (fun W hT => r_load1 (v := .int _ _) T.one3 rfl (Blk.cell (show Blk W b7 _ _ from hT.1.trans o27) rfl)) <| sq_q rfl (fun W hT => r_subk rfl rfl (by exact wrap64_id (by (try dsimp only); omega) (by (try dsimp only); omega))) <| sq_q rfl (fun W hT => r_gtr rfl rfl) <| sq_q rfl (fun W hT => r_pick (b := false) (v := .bool _) rfl rfl) <| sq_q rfl (fun W hT => r_move (v := .bool _) rfl) <| sq_split (d := 64) rfl (fun g30 => ?_) (fun g30 => ?_)
       ·try simp only [nm, ne_eq] at g30
        exfalso; omega
       ·try simp only [nm, ne_eq] at g30
        refine sq_q rfl (fun W hT => r_move (v := S _) rfl) <| sq_q rfl (fun W hT => r_fieldAddr T.fld28_2 rfl) <| sq_q rfl (fun W hT => r_load1 (v := .int _ _) T.one3 rfl (Blk.cell (show Blk W b7 _ _ from hT.1.trans o27) rfl)) <| sq_q rfl (fun W hT => r_fieldAddr T.fld28_2 rfl) <| sq_q rfl (fun W hT => r_load1 (v := .int _ _) T.one3 rfl (Blk.cell (show Blk W b7 _ _ from hT.1.trans o27) rfl)) <| sq_q rfl (fun W hT => r_fieldAddr T.fld28_1 rfl) <| sq_q rfl (fun W hT => r_load1 (v := S _) T.one9 rfl (Blk.cell (show Blk W b7 _ _ from hT.1.trans o27) rfl)) <| sq_q rfl (fun W hT => r_slen (ct := #[9]) T.u9 rfl) <| sq_q rfl (fun W hT => r_addk rfl rfl (by exact wrap64_id (by (try dsimp only); omega) (by (try dsimp only); omega))) <| sq_q rfl (fun W hT => r_sslice (i := a) (j := (a + tx.length)) T.u9 rfl ⟨_, rfl⟩ ⟨_, rfl⟩ (by omega) (by omega)) <| sq_q rfl (fun W hT => r_fieldAddr T.fld28_1 rfl) <| sq_q rfl (fun W hT => r_load1 (v := S _) T.one9 rfl (Blk.cell (show Blk W b7 _ _ from hT.1.trans o27) rfl)) <| sq_q rfl (fun W hT => r_sneq rfl rfl) <| sq_q rfl (fun W hT => r_pick (b := false) (v := .bool _) rfl rfl) <| sq_q rfl (fun W hT => r_move (v := .bool _) rfl) <| sq_split (d := 79) rfl (fun g31 => ?_) (fun g31 => ?_)
        ·try simp only [nm, ne_eq] at g31
         exact absurd g6 (by first | assumption | simp_all)
        ·try simp only [nm, ne_eq] at g31
         refine sq_q rfl (fun W hT => r_move (v := .int _ _) rfl) <| sq_q rfl (fun W hT => r_gtr rfl rfl) <| sq_q rfl (fun W hT => r_move (v := .bool _) rfl) <| sq_split (d := 82) rfl (fun g32 => ?_) (fun g32 => ?_)
         ·try simp only [nm, ne_eq] at g32
          exfalso; omega
         ·try simp only [nm, ne_eq] at g32
          refine sq_no rfl rfl <| sq_no rfl rfl <| sq_no rfl rfl <| sq_no rfl rfl <| sq_no rfl rfl <| sq_no rfl rfl <| sq_no rfl rfl <| sq_no rfl rfl <| sq_no rfl rfl <| sq_no rfl rfl <| sq_no rfl rfl <| sq_no rfl rfl <| sq_no rfl rfl <| sq_no rfl rfl <| sq_no rfl rfl <| sq_no rfl rfl <| sq_no rfl rfl <| sq_q rfl (fun W hT => r_pick (b := false) (v := .bool _) rfl rfl) <| sq_q rfl (fun W hT => r_pick (b := false) (v := .bool _) rfl rfl) <| sq_q rfl (fun W hT => r_move (v := .bool _) rfl) <| sq_q rfl (fun W hT => r_fieldAddr T.fld28_0 rfl) <| sq_q rfl (fun W hT => r_load1 (v := .int _ _) T.one3 rfl (Blk.cell (show Blk W b7 _ _ from hT.1.trans o27) rfl)) <| sq_q rfl (fun W hT => r_eql rfl rfl) <| sq_q rfl (fun W hT => r_move (v := .int _ _) rfl) <| sq_q rfl (fun W hT => r_move (v := .slice _ _ _) rfl) <| sq_q rfl (fun W hT => r_len (ct := #[23]) (by rw [show ((#[23] : Array TypeId)[0]?).bind Tryd.prog.underlying = some (.slice 28) from T.u23]; rfl) rfl) <| sq_q rfl (fun W hT => r_subk rfl rfl (by exact wrap64_id (by (try dsimp only); omega) (by (try dsimp only); omega))) <| sq_q rfl (fun W hT => r_eql rfl rfl) <| sq_q rfl (fun W hT => r_bneq T.u4 rfl rfl) <| sq_q rfl (fun W hT => r_pick (b := false) (v := .bool _) rfl rfl) ?_
          clear o27
          refine sq_nil <| then_n <| x_cond rfl (fun h3 => ?_) (fun h3 => ?_)
          ·try simp only [nm, ne_eq] at h3
           exfalso; have g9 : (decide (kd = 0)) = decide ((i : Int) = (L.length : Int) - 1) := (by rw [decide_eq_decide, g5]; omega); simp_all
          ·try simp only [nm, ne_eq] at h3
           refine x_skip <| block_n <| then_n <| x_region rfl <| Wp rfl <| st_addn rfl rfl (by constructor <;> omega) <| mI rfl <| en <| ⟨i + 1, ?_, ?_, rfl, ⟨rfl, trivial⟩, ?_⟩
           ·refine ⟨?_, HC, ht, hmx, hs0⟩
            exact (by omega)
           ·show L.length - (i + 1) < L.length - i; omega
           repeat (first | exact agree_upds agree_over rfl | refine agree_upd ?_ rfl | refine agree_upds ?_ rfl | refine agree_over_sub ?_ rfl)
    ·obtain ⟨kd, tx, az, hr, rz⟩ := x
     obtain ⟨g1, g2, g3, g4⟩ := hG.at_ i _ hx12
     have g5 := hG.fin i _ hx12
     try dsimp only at g1 g2 g3 g4 g5
     obtain ⟨a, rfl⟩ := Int.eq_ofNat_of_zero_le g1
     have g6 : (s.take (a + tx.length)).drop a = tx := by rw [List.drop_take, show a + tx.length - a = tx.length by omega]; exact g4
     obtain ⟨k1, hik⟩ : ∃ k, i = k + 1 := ⟨i - 1, by omega⟩
     obtain ⟨x33, hx34⟩ : ∃ zz, L[k1]? = some zz := ⟨_, List.getElem?_eq_getElem (by omega)⟩
     obtain ⟨lb39, _, vs38, hA35, hR37, hC36⟩ := hs0.at hx34
     obtain rfl : vs38 = [.int .i64 x33.kind, S x33.text, .int .i64 x33.at_, S x33.here, .bool x33.raw] := hR37
     obtain ⟨x40, hx41⟩ : ∃ zz, L[k1]? = some zz := ⟨_, List.getElem?_eq_getElem (by omega)⟩
     obtain ⟨lb46, _, vs45, hA42, hR44, hC43⟩ := hs0.at hx41
     obtain rfl : vs45 = [.int .i64 x40.kind, S x40.text, .int .i64 x40.at_, S x40.here, .bool x40.raw] := hR44
     refine x_draw [(0, 0), (1, 0), (2, 0), (3, 0), (4, 0), (5, 0), (6, 0), (7, 0), (8, 0), (9, 0), (10, 0), (11, 0), (12, 0), (13, 0), (14, 0), (15, 0), (16, 0), (17, 0), (18, 0), (19, 0), (20, 0), (21, 0), (22, 0), (23, 0), (24, 0), (25, 0), (26, 0), (27, 0), (28, 0), (29, 0), (30, 0), (31, 0), (32, 0), (33, 0), (34, 0), (35, 0), (36, 0), (37, 0), (38, 0), (39, 0), (40, 0), (41, 0), (42, 0), (43, 0), (44, 0), (45, 0), (46, 0), (47, 0), (48, 0), (49, 0), (50, 0), (51, 0), (52, 0), (53, 0), (54, 0), (55, 0), (56, 0), (57, 0), (58, 0), (59, 0), (60, 0), (61, 0), (62, 0), (63, 0), (64, 0), (65, 0), (66, 0), (67, 0), (68, 0), (69, 0)] T.mixed rfl rfl rfl (fun W => W.heap[b7]? = w22.heap[b7]? ∧ W.heap[lb39]? = w22.heap[lb39]? ∧ W.heap[lb46]? = w22.heap[lb46]? ∧ True) ⟨rfl, rfl, rfl, trivial⟩ ?_
     have o49 := hb24
     have c48 := Chg.drew w22
     generalize World.drew w22 = w47 at c48 ⊢
     have ht_lb39 : lb39 < w47.heap.size ∧ w47.heap[lb39]? = w22.heap[lb39]? := ⟨Nat.lt_of_lt_of_le hC36.lt c48.size, c48.block lb39 hC36.lt (by simp)⟩
     have ht_lb46 : lb46 < w47.heap.size ∧ w47.heap[lb46]? = w22.heap[lb46]? := ⟨Nat.lt_of_lt_of_le hC43.lt c48.size, c48.block lb46 hC43.lt (by simp)⟩
     replace HC := HC.then c48
     replace ht := ht.tr0 c48
     replace hmx := hmx.tr0 c48
     replace hs0 := hs0.tr0 c48
     replace hb24 := hb24.tr0 c48
     have g8 := Option.some.inj (hx34.symm.trans hx41)
     subst g8
     have g10 := (hG.at_ k1 _ hx34).1
     have g7 := hG.up k1 _ _ hx34 (by rw [← hik]; exact hx12)
     try dsimp only at g7
     refine sq_q rfl (fun W hT => r_fieldAddr T.fld28_2 rfl) <| sq_q rfl (fun W hT => r_load1 (v := .int _ _) T.one3 rfl (Blk.cell (show Blk W b7 _ _ from hT.1.trans o49) rfl)) <| sq_q rfl (fun W hT => r_lss rfl rfl) <| sq_q rfl (fun W hT => r_move (v := .bool _) rfl) <| sq_split (d := 46) rfl (fun g50 => ?_) (fun g50 => ?_)
     ·try simp only [nm, ne_eq] at g50
      exfalso; omega
     ·try simp only [nm, ne_eq] at g50
      refine sq_q rfl (fun W hT => r_fieldAddr T.fld28_2 rfl) <| sq_q rfl (fun W hT => r_load1 (v := .int _ _) T.one3 rfl (Blk.cell (show Blk W b7 _ _ from hT.1.trans o49) rfl)) <| sq_q rfl (fun W hT => r_move (v := S _) rfl) <| sq_q rfl (fun W hT => r_slen (ct := #[9]) T.u9 rfl) <| sq_q rfl (fun W hT => r_gtr rfl rfl) <| sq_q rfl (fun W hT => r_pick (b := false) (v := .bool _) rfl rfl) <| sq_q rfl (fun W hT => r_move (v := .bool _) rfl) <| sq_split (d := 53) rfl (fun g51 => ?_) (fun g51 => ?_)
      ·try simp only [nm, ne_eq] at g51
       exfalso; omega
      ·try simp only [nm, ne_eq] at g51
       refine sq_q rfl (fun W hT => r_fieldAddr T.fld28_1 rfl) <| sq_q rfl (fun W hT => r_load1 (v := S _) T.one9 rfl (Blk.cell (show Blk W b7 _ _ from hT.1.trans o49) rfl)) <| sq_q rfl (fun W hT => r_slen (ct := #[9]) T.u9 rfl) <| sq_q rfl (fun W hT => r_move (v := S _) rfl) <| sq_q rfl (fun W hT => r_slen (ct := #[9]) T.u9 rfl) <| sq_q rfl (fun W hT => r_fieldAddr T.fld28_2 rfl) <| sq_q rfl (fun W hT => r_load1 (v := .int _ _) T.one3 rfl (Blk.cell (show Blk W b7 _ _ from hT.1.trans o49) rfl)) <| sq_q rfl (fun W hT => r_subk rfl rfl (by exact wrap64_id (by (try dsimp only); omega) (by (try dsimp only); omega))) <| sq_q rfl (fun W hT => r_gtr rfl rfl) <| sq_q rfl (fun W hT => r_pick (b := false) (v := .bool _) rfl rfl) <| sq_q rfl (fun W hT => r_move (v := .bool _) rfl) <| sq_split (d := 64) rfl (fun g52 => ?_) (fun g52 => ?_)
       ·try simp only [nm, ne_eq] at g52
        exfalso; omega
       ·try simp only [nm, ne_eq] at g52
        refine sq_q rfl (fun W hT => r_move (v := S _) rfl) <| sq_q rfl (fun W hT => r_fieldAddr T.fld28_2 rfl) <| sq_q rfl (fun W hT => r_load1 (v := .int _ _) T.one3 rfl (Blk.cell (show Blk W b7 _ _ from hT.1.trans o49) rfl)) <| sq_q rfl (fun W hT => r_fieldAddr T.fld28_2 rfl) <| sq_q rfl (fun W hT => r_load1 (v := .int _ _) T.one3 rfl (Blk.cell (show Blk W b7 _ _ from hT.1.trans o49) rfl)) <| sq_q rfl (fun W hT => r_fieldAddr T.fld28_1 rfl) <| sq_q rfl (fun W hT => r_load1 (v := S _) T.one9 rfl (Blk.cell (show Blk W b7 _ _ from hT.1.trans o49) rfl)) <| sq_q rfl (fun W hT => r_slen (ct := #[9]) T.u9 rfl) <| sq_q rfl (fun W hT => r_addk rfl rfl (by exact wrap64_id (by (try dsimp only); omega) (by (try dsimp only); omega))) <| sq_q rfl (fun W hT => r_sslice (i := a) (j := (a + tx.length)) T.u9 rfl ⟨_, rfl⟩ ⟨_, rfl⟩ (by omega) (by omega)) <| sq_q rfl (fun W hT => r_fieldAddr T.fld28_1 rfl) <| sq_q rfl (fun W hT => r_load1 (v := S _) T.one9 rfl (Blk.cell (show Blk W b7 _ _ from hT.1.trans o49) rfl)) <| sq_q rfl (fun W hT => r_sneq rfl rfl) <| sq_q rfl (fun W hT => r_pick (b := false) (v := .bool _) rfl rfl) <| sq_q rfl (fun W hT => r_move (v := .bool _) rfl) <| sq_split (d := 79) rfl (fun g53 => ?_) (fun g53 => ?_)
        ·try simp only [nm, ne_eq] at g53
         exact absurd g6 (by first | assumption | simp_all)
        ·try simp only [nm, ne_eq] at g53
         refine sq_q rfl (fun W hT => r_move (v := .int _ _) rfl) <| sq_q rfl (fun W hT => r_gtr rfl rfl) <| sq_q rfl (fun W hT => r_move (v := .bool _) rfl) <| sq_split (d := 82) rfl (fun g54 => ?_) (fun g54 => ?_)
         ·try simp only [nm, ne_eq] at g54
          refine sq_q rfl (fun W hT => r_fieldAddr T.fld28_2 rfl) <| sq_q rfl (fun W hT => r_load1 (v := .int _ _) T.one3 rfl (Blk.cell (show Blk W b7 _ _ from hT.1.trans o49) rfl)) <| sq_q rfl (fun W hT => r_move (v := .slice _ _ _) rfl) <| sq_q rfl (fun W hT => r_move (v := .int _ _) rfl) <| sq_q rfl (fun W hT => r_subk rfl rfl (by exact (show IntKind.i64.wrap ((i : Int) - 1) = ((k1 : Nat) : Int) by rw [wrap64_id (by omega) (by omega)]; omega))) <| sq_q rfl (fun W hT => r_indexAddr T.u23 T.size28 (congrArg (fun z => Value.slice z _ _) hA35) rfl (by omega) (by omega)) <| sq_q rfl (fun W hT => r_fieldAddr T.fld28_2 rfl) <| sq_q rfl (fun W hT => r_load1 (v := .int _ _) T.one3 rfl (Cells.at (j := 2) (Cells.tr hC36 hT.2.1) rfl)) <| sq_q rfl (fun W hT => r_move (v := .slice _ _ _) rfl) <| sq_q rfl (fun W hT => r_move (v := .int _ _) rfl) <| sq_q rfl (fun W hT => r_subk rfl rfl (by exact (show IntKind.i64.wrap ((i : Int) - 1) = ((k1 : Nat) : Int) by rw [wrap64_id (by omega) (by omega)]; omega))) <| sq_q rfl (fun W hT => r_indexAddr T.u23 T.size28 (congrArg (fun z => Value.slice z _ _) hA42) rfl (by omega) (by omega)) <| sq_q rfl (fun W hT => r_fieldAddr T.fld28_1 rfl) <| sq_q rfl (fun W hT => r_load1 (v := S _) T.one9 rfl (Cells.at (j := 1) (Cells.tr hC43 hT.2.2.1) rfl)) <| sq_q rfl (fun W hT => r_slen (ct := #[9]) T.u9 rfl) <| sq_q rfl (fun W hT => r_addk rfl rfl (by exact wrap64_id (by first | omega | assumption) (by first | omega | assumption))) <| sq_q rfl (fun W hT => r_lss rfl rfl) <| sq_q rfl (fun W hT => r_pick (b := true) (v := .bool _) rfl rfl) <| sq_q rfl (fun W hT => r_pick (b := false) (v := .bool _) rfl rfl) <| sq_q rfl (fun W hT => r_move (v := .bool _) rfl) <| sq_split (d := 102) rfl (fun g55 => ?_) (fun g55 => ?_)
          ·try simp only [nm, ne_eq] at g55
           exfalso; omega
          ·try simp only [nm, ne_eq] at g55
           refine sq_q rfl (fun W hT => r_fieldAddr T.fld28_0 rfl) <| sq_q rfl (fun W hT => r_load1 (v := .int _ _) T.one3 rfl (Blk.cell (show Blk W b7 _ _ from hT.1.trans o49) rfl)) <| sq_q rfl (fun W hT => r_eql rfl rfl) <| sq_q rfl (fun W hT => r_move (v := .int _ _) rfl) <| sq_q rfl (fun W hT => r_move (v := .slice _ _ _) rfl) <| sq_q rfl (fun W hT => r_len (ct := #[23]) (by rw [show ((#[23] : Array TypeId)[0]?).bind Tryd.prog.underlying = some (.slice 28) from T.u23]; rfl) rfl) <| sq_q rfl (fun W hT => r_subk rfl rfl (by exact wrap64_id (by (try dsimp only); omega) (by (try dsimp only); omega))) <| sq_q rfl (fun W hT => r_eql rfl rfl) <| sq_q rfl (fun W hT => r_bneq T.u4 rfl rfl) <| sq_q rfl (fun W hT => r_pick (b := false) (v := .bool _) rfl rfl) ?_
           clear o49
           refine sq_nil <| then_n <| x_cond rfl (fun h3 => ?_) (fun h3 => ?_)
           ·try simp only [nm, ne_eq] at h3
            exfalso; have g9 : (decide (kd = 0)) = decide ((i : Int) = (L.length : Int) - 1) := (by rw [decide_eq_decide, g5]; omega); simp_all
           ·try simp only [nm, ne_eq] at h3
            refine x_skip <| block_n <| then_n <| x_region rfl <| Wp rfl <| st_addn rfl rfl (by constructor <;> omega) <| mI rfl <| en <| ⟨i + 1, ?_, ?_, rfl, ⟨rfl, trivial⟩, ?_⟩
            ·refine ⟨?_, HC, ht, hmx, hs0⟩
             exact (by omega)
            ·show L.length - (i + 1) < L.length - i; omega
            repeat (first | exact agree_upds agree_over rfl | refine agree_upd ?_ rfl | refine agree_upds ?_ rfl | refine agree_over_sub ?_ rfl)
         ·try simp only [nm, ne_eq] at g54
          exfalso; omega
   ·try simp only [nm, ne_eq] at h2
    have hie : i = L.length := by omega
    obtain ⟨nz, z, hz1, hz2, hz3⟩ := hG.last
    refine x_exit <| then_x <| then_x <| block_x <| then_n <| sr rfl <| mL rfl <| Wp rfl <| st_len (ct := #[23]) (by rw [show ((#[23] : Array TypeId)[0]?).bind Tryd.prog.underlying = some (.slice 28) from T.u23]; rfl) rfl <| Wp rfl <| st_gtr rfl rfl <| mB rfl <| w_split (d := 117) rfl (fun g56 => ?_) (fun g56 => ?_)
    ·try simp only [nm, ne_eq] at g56
     refine w_yes 3 117 true <| st_move (v := .slice _ _ _) rfl <| w_yes 3 117 true <| st_move (v := .slice _ _ _) rfl <| w_yes 3 117 true <| st_len (ct := #[23]) (by rw [show ((#[23] : Array TypeId)[0]?).bind Tryd.prog.underlying = some (.slice 28) from T.u23]; rfl) rfl <| w_yes 3 117 true <| st_subk rfl rfl (by exact (show IntKind.i64.wrap _ = ((nz : Nat) : Int) by rw [wrap64_id (by omega) (by omega)]; omega)) ?_
     obtain ⟨lb61, _, vs60, hA57, hR59, hC58⟩ := hs0.at (i := nz) (x := z) (hz2)
     obtain rfl : vs60 = [.int .i64 z.kind, S z.text, .int .i64 z.at_, S z.here, .bool z.raw] := hR59
     refine w_yes 3 117 true <| st_indexAddr T.u23 T.size28 (congrArg (fun z => Value.slice z _ _) hA57) rfl (by omega) (by omega) <| w_yes 3 117 true <| st_fieldAddr T.fld28_2 rfl <| w_yes 3 117 true <| st_load1 (v := .int _ _) T.one3 rfl (hC58.at (j := 2) rfl) <| w_yes 3 117 true <| st_move (v := S _) rfl <| w_yes 3 117 true <| st_slen (ct := #[9]) T.u9 rfl <| w_yes 3 117 true <| st_eql rfl rfl <| pT rfl rfl <| mB rfl <| w_split (d := 129) rfl (fun g62 => ?_) (fun g62 => ?_)
     ·try simp only [nm, ne_eq] at g62
      refine w_yes 15 129 true <| st_call (ags := []) rfl rfl T.ent8 rfl (awake15_spec _ hmx ht) ?_
      rintro _ w63 ⟨rfl, c64⟩
      replace HC := HC.then c64
      replace ht := ht.tr0 c64
      replace hmx := hmx.tr0 c64
      replace hs0 := hs0.tr0 c64
      refine pT rfl rfl <| aB rfl <| en <| x_ret <| ret_tmp (v := .bool _) rfl rfl ?_
      exact ⟨rfl, HC⟩
     ·try simp only [nm, ne_eq] at g62
      exfalso; omega
    ·try simp only [nm, ne_eq] at g56
     exfalso; omega

end Go.Proofs.YthggegbljpmecaaDoor.K
