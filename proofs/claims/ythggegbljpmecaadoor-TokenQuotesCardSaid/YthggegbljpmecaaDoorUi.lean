import Derived.Test.YthggegbljpmecaaDoorUg
import Derived.Test.YthggegbljpmecaaDoorScan
set_option linter.unusedVariables false
set_option linter.unusedSimpArgs false
set_option autoImplicit false
set_option maxRecDepth 20000
namespace Go.Proofs.YthggegbljpmecaaDoor.K
open Go Go.Proofs Go.RowKit

def ax0 : Bytes := [97, 32, 98, 59, 99]
def axT0 : List Tok := [(⟨1, [97], 0, [], false⟩ : Tok), (⟨1, [98], 2, [], false⟩ : Tok), (⟨2, [59], 3, [], false⟩ : Tok), (⟨1, [99], 4, [], false⟩ : Tok), (⟨0, [], 5, [], false⟩ : Tok)]
theorem ax0_eq : tokensV ax0 = (axT0, 0, 0) := by kernel_rfl

def ax1 : Bytes := [99, 97, 116, 32, 60, 60, 69, 10, 120, 10, 69, 10]
def axT1 : List Tok := [(⟨1, [99, 97, 116], 0, [], false⟩ : Tok), (⟨2, [60, 60], 4, [], false⟩ : Tok), (⟨1, [69], 6, [120, 10], false⟩ : Tok), (⟨3, [10], 7, [], false⟩ : Tok), (⟨0, [], 12, [], false⟩ : Tok)]
theorem ax1_eq : tokensV ax1 = (axT1, 0, 0) := by kernel_rfl

def ax2 : Bytes := [39, 120]
def axT2 : List Tok := []
theorem ax2_eq : tokensV ax2 = (axT2, 0, 101) := by kernel_rfl

theorem awake15_spec (w : World) (hmx : MaxT w) (ht : Tab w) : CallR Tryd.prog 8 #[] w fun v w' => v = .bool true ∧ Chg [] w w' := by
 refine callR_of_wp (args := []) Tryd.func8 rfl (Nat.le_of_ble_eq_true rfl) ?_
 have HC : Chg [] w w := .refl _
 have ht1 := ht.lt
 have hm1 := hmx.lt
 refine sr rfl <| aB rfl <| en <| sr rfl <| Wp rfl <| st_call (ags := [_]) rfl rfl T.ent9 rfl (Tokens_spec ax0 _ (by decide) hmx ht) ?_
 have sz1_hs0 := HC.size
 rintro _ w1 ⟨A0, cap0, rfl, hchs0, hs0, c2⟩
 rw [ax0_eq] at hs0 ⊢
 replace HC := HC.then c2
 replace ht := ht.tr0 c2
 replace hmx := hmx.tr0 c2
 refine mv (v := .tuple ⟨[_, _, _]⟩) rfl <| Wp rfl <| st_extract (vs := [_, _, _]) (v := .slice _ _ _) rfl rfl <| Wp rfl <| st_extract (vs := [_, _, _]) (v := .int _ _) rfl rfl <| Wp rfl <| st_extract (vs := [_, _, _]) (v := .int _ _) rfl rfl <| aL rfl <| aI rfl <| aI rfl <| en <| sr rfl <| Wp rfl <| st_call (ags := [_]) rfl rfl T.ent9 rfl (Tokens_spec ax1 _ (by decide) hmx ht) ?_
 have sz1_hs1 := HC.size
 rintro _ w3 ⟨A1, cap1, rfl, hchs1, hs1, c4⟩
 rw [ax1_eq] at hs1 ⊢
 replace HC := HC.then c4
 replace ht := ht.tr0 c4
 replace hmx := hmx.tr0 c4
 replace hs0 := hs0.tr0 c4
 refine mv (v := .tuple ⟨[_, _, _]⟩) rfl <| Wp rfl <| st_extract (vs := [_, _, _]) (v := .slice _ _ _) rfl rfl <| Wp rfl <| st_extract (vs := [_, _, _]) (v := .int _ _) rfl rfl <| Wp rfl <| st_extract (vs := [_, _, _]) (v := .int _ _) rfl rfl <| aL rfl <| aI rfl <| aI rfl <| en <| sr rfl <| Wp rfl <| st_call (ags := [_]) rfl rfl T.ent9 rfl (Tokens_spec ax2 _ (by decide) hmx ht) ?_
 have sz1_hs2 := HC.size
 rintro _ w5 ⟨A2, cap2, rfl, hchs2, hs2, c6⟩
 rw [ax2_eq] at hs2 ⊢
 replace HC := HC.then c6
 replace ht := ht.tr0 c6
 replace hmx := hmx.tr0 c6
 replace hs0 := hs0.tr0 c6
 replace hs1 := hs1.tr0 c6
 refine mv (v := .tuple ⟨[_, _, _]⟩) rfl <| Wp rfl <| st_extract (vs := [_, _, _]) (v := .slice _ _ _) rfl rfl <| Wp rfl <| st_extract (vs := [_, _, _]) (v := .int _ _) rfl rfl <| Wp rfl <| st_extract (vs := [_, _, _]) (v := .int _ _) rfl rfl <| aL rfl <| aI rfl <| aI rfl <| en <| sr rfl <| mI rfl <| Wp rfl <| st_eql rfl rfl <| mB rfl <| w_split (d := 27) rfl (fun g7 => ?_) (fun g7 => ?_)
 ·try simp only [nm, ne_eq] at g7
  refine w_yes 2 27 true <| st_move (v := .slice _ _ _) rfl <| w_yes 2 27 true <| st_len (ct := #[23]) (by rw [show ((#[23] : Array TypeId)[0]?).bind Tryd.prog.underlying = some (.slice 28) from T.u23]; rfl) rfl <| w_yes 2 27 true <| st_eql rfl rfl <| pT rfl rfl <| mB rfl <| w_split (d := 32) rfl (fun g8 => ?_) (fun g8 => ?_)
  ·try simp only [nm, ne_eq] at g8
   refine w_yes 7 32 true <| st_move (v := .slice _ _ _) rfl ?_
   obtain ⟨lb13, _, vs12, hA9, hR11, hC10⟩ := hs0.at (i := 2) (x := (⟨2, [59], 3, [], false⟩ : Tok)) (rfl)
   obtain rfl : vs12 = [.int .i64 (⟨2, [59], 3, [], false⟩ : Tok).kind, S (⟨2, [59], 3, [], false⟩ : Tok).text, .int .i64 (⟨2, [59], 3, [], false⟩ : Tok).at_, S (⟨2, [59], 3, [], false⟩ : Tok).here, .bool (⟨2, [59], 3, [], false⟩ : Tok).raw] := hR11
   refine w_yes 7 32 true <| st_indexAddr T.u23 T.size28 (congrArg (fun z => Value.slice z _ _) hA9) rfl (by decide) (by decide) <| w_yes 7 32 true <| st_loadA (vs := [_, _, _, _, _]) T.agg28 rfl hC10 rfl <| w_yes 7 32 true <| st_bld (ps := [(0, .const (.int .i64 2)), (1, .const (S [59])), (2, .const (.int .i64 3))]) (vs := [.int _ _, S _, .int _ _, S _, .bool _]) T.bld28 rfl <| w_yes 7 32 true <| st_aeql T.eq28 rfl rfl rfl <| pT rfl rfl <| mB rfl <| w_split (d := 39) rfl (fun g14 => ?_) (fun g14 => ?_)
   ·try simp only [nm, ne_eq] at g14
    refine w_yes 14 39 true <| st_move (v := .slice _ _ _) rfl ?_
    obtain ⟨lb19, _, vs18, hA15, hR17, hC16⟩ := hs0.at (i := 3) (x := (⟨1, [99], 4, [], false⟩ : Tok)) (rfl)
    obtain rfl : vs18 = [.int .i64 (⟨1, [99], 4, [], false⟩ : Tok).kind, S (⟨1, [99], 4, [], false⟩ : Tok).text, .int .i64 (⟨1, [99], 4, [], false⟩ : Tok).at_, S (⟨1, [99], 4, [], false⟩ : Tok).here, .bool (⟨1, [99], 4, [], false⟩ : Tok).raw] := hR17
    refine w_yes 14 39 true <| st_indexAddr T.u23 T.size28 (congrArg (fun z => Value.slice z _ _) hA15) rfl (by decide) (by decide) <| w_yes 14 39 true <| st_fieldAddr T.fld28_2 rfl <| w_yes 14 39 true <| st_load1 (v := .int _ _) T.one3 rfl (hC16.at (j := 2) rfl) <| w_yes 14 39 true <| st_eql rfl rfl <| pT rfl rfl <| mB rfl <| w_split (d := 46) rfl (fun g20 => ?_) (fun g20 => ?_)
    ·try simp only [nm, ne_eq] at g20
     refine w_yes 21 46 true <| st_move (v := .int _ _) rfl <| w_yes 21 46 true <| st_eql rfl rfl <| pT rfl rfl <| mB rfl <| w_split (d := 50) rfl (fun g21 => ?_) (fun g21 => ?_)
     ·try simp only [nm, ne_eq] at g21
      refine w_yes 25 50 true <| st_move (v := .slice _ _ _) rfl <| w_yes 25 50 true <| st_len (ct := #[23]) (by rw [show ((#[23] : Array TypeId)[0]?).bind Tryd.prog.underlying = some (.slice 28) from T.u23]; rfl) rfl <| w_yes 25 50 true <| st_eql rfl rfl <| pT rfl rfl <| mB rfl <| w_split (d := 55) rfl (fun g22 => ?_) (fun g22 => ?_)
      ·try simp only [nm, ne_eq] at g22
       refine w_yes 30 55 true <| st_move (v := .slice _ _ _) rfl ?_
       obtain ⟨lb27, _, vs26, hA23, hR25, hC24⟩ := hs1.at (i := 2) (x := (⟨1, [69], 6, [120, 10], false⟩ : Tok)) (rfl)
       obtain rfl : vs26 = [.int .i64 (⟨1, [69], 6, [120, 10], false⟩ : Tok).kind, S (⟨1, [69], 6, [120, 10], false⟩ : Tok).text, .int .i64 (⟨1, [69], 6, [120, 10], false⟩ : Tok).at_, S (⟨1, [69], 6, [120, 10], false⟩ : Tok).here, .bool (⟨1, [69], 6, [120, 10], false⟩ : Tok).raw] := hR25
       refine w_yes 30 55 true <| st_indexAddr T.u23 T.size28 (congrArg (fun z => Value.slice z _ _) hA23) rfl (by decide) (by decide) <| w_yes 30 55 true <| st_fieldAddr T.fld28_1 rfl <| w_yes 30 55 true <| st_load1 (v := S _) T.one9 rfl (hC24.at (j := 1) rfl) <| w_yes 30 55 true <| st_seql rfl rfl <| pT rfl rfl <| mB rfl <| w_split (d := 62) rfl (fun g28 => ?_) (fun g28 => ?_)
       ·try simp only [nm, ne_eq] at g28
        refine w_yes 37 62 true <| st_move (v := .slice _ _ _) rfl ?_
        obtain ⟨lb33, _, vs32, hA29, hR31, hC30⟩ := hs1.at (i := 2) (x := (⟨1, [69], 6, [120, 10], false⟩ : Tok)) (rfl)
        obtain rfl : vs32 = [.int .i64 (⟨1, [69], 6, [120, 10], false⟩ : Tok).kind, S (⟨1, [69], 6, [120, 10], false⟩ : Tok).text, .int .i64 (⟨1, [69], 6, [120, 10], false⟩ : Tok).at_, S (⟨1, [69], 6, [120, 10], false⟩ : Tok).here, .bool (⟨1, [69], 6, [120, 10], false⟩ : Tok).raw] := hR31
        refine w_yes 37 62 true <| st_indexAddr T.u23 T.size28 (congrArg (fun z => Value.slice z _ _) hA29) rfl (by decide) (by decide) <| w_yes 37 62 true <| st_fieldAddr T.fld28_3 rfl <| w_yes 37 62 true <| st_load1 (v := S _) T.one9 rfl (hC30.at (j := 3) rfl) <| w_yes 37 62 true <| st_seql rfl rfl <| pT rfl rfl <| mB rfl <| w_split (d := 69) rfl (fun g34 => ?_) (fun g34 => ?_)
        ·try simp only [nm, ne_eq] at g34
         refine w_yes 44 69 true <| st_move (v := .slice _ _ _) rfl ?_
         obtain ⟨lb39, _, vs38, hA35, hR37, hC36⟩ := hs1.at (i := 2) (x := (⟨1, [69], 6, [120, 10], false⟩ : Tok)) (rfl)
         obtain rfl : vs38 = [.int .i64 (⟨1, [69], 6, [120, 10], false⟩ : Tok).kind, S (⟨1, [69], 6, [120, 10], false⟩ : Tok).text, .int .i64 (⟨1, [69], 6, [120, 10], false⟩ : Tok).at_, S (⟨1, [69], 6, [120, 10], false⟩ : Tok).here, .bool (⟨1, [69], 6, [120, 10], false⟩ : Tok).raw] := hR37
         refine w_yes 44 69 true <| st_indexAddr T.u23 T.size28 (congrArg (fun z => Value.slice z _ _) hA35) rfl (by decide) (by decide) <| w_yes 44 69 true <| st_fieldAddr T.fld28_4 rfl <| w_yes 44 69 true <| st_load1 (v := .bool _) T.one4 rfl (hC36.at (j := 4) rfl) <| w_yes 44 69 true <| st_not rfl <| pT rfl rfl <| mB rfl <| w_split (d := 76) rfl (fun g40 => ?_) (fun g40 => ?_)
         ·try simp only [nm, ne_eq] at g40
          refine w_yes 51 76 true <| st_move (v := .int _ _) rfl <| w_yes 51 76 true <| st_eql rfl rfl <| pT rfl rfl <| mB rfl <| w_split (d := 80) rfl (fun g41 => ?_) (fun g41 => ?_)
          ·try simp only [nm, ne_eq] at g41
           refine w_yes 55 80 true <| st_move (v := .int _ _) rfl <| w_yes 55 80 true <| st_eql rfl rfl <| pT rfl rfl <| aB rfl <| en <| x_ret <| ret_tmp (v := .bool _) rfl rfl ?_
           exact ⟨rfl, HC⟩
          ·try simp only [nm, ne_eq] at g41
           first | exact absurd rfl g41 | exact absurd trivial g41 | (simp at g41; done) | exact absurd g41 (by decide) | exact absurd (by assumption) g41
         ·try simp only [nm, ne_eq] at g40
          first | exact absurd rfl g40 | exact absurd trivial g40 | (simp at g40; done) | exact absurd g40 (by decide) | exact absurd (by assumption) g40
        ·try simp only [nm, ne_eq] at g34
         first | exact absurd rfl g34 | exact absurd trivial g34 | (simp at g34; done) | exact absurd g34 (by decide) | exact absurd (by assumption) g34
       ·try simp only [nm, ne_eq] at g28
        first | exact absurd rfl g28 | exact absurd trivial g28 | (simp at g28; done) | exact absurd g28 (by decide) | exact absurd (by assumption) g28
      ·try simp only [nm, ne_eq] at g22
       first | exact absurd rfl g22 | exact absurd trivial g22 | (simp at g22; done) | exact absurd g22 (by decide) | exact absurd (by assumption) g22
     ·try simp only [nm, ne_eq] at g21
      first | exact absurd rfl g21 | exact absurd trivial g21 | (simp at g21; done) | exact absurd g21 (by decide) | exact absurd (by assumption) g21
    ·try simp only [nm, ne_eq] at g20
     first | exact absurd rfl g20 | exact absurd trivial g20 | (simp at g20; done) | exact absurd g20 (by decide) | exact absurd (by assumption) g20
   ·try simp only [nm, ne_eq] at g14
    first | exact absurd rfl g14 | exact absurd trivial g14 | (simp at g14; done) | exact absurd g14 (by decide) | exact absurd (by assumption) g14
  ·try simp only [nm, ne_eq] at g8
   first | exact absurd rfl g8 | exact absurd trivial g8 | (simp at g8; done) | exact absurd g8 (by decide) | exact absurd (by assumption) g8
 ·try simp only [nm, ne_eq] at g7
  first | exact absurd rfl g7 | exact absurd trivial g7 | (simp at g7; done) | exact absurd g7 (by decide) | exact absurd (by assumption) g7

end Go.Proofs.YthggegbljpmecaaDoor.K
set_option linter.unusedVariables false
set_option linter.unusedSimpArgs false
set_option autoImplicit false
set_option maxRecDepth 20000
namespace Go.Proofs.YthggegbljpmecaaDoor.K
open Go Go.RowKit

theorem run_quote' : ∀ (s t : Bytes), (∀ c, c ∈ s → c ≠ 39) → runL 39 false (s ++ 39 :: t) = some (s.length + 1)
  | [], t, _ => by cases t <;> simp [runL]
  | c :: u, t, h => by
    have h1 := run_quote' u t fun c hc => h c (by simp [hc])
    have h2 : c ≠ 39 := h c (by simp)
    obtain ⟨d, v, h3⟩ : ∃ d v, u ++ 39 :: t = d :: v := by cases u <;> simp
    rw [List.cons_append, h3]
    rw [h3] at h1
    simp only [runL, if_neg h2, Bool.false_and, Bool.false_eq_true, if_false, h1]
    simp
theorem skip_quote' {s t : Bytes} (h : ∀ c, c ∈ s → c ≠ 39) : skipL 64 (39 :: (s ++ 39 :: t)) = .ok (s.length + 2) := by
  rw [skipL_cons, if_neg (by decide), if_pos rfl, run_quote' s t h]; rfl
def quoW (s : Bytes) : Bytes := 39 :: (s ++ [39])
theorem quoW_len (s : Bytes) : (quoW s).length = s.length + 2 := by simp [quoW]
theorem plain_quote {s : Bytes} (h : ∀ c, c ∈ s → c ≠ 39) : plainV (quoW s) = (s, true) := by
  have hk : skipL 64 (quoW s) = .ok (s.length + 2) := skip_quote' h
  have hb : byte (quoW s) 0 = 39 := rfl
  have hp : partW (quoW s) (s.length + 2) = s := by
    rw [partW, if_pos hb, show s.length + 2 - 1 = s.length + 1 from rfl]
    show ((39 :: (s ++ [39])).take (s.length + 1)).drop 1 = s
    simp
  have hd : (quoW s).drop (s.length + 2) = [] := List.drop_eq_nil_of_le (by rw [quoW_len]; exact Nat.le_refl _)
  rw [plainV, quoW_len, plainF, if_neg (by simp [quoW]), hk]
  simp only []
  rw [hp, hd, hb]
  cases hl : s.length + 1 <;> simp [plainF, quoB]
theorem tokens_quote {s : Bytes} (h : ∀ c, c ∈ s → c ≠ 39) (hs : s.length ≤ 3000) : tokensV (quoW s) = ([⟨1, quoW s, 0, [], false⟩, ⟨0, [], ((s.length + 2 : Nat) : Int), [], false⟩], 0, 0) := by
  have hk : skipL 64 (quoW s) = .ok (s.length + 2) := skip_quote' h
  have hb : byte (quoW s) 0 = 39 := rfl
  have hbl : blankV (quoW s) = 0 := by
    show blankL (quoW s).length (quoW s) = 0
    rw [quoW_len, quoW, blankL, if_neg (by decide), if_neg (by rw [hasP_cons]; simp), if_neg (by decide)]
  have hd : (quoW s).drop (s.length + 2) = [] := List.drop_eq_nil_of_le (by rw [quoW_len]; exact Nat.le_refl _)
  have hw : wordV (quoW s) = (s.length + 2, 0) := by
    have hm : metaB 39 = false := by decide
    have : wordL (s.length + 1 + 1) (39 :: (s ++ [39])) = (s.length + 2, 0) := by
      rw [wordL, if_neg (by rw [hm]; simp), show skipL 64 (39 :: (s ++ [39])) = .ok (s.length + 2) from hk]
      simp only []
      rw [show (39 :: (s ++ [39])).drop (s.length + 2) = [] from hd]
      simp [wordL]
    rw [wordV, quoW_len]; exact this
  have hn : nextT (quoW s) (0 + (0 : Nat)) = (⟨1, quoW s, 0, [], false⟩, s.length + 2, 0) := by
    unfold nextT
    rw [if_neg (by simp [quoW]), hb, if_neg (by decide), if_neg (by decide), hw]
    rw [if_neg (by simp)]
    simp only []
    rw [if_neg (by rintro ⟨h9, _⟩; omega), List.take_of_length_le (by rw [quoW_len]; exact Nat.le_refl _)]
    rfl
  rw [tokensV, if_neg (by rw [quoW_len]; omega), quoW_len]
  rw [show s.length + 2 + 1 = (s.length + 2) + 1 from rfl, scanF]
  simp only [hbl, List.drop_zero, hn]
  rw [if_neg (by simp), if_neg (by simp), if_neg (by simp), hd, scanF]
  have hb0 : blankV [] = 0 := rfl
  have hn0 : ∀ i : Int, nextT [] i = (⟨0, [], i, [], false⟩, 0, 0) := fun i => rfl
  simp only [hb0, List.drop_nil, hn0]
  rw [if_neg (by simp), if_pos trivial]
  have h1 : ∀ z : Tok, pushW [] [] z = [] := fun z => rfl
  have h2 : pushW [⟨1, quoW s, 0, [], false⟩] [] ⟨0, [], 0 + ((0 : Nat) : Int) + ((s.length + 2 : Nat) : Int) + ((0 : Nat) : Int), [], false⟩ = [] := by
    unfold pushW hereV; simp
  simp only [List.nil_append, h1, h2, linesV]
  simp
end Go.Proofs.YthggegbljpmecaaDoor.K
set_option linter.unusedVariables false
set_option linter.unusedSimpArgs false
set_option autoImplicit false
set_option maxRecDepth 20000
namespace Go.Proofs.YthggegbljpmecaaDoor.K
open Go Go.Proofs Go.RowKit

theorem TokenQuotes_spec (s : Bytes) (w : World) (hs : s.length ≤ 140737488351232) (hmx : MaxT w) (ht : Tab w) : CallR Tryd.prog 4 #[S s] w fun v w' => v = .bool true ∧ Chg [] w w' := by
 refine callR_of_wp (args := [_]) Tryd.func4 rfl (Nat.le_of_ble_eq_true rfl) ?_
 have HC : Chg [] w w := .refl _
 have ht1 := ht.lt
 have hm1 := hmx.lt
 refine sr rfl <| aB rfl <| en <| x_seq <| sr rfl <| mS rfl <| Wp rfl <| st_slen (ct := #[9]) T.u9 rfl <| Wp rfl <| st_gtr rfl rfl <| en <| x_cond rfl (fun h0 => ?_) (fun h0 => ?_)
 ·try simp only [nm, ne_eq] at h0
  refine sr rfl <| Wp rfl <| st_call (ags := []) rfl rfl T.ent8 rfl (awake15_spec _ hmx ht) ?_
  rintro _ w1 ⟨rfl, c2⟩
  replace HC := HC.then c2
  replace ht := ht.tr0 c2
  replace hmx := hmx.tr0 c2
  refine aB rfl <| en <| x_ret <| then_r <| ret_tmp (v := .bool _) rfl rfl ?_
  exact ⟨rfl, HC⟩
 ·try simp only [nm, ne_eq] at h0
  have hl3 : s.length ≤ 3000 := by first | omega | simp_all
  refine x_skip <| then_n <| x_seq <| sr rfl <| aI rfl <| en <| x_block <| x_loop (ι := Nat) [2, 3, 14, 15, 16, 17, 18, 19, 20, 21, 22, 23, 24] (fun i => [(3, .int .i64 (i : Int))]) (fun i W => (i ≤ s.length ∧ ∀ j, j < i → byte s j ≠ 39) ∧ (Chg [] w W) ∧ (Tab W) ∧ (MaxT W)) (fun i => s.length - i) 0 ?_ ?_ ?_
  · exact ⟨rfl, trivial⟩
  ·refine ⟨?_, HC, ht, hmx⟩
   exact ⟨Nat.zero_le _, fun j h => absurd h (Nat.not_lt_zero j)⟩
  intro i G4 w3 ⟨⟨hi, hq⟩, HC, ht, hmx⟩
  change wp _ _ _ _ _ (upds (over _ _ G4) [(3, .int .i64 (i : Int))]) _ _
  refine x_seq <| sr rfl <| mI rfl <| mS rfl <| Wp rfl <| st_slen (ct := #[9]) T.u9 rfl <| Wp rfl <| st_lss rfl rfl <| en <| x_cond rfl (fun h1 => ?_) (fun h1 => ?_)
  ·try simp only [nm, ne_eq] at h1
   refine x_skip <| then_n <| x_seq <| x_block <| sr rfl <| mS rfl <| mI rfl <| Wp rfl <| st_sidx T.u9 rfl rfl (by omega) (by omega) <| Wp rfl <| st_eql rfl rfl <| en <| x_cond rfl (fun h2 => ?_) (fun h2 => ?_)
   ·try simp only [nm, ne_eq] at h2
    refine sr rfl <| Wp rfl <| st_call (ags := []) rfl rfl T.ent8 rfl (awake15_spec _ hmx ht) ?_
    rintro _ w5 ⟨rfl, c6⟩
    replace HC := HC.then c6
    replace ht := ht.tr0 c6
    replace hmx := hmx.tr0 c6
    refine aB rfl <| en <| x_ret <| block_r <| then_r <| then_r <| block_r <| then_r <| ret_tmp (v := .bool _) rfl rfl ?_
    exact ⟨rfl, HC⟩
   ·try simp only [nm, ne_eq] at h2
    have hn39 : byte s i ≠ 39 := fun e => h2 (by rw [e]; rfl)
    refine x_skip <| block_n <| then_n <| x_region rfl <| mI rfl <| Wp rfl <| st_addn rfl rfl (by constructor <;> omega) <| aI rfl <| en <| ⟨i + 1, ?_, ?_, rfl, ⟨rfl, trivial⟩, ?_⟩
    ·refine ⟨?_, HC, ht, hmx⟩
     exact ⟨by omega, fun j hj => (Nat.lt_succ_iff_lt_or_eq.1 hj).elim (hq j) (fun e => by rw [e]; exact hn39)⟩
    ·show s.length - (i + 1) < s.length - i; omega
    repeat (first | exact agree_upds agree_over rfl | refine agree_upd ?_ rfl | refine agree_upds ?_ rfl | refine agree_over_sub ?_ rfl)
  ·try simp only [nm, ne_eq] at h1
   have hie : i = s.length := by omega
   have hqa : ∀ c, c ∈ s → c ≠ 39 := fun c hc => by obtain ⟨j, hj, rfl⟩ := List.getElem_of_mem hc; have h9 := hq j (by omega); simpa [byte, List.getD_eq_getElem?_getD, hj] using h9
   refine x_exit <| then_x <| then_x <| block_x <| then_n <| sr rfl <| mS rfl <| Wp rfl <| st_sadd rfl rfl (by (simp only [List.length_cons, List.length_nil]; omega)) <| Wp rfl <| st_sadd rfl rfl (by (simp only [List.length_append, List.length_cons, List.length_nil]; omega)) <| aS rfl <| en <| sr rfl <| mS rfl <| Wp rfl <| st_call (ags := [_]) rfl rfl T.ent9 rfl (Tokens_spec (quoW s) _ (by rw [quoW_len]; omega) hmx ht) ?_
   have sz1_hs0 := HC.size
   rintro _ w7 ⟨A0, cap0, rfl, hchs0, hs0, c8⟩
   rw [tokens_quote hqa hl3] at hs0 ⊢
   replace HC := HC.then c8
   replace ht := ht.tr0 c8
   replace hmx := hmx.tr0 c8
   refine mv (v := .tuple ⟨[_, _, _]⟩) rfl <| Wp rfl <| st_extract (vs := [_, _, _]) (v := .slice _ _ _) rfl rfl <| Wp rfl <| st_extract (vs := [_, _, _]) (v := .int _ _) rfl rfl <| Wp rfl <| st_extract (vs := [_, _, _]) (v := .int _ _) rfl rfl <| aL rfl <| aI rfl <| aI rfl <| en <| sr rfl <| mS rfl <| Wp rfl <| st_call (ags := [_]) rfl rfl T.ent10 rfl (Plain_spec (quoW s) _ (by rw [quoW_len]; omega)) ?_
   rintro _ w9 ⟨rfl, c10⟩
   replace HC := HC.then c10
   replace ht := ht.tr0 c10
   replace hmx := hmx.tr0 c10
   replace hs0 := hs0.tr0 c10
   rw [plain_quote hqa]
   refine mv (v := .tuple ⟨[_, _]⟩) rfl <| Wp rfl <| st_extract (vs := [_, _]) (v := S _) rfl rfl <| Wp rfl <| st_extract (vs := [_, _]) (v := .bool _) rfl rfl <| aS rfl <| aB rfl <| en <| sr rfl <| mI rfl <| Wp rfl <| st_eql rfl rfl <| mB rfl <| w_split (d := 41) rfl (fun g11 => ?_) (fun g11 => ?_)
   ·try simp only [nm, ne_eq] at g11
    refine w_yes 2 41 true <| st_move (v := .slice _ _ _) rfl <| w_yes 2 41 true <| st_len (ct := #[23]) (by rw [show ((#[23] : Array TypeId)[0]?).bind Tryd.prog.underlying = some (.slice 28) from T.u23]; rfl) rfl <| w_yes 2 41 true <| st_eql rfl rfl <| pT rfl rfl <| mB rfl <| w_split (d := 46) rfl (fun g12 => ?_) (fun g12 => ?_)
    ·try simp only [nm, ne_eq] at g12
     refine w_yes 7 46 true <| st_move (v := .slice _ _ _) rfl ?_
     obtain ⟨lb17, _, vs16, hA13, hR15, hC14⟩ := hs0.at (i := 0) (x := (⟨1, quoW s, 0, [], false⟩ : Tok)) (rfl)
     obtain rfl : vs16 = [.int .i64 (⟨1, quoW s, 0, [], false⟩ : Tok).kind, S (⟨1, quoW s, 0, [], false⟩ : Tok).text, .int .i64 (⟨1, quoW s, 0, [], false⟩ : Tok).at_, S (⟨1, quoW s, 0, [], false⟩ : Tok).here, .bool (⟨1, quoW s, 0, [], false⟩ : Tok).raw] := hR15
     refine w_yes 7 46 true <| st_indexAddr T.u23 T.size28 (congrArg (fun z => Value.slice z _ _) hA13) rfl (by decide) (by (show (0 : Int) < ((2 : Nat) : Int); decide)) <| w_yes 7 46 true <| st_loadA (vs := [_, _, _, _, _]) T.agg28 rfl hC14 rfl <| w_yes 7 46 true <| st_move (v := S _) rfl <| w_yes 7 46 true <| st_bld (ps := [(0, .const (.int .i64 1)), (1, .tmp 50)]) (vs := [.int _ _, S _, .int _ _, S _, .bool _]) T.bld28 rfl <| w_yes 7 46 true <| st_aeql T.eq28 rfl rfl rfl <| pT rfl rfl <| mB rfl <| w_split (d := 54) rfl (fun g18 => ?_) (fun g18 => ?_)
     ·try simp only [nm, ne_eq] at g18
      refine w_yes 15 54 true <| st_move (v := S _) rfl <| w_yes 15 54 true <| st_move (v := S _) rfl <| w_yes 15 54 true <| st_seql rfl rfl <| pT rfl rfl <| mB rfl <| w_split (d := 59) rfl (fun g19 => ?_) (fun g19 => ?_)
      ·try simp only [nm, ne_eq] at g19
       refine w_yes 20 59 true <| st_move (v := .bool _) rfl <| pT rfl rfl <| mB rfl <| w_split (d := 62) rfl (fun g20 => ?_) (fun g20 => ?_)
       ·try simp only [nm, ne_eq] at g20
        refine w_yes 23 62 true <| st_call (ags := []) rfl rfl T.ent8 rfl (awake15_spec _ hmx ht) ?_
        rintro _ w21 ⟨rfl, c22⟩
        replace HC := HC.then c22
        replace ht := ht.tr0 c22
        replace hmx := hmx.tr0 c22
        replace hs0 := hs0.tr0 c22
        refine pT rfl rfl <| aB rfl <| en <| x_ret <| ret_tmp (v := .bool _) rfl rfl ?_
        exact ⟨rfl, HC⟩
       ·try simp only [nm, ne_eq] at g20
        first | exact absurd rfl g20 | exact absurd trivial g20 | (simp at g20; done) | exact absurd g20 (by decide) | exact absurd (by assumption) g20
      ·try simp only [nm, ne_eq] at g19
       first | exact absurd rfl g19 | exact absurd trivial g19 | (simp at g19; done) | exact absurd g19 (by decide) | exact absurd (by assumption) g19
     ·try simp only [nm, ne_eq] at g18
      exfalso; rw [show [39] ++ s ++ [39] = quoW s from rfl] at g18; simp at g18
    ·try simp only [nm, ne_eq] at g12
     first | exact absurd rfl g12 | exact absurd trivial g12 | (simp at g12; done) | exact absurd g12 (by decide) | exact absurd (by assumption) g12
   ·try simp only [nm, ne_eq] at g11
    first | exact absurd rfl g11 | exact absurd trivial g11 | (simp at g11; done) | exact absurd g11 (by decide) | exact absurd (by assumption) g11

end Go.Proofs.YthggegbljpmecaaDoor.K
