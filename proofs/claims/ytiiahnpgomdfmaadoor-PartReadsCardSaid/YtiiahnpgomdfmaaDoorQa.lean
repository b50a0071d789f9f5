/- The document's skip. -/
import Derived.Test.YtiiahnpgomdfmaaDoorPj
set_option linter.unusedVariables false
set_option linter.unusedSimpArgs false
set_option autoImplicit false
set_option maxRecDepth 20000
namespace Go.Proofs.YtiiahnpgomdfmaaDoor.K
open Go Go.Proofs Go.RowKit

def pairE : Except Nat Nat → Int × Int
  | .ok k => (k, 0)
  | .error e => (0, e)
theorem pairE_ne {e : Except Nat Nat} (h : (pairE e).2 ≠ 0) : ∃ x : Nat, e = .error x ∧ x ≠ 0 := by
  cases e with
  | ok k => exact absurd rfl h
  | error x => exact ⟨x, rfl, fun e => h (by rw [e]; rfl)⟩
theorem two_yes {s : Bytes} {j : Nat} {c d : UInt8} (hj : j + 1 < s.length) (h1 : byte s j = c) (h2 : byte s (j + 1) = d) : Lib.hasPrefix (s.drop j) [c, d] = true := by
  cases h : Lib.hasPrefix (s.drop j) [c, d] with
  | true => rfl
  | false => exact absurd ⟨h1, h2⟩ (two_no h hj)

theorem r15_special (c : UInt8) (w : World) : CallR Tryd.prog 106 #[.int .u8 (c.toNat : Int)] w fun v w' => v = .bool (begQ c) ∧ Chg [] w w' := by
 refine callR_of_wp (args := [_]) Tryd.func106 rfl (Nat.le_of_ble_eq_true rfl) ?_
 have HC : Chg [] w w := .refl _
 refine sr rfl <| aB rfl <| en <| sr rfl <| mI rfl <| Wp rfl <| st_eql rfl rfl <| mB rfl <| w_split (d := 5) rfl (fun g1 => ?_) (fun g1 => ?_)
 ·try simp only [nm, ne_eq] at g1
  refine w_no 2 5 false <| w_no 2 5 false <| pT rfl rfl <| mB rfl <| w_no 6 9 false <| w_no 6 9 false <| pT rfl rfl <| aB rfl <| en <| x_ret <| ret_tmp (v := .bool _) rfl rfl <| ⟨congrArg Value.bool ?_, HC⟩
  rw [Bool.eq_iff_iff]; simp only [begQ, Bool.or_eq_true, beq_iff_eq, ← UInt8.toNat_inj]
  have hc := c.toNat_lt
  simp only [show (92 : UInt8).toNat = 92 from rfl, show (36 : UInt8).toNat = 36 from rfl, show (96 : UInt8).toNat = 96 from rfl]
  (try simp only [decide_eq_true_eq, true_iff, Bool.false_eq_true, false_iff] at *)
  omega
 ·try simp only [nm, ne_eq] at g1
  refine w_yes 2 5 false <| st_move (v := .int _ _) rfl <| w_yes 2 5 false <| st_eql rfl rfl <| pF rfl rfl <| mB rfl <| w_split (d := 9) rfl (fun g2 => ?_) (fun g2 => ?_)
  ·try simp only [nm, ne_eq] at g2
   refine w_no 6 9 false <| w_no 6 9 false <| pT rfl rfl <| aB rfl <| en <| x_ret <| ret_tmp (v := .bool _) rfl rfl <| ⟨congrArg Value.bool ?_, HC⟩
   rw [Bool.eq_iff_iff]; simp only [begQ, Bool.or_eq_true, beq_iff_eq, ← UInt8.toNat_inj]
   have hc := c.toNat_lt
   simp only [show (92 : UInt8).toNat = 92 from rfl, show (36 : UInt8).toNat = 36 from rfl, show (96 : UInt8).toNat = 96 from rfl]
   (try simp only [decide_eq_true_eq, true_iff, Bool.false_eq_true, false_iff] at *)
   omega
  ·try simp only [nm, ne_eq] at g2
   refine w_yes 6 9 false <| st_move (v := .int _ _) rfl <| w_yes 6 9 false <| st_eql rfl rfl <| pF rfl rfl <| aB rfl <| en <| x_ret <| ret_tmp (v := .bool _) rfl rfl <| ⟨congrArg Value.bool ?_, HC⟩
   rw [Bool.eq_iff_iff]; simp only [begQ, Bool.or_eq_true, beq_iff_eq, ← UInt8.toNat_inj]
   have hc := c.toNat_lt
   simp only [show (92 : UInt8).toNat = 92 from rfl, show (36 : UInt8).toNat = 36 from rfl, show (96 : UInt8).toNat = 96 from rfl]
   (try simp only [decide_eq_true_eq, true_iff, Bool.false_eq_true, false_iff] at *)
   omega

theorem direct_spec (s : Bytes) (i : Nat) (m : UInt8) (esc : Bool) (w : World) (hs : s.length < 4294967281) (hi : i ≤ s.length) : CallR Tryd.prog 90 #[S s, .int .i64 (i : Int), .int .u8 (m.toNat : Int), .bool esc] w fun v w' => v = .tuple ⟨[.int .i64 (pairE (orSyn (runA m esc s i))).1, .int .i64 (pairE (orSyn (runA m esc s i))).2]⟩ ∧ Chg [] w w' := by
 refine callR_of_wp (args := [_, _, _, _]) Tryd.func90 rfl (Nat.le_of_ble_eq_true rfl) ?_
 have HC : Chg [] w w := .refl _
 refine sr rfl <| aI rfl <| aI rfl <| en <| x_seq <| x_block <| x_loop (ι := Nat) [1, 8, 9, 10, 11, 12, 13, 14, 15, 16, 17, 18, 19, 20, 21, 22, 23, 24, 25, 26, 27, 28, 29, 30, 31] (fun j => [(1, .int .i64 (j : Int))]) (fun j W => (j ≤ s.length + 1 ∧ runA m esc s i = runA m esc s j) ∧ (Chg [] w W)) (fun j => s.length + 2 - j) i ?_ ?_ ?_
 · exact ⟨rfl, trivial⟩
 ·refine ⟨?_, HC⟩
  exact ⟨by omega, rfl⟩
 intro j G2 w1 ⟨⟨hj, hr⟩, HC⟩
 change wp _ _ _ _ _ (upds (over _ _ G2) [(1, .int .i64 (j : Int))]) _ _
 refine x_seq <| sr rfl <| mI rfl <| mS rfl <| Wp rfl <| st_slen (ct := #[9]) T.u9 rfl <| Wp rfl <| st_lss rfl rfl <| en <| x_cond rfl (fun h0 => ?_) (fun h0 => ?_)
 ·try simp only [nm, ne_eq] at h0
  refine x_skip <| then_n <| x_block <| x_seq <| sr rfl <| mS rfl <| mI rfl <| Wp rfl <| st_sidx T.u9 rfl rfl (by omega) (by omega) <| mI rfl <| Wp rfl <| st_eql rfl rfl <| en <| x_cond rfl (fun h1 => ?_) (fun h1 => ?_)
  ·try simp only [nm, ne_eq] at h1
   have hbm : byte s j = m := UInt8.toNat_inj.1 (by omega)
   refine sr rfl <| mI rfl <| Wp rfl <| st_addn rfl rfl (by constructor <;> omega) <| aI rfl <| aI rfl <| en <| x_ret <| then_r <| block_r <| then_r <| block_r <| then_r <| ret_tmp2 (v := .int _ _) (v2 := .int _ _) rfl rfl rfl ?_
   rw [hr, runA_at (by omega) hbm]
   exact ⟨rfl, HC⟩
  ·try simp only [nm, ne_eq] at h1
   have hbn : byte s j ≠ m := fun e => h1 (by rw [e])
   refine x_skip <| then_n <| x_seq <| sr rfl <| mB rfl <| mB rfl <| w_split (d := 22) rfl (fun g3 => ?_) (fun g3 => ?_)
   ·try simp only [nm, ne_eq] at g3
    refine w_yes 1 22 true <| st_move (v := S _) rfl <| w_yes 1 22 true <| st_move (v := .int _ _) rfl <| w_yes 1 22 true <| st_sidx T.u9 rfl rfl (by omega) (by omega) <| w_yes 1 22 true <| st_eql rfl rfl <| pT rfl rfl <| en <| x_cond rfl (fun h2 => ?_) (fun h2 => ?_)
    ·try simp only [nm, ne_eq] at h2
     have hb92 : byte s j = 92 := UInt8.toNat_inj.1 (by show _ = 92; omega)
     refine x_region rfl <| mI rfl <| Wp rfl <| st_addn rfl rfl (by constructor <;> omega) <| aI rfl <| en <| x_region rfl <| mI rfl <| Wp rfl <| st_addn rfl rfl (by constructor <;> omega) <| aI rfl <| wops_nil <| block_n <| then_n <| ⟨j + 2, ?_, ?_, rfl, ⟨rfl, trivial⟩, ?_⟩
     ·refine ⟨?_, HC⟩
      exact ⟨by omega, by rw [hr]; exact (by rw [show esc = true by assumption]; exact runA_esc (by omega) hbn hb92)⟩
     ·show s.length + 2 - (j + 2) < s.length + 2 - j; omega
     repeat (first | exact agree_upds agree_over rfl | refine agree_upd ?_ rfl | refine agree_upds ?_ rfl | refine agree_over_sub ?_ rfl)
    ·try simp only [nm, ne_eq] at h2
     have hb93 : esc = true → byte s j ≠ 92 := fun he e => by first | (rw [e] at h2; exact h2 rfl) | simp_all
     refine x_skip <| then_n <| x_region rfl <| mI rfl <| Wp rfl <| st_addn rfl rfl (by constructor <;> omega) <| aI rfl <| wops_nil <| block_n <| then_n <| ⟨j + 1, ?_, ?_, rfl, ⟨rfl, trivial⟩, ?_⟩
     ·refine ⟨?_, HC⟩
      exact ⟨by omega, by rw [hr]; exact runA_on (by omega) hbn hb93⟩
     ·show s.length + 2 - (j + 1) < s.length + 2 - j; omega
     repeat (first | exact agree_upds agree_over rfl | refine agree_upd ?_ rfl | refine agree_upds ?_ rfl | refine agree_over_sub ?_ rfl)
   ·try simp only [nm, ne_eq] at g3
    iterate 4 refine w_no 1 22 true ?_
    refine pF rfl rfl <| en <| x_cond (t := false) rfl (fun h2 => ?_) (fun h2 => ?_)
    · exact absurd h2 (by decide)
    have hb93 : esc = true → byte s j ≠ 92 := fun he e => by first | (rw [e] at h2; exact h2 rfl) | simp_all
    refine x_skip <| then_n <| x_region rfl <| mI rfl <| Wp rfl <| st_addn rfl rfl (by constructor <;> omega) <| aI rfl <| wops_nil <| block_n <| then_n <| ⟨j + 1, ?_, ?_, rfl, ⟨rfl, trivial⟩, ?_⟩
    ·refine ⟨?_, HC⟩
     exact ⟨by omega, by rw [hr]; exact runA_on (by omega) hbn hb93⟩
    ·show s.length + 2 - (j + 1) < s.length + 2 - j; omega
    repeat (first | exact agree_upds agree_over rfl | refine agree_upd ?_ rfl | refine agree_upds ?_ rfl | refine agree_over_sub ?_ rfl)
 ·try simp only [nm, ne_eq] at h0
  refine x_exit <| then_x <| then_x <| block_x <| then_n <| sr rfl <| aI rfl <| aI rfl <| en <| x_ret <| ret_tmp2 (v := .int _ _) (v2 := .int _ _) rfl rfl rfl ?_
  rw [hr, runA_end (by omega)]
  exact ⟨rfl, HC⟩

theorem skipA_ne0 {fk : Nat} {s : Bytes} {j x : Nat} (h : skipA fk s j = .error x) : x ≠ 0 := skipL_err _ _ _ (except_map_err h)

theorem double_spec {fk : Nat} {d : Int} (s : Bytes) (i n : Nat) (w : World) (hs : s.length < 4294967281) (hd : 0 ≤ d ∧ d ≤ 100) (hsk : ∀ (j : Nat) (W : World), j < s.length → CallR Tryd.prog 65 #[S s, .int .i64 (j : Int), .int .i64 (d + 1)] W fun v W' => v = .tuple ⟨[.int .i64 (pairE (skipA fk s j)).1, .int .i64 (pairE (skipA fk s j)).2]⟩ ∧ Chg [] W W') (hi : i ≤ s.length) (hn : s.length - i ≤ n) : CallR Tryd.prog 91 #[S s, .int .i64 (i : Int), .int .i64 d] w fun v w' => v = .tuple ⟨[.int .i64 (pairE (untilA fk begQ (finM 34) n () s i)).1, .int .i64 (pairE (untilA fk begQ (finM 34) n () s i)).2]⟩ ∧ Chg [] w w' := by
 refine callR_of_wp (args := [_, _, _]) Tryd.func91 rfl (Nat.le_of_ble_eq_true rfl) ?_
 have HC : Chg [] w w := .refl _
 refine sr rfl <| aI rfl <| aI rfl <| en <| x_seq <| x_block <| x_loop (ι := Nat × Nat) [1, 6, 7, 8, 9, 10, 11, 12, 13, 14, 15, 16, 17, 18, 19, 20, 21, 22, 23, 24, 25, 26, 27, 28, 29, 30, 31, 32, 33, 34, 35, 36, 37, 38] (fun ⟨j, m⟩ => [(1, .int .i64 (j : Int))]) (fun ⟨j, m⟩ W => (j ≤ s.length ∧ s.length - j ≤ m ∧ untilA fk begQ (finM 34) n () s i = untilA fk begQ (finM 34) m () s j) ∧ (Chg [] w W)) (fun ⟨j, m⟩ => s.length - j) (i, n) ?_ ?_ ?_
 · exact ⟨rfl, trivial⟩
 ·refine ⟨?_, HC⟩
  exact ⟨hi, hn, rfl⟩
 intro ⟨j, m⟩ G2 w1 ⟨⟨hj, hm, hr⟩, HC⟩
 change wp _ _ _ _ _ (upds (over _ _ G2) [(1, .int .i64 (j : Int))]) _ _
 refine x_seq <| sr rfl <| mI rfl <| mS rfl <| Wp rfl <| st_slen (ct := #[9]) T.u9 rfl <| Wp rfl <| st_lss rfl rfl <| mB rfl <| w_split (d := 14) rfl (fun g3 => ?_) (fun g3 => ?_)
 ·try simp only [nm, ne_eq] at g3
  refine w_yes 4 14 true <| st_move (v := S _) rfl <| w_yes 4 14 true <| st_move (v := .int _ _) rfl <| w_yes 4 14 true <| st_sidx T.u9 rfl rfl (by omega) (by omega) <| w_yes 4 14 true <| st_neq rfl rfl <| pT rfl rfl <| en <| x_cond rfl (fun h0 => ?_) (fun h0 => ?_)
  ·try simp only [nm, ne_eq] at h0
   obtain ⟨m, rfl⟩ : ∃ m', m = m' + 1 := ⟨m - 1, by omega⟩
   have hfn : (finM 34 () (byte s j)).1 = false := by simp only [finM, beq_eq_false_iff_ne]; intro e; first | (rename_i h9; exact h9 (by rw [e]; rfl)) | simp_all
   refine x_skip <| then_n <| x_block <| x_seq <| sr rfl <| mS rfl <| mI rfl <| Wp rfl <| st_sidx T.u9 rfl rfl (by omega) (by omega) <| Wp rfl <| st_call (ags := [_]) rfl rfl T.ent106 rfl (r15_special (byte s j) _) ?_
   rintro _ w4 ⟨rfl, c5⟩
   replace HC := HC.then c5
   refine Wp rfl <| st_not rfl <| en <| x_cond rfl (fun h1 => ?_) (fun h1 => ?_)
   ·try simp only [nm, ne_eq] at h1
    refine sr rfl <| mI rfl <| Wp rfl <| st_addn rfl rfl (by constructor <;> omega) <| aI rfl <| en <| x_exit <| then_x <| block_x <| then_n <| ⟨((j + 1), m), ?_, ?_, rfl, ⟨rfl, trivial⟩, ?_⟩
    ·refine ⟨?_, HC⟩
     exact ⟨by omega, by omega, by rw [hr]; exact untilA_on (by omega) hfn (by first | assumption | simp_all)⟩
    ·show s.length - (j + 1) < s.length - j; omega
    repeat (first | exact agree_upds agree_over rfl | refine agree_upd ?_ rfl | refine agree_upds ?_ rfl | refine agree_over_sub ?_ rfl)
   ·try simp only [nm, ne_eq] at h1
    have hbg : begQ (byte s j) = true := by first | assumption | simp_all
    refine x_skip <| then_n <| sr rfl <| mS rfl <| mI rfl <| mI rfl <| Wp rfl <| st_addn rfl rfl (by constructor <;> omega) <| Wp rfl <| st_call (ags := [_, _, _]) rfl rfl T.ent65 rfl (hsk j _ (by omega)) ?_
    rintro _ w6 ⟨rfl, c7⟩
    replace HC := HC.then c7
    refine mv (v := .tuple ⟨[_, _]⟩) rfl <| Wp rfl <| st_extract (vs := [_, _]) (v := .int _ _) rfl rfl <| Wp rfl <| st_extract (vs := [_, _]) (v := .int _ _) rfl rfl <| aI rfl <| aI rfl <| en <| x_seq <| sr rfl <| mI rfl <| Wp rfl <| st_neq rfl rfl <| en <| x_cond rfl (fun h2 => ?_) (fun h2 => ?_)
    ·try simp only [nm, ne_eq] at h2
     obtain ⟨x, hke, hx0⟩ := pairE_ne (by assumption)
     refine sr rfl <| mI rfl <| aI rfl <| aI rfl <| en <| x_ret <| then_r <| block_r <| then_r <| block_r <| then_r <| ret_tmp2 (v := .int _ _) (v2 := .int _ _) rfl rfl rfl ?_
     rw [hr, untilA_err (by omega) hfn hbg hke]
     rw [hke]
     exact ⟨rfl, HC⟩
    ·try simp only [nm, ne_eq] at h2
     obtain ⟨k, hk⟩ : ∃ k, skipA fk s j = .ok k := by cases hz : skipA fk s j with | ok k => exact ⟨k, rfl⟩ | error x => exact absurd (show (pairE (skipA fk s j)).2 = 0 by first | assumption | simp_all) (by rw [hz]; exact Int.natCast_ne_zero.2 (skipA_ne0 hz))
     have hkb := skipA_le (by omega) hk
     rw [hk]
     refine x_skip <| then_n <| x_region rfl <| mI rfl <| aI rfl <| wops_nil <| block_n <| then_n <| ⟨(k, m), ?_, ?_, rfl, ⟨rfl, trivial⟩, ?_⟩
     ·refine ⟨?_, HC⟩
      exact ⟨hkb.2, by omega, by rw [hr]; exact untilA_sk (by omega) hfn hbg hk⟩
     ·show s.length - k < s.length - j; omega
     repeat (first | exact agree_upds agree_over rfl | refine agree_upd ?_ rfl | refine agree_upds ?_ rfl | refine agree_over_sub ?_ rfl)
  ·try simp only [nm, ne_eq] at h0
   refine x_exit <| then_x <| then_x <| block_x <| then_n <| x_seq <| sr rfl <| mI rfl <| mS rfl <| Wp rfl <| st_slen (ct := #[9]) T.u9 rfl <| Wp rfl <| st_geq rfl rfl <| en <| x_cond rfl (fun h3 => ?_) (fun h3 => ?_)
   ·try simp only [nm, ne_eq] at h3
    refine sr rfl <| aI rfl <| aI rfl <| en <| x_ret <| then_r <| ret_tmp2 (v := .int _ _) (v2 := .int _ _) rfl rfl rfl ?_
    rw [hr, untilA_end (by omega)]
    exact ⟨rfl, HC⟩
   ·try simp only [nm, ne_eq] at h3
    obtain ⟨m, rfl⟩ : ∃ m', m = m' + 1 := ⟨m - 1, by omega⟩
    have hb9 : byte s j = 34 := by apply UInt8.toNat_inj.1; show _ = 34; first | omega | (simp_all; omega)
    have hfy : (finM 34 () (byte s j)).1 = true := by simp only [finM, beq_iff_eq]; exact hb9
    refine x_skip <| then_n <| sr rfl <| mI rfl <| Wp rfl <| st_addn rfl rfl (by constructor <;> omega) <| aI rfl <| aI rfl <| en <| x_ret <| ret_tmp2 (v := .int _ _) (v2 := .int _ _) rfl rfl rfl ?_
    rw [hr, untilA_fin (by omega) hfy]
    exact ⟨rfl, HC⟩
 ·try simp only [nm, ne_eq] at g3
  iterate 4 refine w_no 4 14 true ?_
  refine pF rfl rfl <| en <| x_cond (t := false) rfl (fun h0 => ?_) (fun h0 => ?_)
  · exact absurd h0 (by decide)
  refine x_exit <| then_x <| then_x <| block_x <| then_n <| x_seq <| sr rfl <| mI rfl <| mS rfl <| Wp rfl <| st_slen (ct := #[9]) T.u9 rfl <| Wp rfl <| st_geq rfl rfl <| en <| x_cond rfl (fun h3 => ?_) (fun h3 => ?_)
  ·try simp only [nm, ne_eq] at h3
   refine sr rfl <| aI rfl <| aI rfl <| en <| x_ret <| then_r <| ret_tmp2 (v := .int _ _) (v2 := .int _ _) rfl rfl rfl ?_
   rw [hr, untilA_end (by omega)]
   exact ⟨rfl, HC⟩
  ·try simp only [nm, ne_eq] at h3
   obtain ⟨m, rfl⟩ : ∃ m', m = m' + 1 := ⟨m - 1, by omega⟩
   have hb9 : byte s j = 34 := by apply UInt8.toNat_inj.1; show _ = 34; first | omega | (simp_all; omega)
   have hfy : (finM 34 () (byte s j)).1 = true := by simp only [finM, beq_iff_eq]; exact hb9
   refine x_skip <| then_n <| sr rfl <| mI rfl <| Wp rfl <| st_addn rfl rfl (by constructor <;> omega) <| aI rfl <| aI rfl <| en <| x_ret <| ret_tmp2 (v := .int _ _) (v2 := .int _ _) rfl rfl rfl ?_
   rw [hr, untilA_fin (by omega) hfy]
   exact ⟨rfl, HC⟩

theorem brace_spec {fk : Nat} {d : Int} (s : Bytes) (i n : Nat) (w : World) (hs : s.length < 4294967281) (hd : 0 ≤ d ∧ d ≤ 100) (hsk : ∀ (j : Nat) (W : World), j < s.length → CallR Tryd.prog 65 #[S s, .int .i64 (j : Int), .int .i64 (d + 1)] W fun v W' => v = .tuple ⟨[.int .i64 (pairE (skipA fk s j)).1, .int .i64 (pairE (skipA fk s j)).2]⟩ ∧ Chg [] W W') (hi : i ≤ s.length) (hn : s.length - i ≤ n) : CallR Tryd.prog 93 #[S s, .int .i64 (i : Int), .int .i64 d] w fun v w' => v = .tuple ⟨[.int .i64 (pairE (untilA fk (fun _ => true) (finM 125) n () s i)).1, .int .i64 (pairE (untilA fk (fun _ => true) (finM 125) n () s i)).2]⟩ ∧ Chg [] w w' := by
 refine callR_of_wp (args := [_, _, _]) Tryd.func93 rfl (Nat.le_of_ble_eq_true rfl) ?_
 have HC : Chg [] w w := .refl _
 refine sr rfl <| aI rfl <| aI rfl <| en <| x_seq <| x_block <| x_loop (ι := Nat × Nat) [1, 6, 7, 8, 9, 10, 11, 12, 13, 14, 15, 16, 17, 18, 19, 20, 21, 22, 23, 24, 25, 26, 27, 28, 29, 30, 31] (fun ⟨j, m⟩ => [(1, .int .i64 (j : Int))]) (fun ⟨j, m⟩ W => (j ≤ s.length ∧ s.length - j ≤ m ∧ untilA fk (fun _ => true) (finM 125) n () s i = untilA fk (fun _ => true) (finM 125) m () s j) ∧ (Chg [] w W)) (fun ⟨j, m⟩ => s.length - j) (i, n) ?_ ?_ ?_
 · exact ⟨rfl, trivial⟩
 ·refine ⟨?_, HC⟩
  exact ⟨hi, hn, rfl⟩
 intro ⟨j, m⟩ G2 w1 ⟨⟨hj, hm, hr⟩, HC⟩
 change wp _ _ _ _ _ (upds (over _ _ G2) [(1, .int .i64 (j : Int))]) _ _
 refine x_seq <| sr rfl <| mI rfl <| mS rfl <| Wp rfl <| st_slen (ct := #[9]) T.u9 rfl <| Wp rfl <| st_lss rfl rfl <| mB rfl <| w_split (d := 14) rfl (fun g3 => ?_) (fun g3 => ?_)
 ·try simp only [nm, ne_eq] at g3
  refine w_yes 4 14 true <| st_move (v := S _) rfl <| w_yes 4 14 true <| st_move (v := .int _ _) rfl <| w_yes 4 14 true <| st_sidx T.u9 rfl rfl (by omega) (by omega) <| w_yes 4 14 true <| st_neq rfl rfl <| pT rfl rfl <| en <| x_cond rfl (fun h0 => ?_) (fun h0 => ?_)
  ·try simp only [nm, ne_eq] at h0
   obtain ⟨m, rfl⟩ : ∃ m', m = m' + 1 := ⟨m - 1, by omega⟩
   have hfn : (finM 125 () (byte s j)).1 = false := by simp only [finM, beq_eq_false_iff_ne]; intro e; first | (rename_i h9; exact h9 (by rw [e]; rfl)) | simp_all
   have hbg : (fun _ : UInt8 => true) (byte s j) = true := rfl
   refine x_skip <| then_n <| x_block <| sr rfl <| mS rfl <| mI rfl <| mI rfl <| Wp rfl <| st_addn rfl rfl (by constructor <;> omega) <| Wp rfl <| st_call (ags := [_, _, _]) rfl rfl T.ent65 rfl (hsk j _ (by omega)) ?_
   rintro _ w4 ⟨rfl, c5⟩
   replace HC := HC.then c5
   refine mv (v := .tuple ⟨[_, _]⟩) rfl <| Wp rfl <| st_extract (vs := [_, _]) (v := .int _ _) rfl rfl <| Wp rfl <| st_extract (vs := [_, _]) (v := .int _ _) rfl rfl <| aI rfl <| aI rfl <| en <| x_seq <| sr rfl <| mI rfl <| Wp rfl <| st_neq rfl rfl <| en <| x_cond rfl (fun h1 => ?_) (fun h1 => ?_)
   ·try simp only [nm, ne_eq] at h1
    obtain ⟨x, hke, hx0⟩ := pairE_ne (by assumption)
    refine sr rfl <| mI rfl <| aI rfl <| aI rfl <| en <| x_ret <| then_r <| block_r <| then_r <| block_r <| then_r <| ret_tmp2 (v := .int _ _) (v2 := .int _ _) rfl rfl rfl ?_
    rw [hr, untilA_err (by omega) hfn hbg hke]
    rw [hke]
    exact ⟨rfl, HC⟩
   ·try simp only [nm, ne_eq] at h1
    obtain ⟨k, hk⟩ : ∃ k, skipA fk s j = .ok k := by cases hz : skipA fk s j with | ok k => exact ⟨k, rfl⟩ | error x => exact absurd (show (pairE (skipA fk s j)).2 = 0 by first | assumption | simp_all) (by rw [hz]; exact Int.natCast_ne_zero.2 (skipA_ne0 hz))
    have hkb := skipA_le (by omega) hk
    rw [hk]
    refine x_skip <| then_n <| x_region rfl <| mI rfl <| aI rfl <| wops_nil <| block_n <| then_n <| ⟨(k, m), ?_, ?_, rfl, ⟨rfl, trivial⟩, ?_⟩
    ·refine ⟨?_, HC⟩
     exact ⟨hkb.2, by omega, by rw [hr]; exact untilA_sk (by omega) hfn hbg hk⟩
    ·show s.length - k < s.length - j; omega
    repeat (first | exact agree_upds agree_over rfl | refine agree_upd ?_ rfl | refine agree_upds ?_ rfl | refine agree_over_sub ?_ rfl)
  ·try simp only [nm, ne_eq] at h0
   refine x_exit <| then_x <| then_x <| block_x <| then_n <| x_seq <| sr rfl <| mI rfl <| mS rfl <| Wp rfl <| st_slen (ct := #[9]) T.u9 rfl <| Wp rfl <| st_geq rfl rfl <| en <| x_cond rfl (fun h2 => ?_) (fun h2 => ?_)
   ·try simp only [nm, ne_eq] at h2
    refine sr rfl <| aI rfl <| aI rfl <| en <| x_ret <| then_r <| ret_tmp2 (v := .int _ _) (v2 := .int _ _) rfl rfl rfl ?_
    rw [hr, untilA_end (by omega)]
    exact ⟨rfl, HC⟩
   ·try simp only [nm, ne_eq] at h2
    obtain ⟨m, rfl⟩ : ∃ m', m = m' + 1 := ⟨m - 1, by omega⟩
    have hb9 : byte s j = 125 := by apply UInt8.toNat_inj.1; show _ = 125; first | omega | (simp_all; omega)
    have hfy : (finM 125 () (byte s j)).1 = true := by simp only [finM, beq_iff_eq]; exact hb9
    refine x_skip <| then_n <| sr rfl <| mI rfl <| Wp rfl <| st_addn rfl rfl (by constructor <;> omega) <| aI rfl <| aI rfl <| en <| x_ret <| ret_tmp2 (v := .int _ _) (v2 := .int _ _) rfl rfl rfl ?_
    rw [hr, untilA_fin (by omega) hfy]
    exact ⟨rfl, HC⟩
 ·try simp only [nm, ne_eq] at g3
  iterate 4 refine w_no 4 14 true ?_
  refine pF rfl rfl <| en <| x_cond (t := false) rfl (fun h0 => ?_) (fun h0 => ?_)
  · exact absurd h0 (by decide)
  refine x_exit <| then_x <| then_x <| block_x <| then_n <| x_seq <| sr rfl <| mI rfl <| mS rfl <| Wp rfl <| st_slen (ct := #[9]) T.u9 rfl <| Wp rfl <| st_geq rfl rfl <| en <| x_cond rfl (fun h2 => ?_) (fun h2 => ?_)
  ·try simp only [nm, ne_eq] at h2
   refine sr rfl <| aI rfl <| aI rfl <| en <| x_ret <| then_r <| ret_tmp2 (v := .int _ _) (v2 := .int _ _) rfl rfl rfl ?_
   rw [hr, untilA_end (by omega)]
   exact ⟨rfl, HC⟩
  ·try simp only [nm, ne_eq] at h2
   obtain ⟨m, rfl⟩ : ∃ m', m = m' + 1 := ⟨m - 1, by omega⟩
   have hb9 : byte s j = 125 := by apply UInt8.toNat_inj.1; show _ = 125; first | omega | (simp_all; omega)
   have hfy : (finM 125 () (byte s j)).1 = true := by simp only [finM, beq_iff_eq]; exact hb9
   refine x_skip <| then_n <| sr rfl <| mI rfl <| Wp rfl <| st_addn rfl rfl (by constructor <;> omega) <| aI rfl <| aI rfl <| en <| x_ret <| ret_tmp2 (v := .int _ _) (v2 := .int _ _) rfl rfl rfl ?_
   rw [hr, untilA_fin (by omega) hfy]
   exact ⟨rfl, HC⟩

theorem finC_yes {o : Int} {c : UInt8} (h : c = 41) (ho : o = 0) : (finC o c).1 = true := by subst h ho; rfl
theorem finC_no {o : Int} {c : UInt8} (h0 : 0 ≤ o) (h : ¬ (c = 41 ∧ o = 0)) : (finC o c).1 = false ∧ 0 ≤ (finC o c).2 := by
  unfold finC opnC
  by_cases h1 : c = 40
  · simp only [if_pos h1]; exact ⟨decide_eq_false (by omega), by omega⟩
  · by_cases h2 : c = 41
    · have h3 : o ≠ 0 := fun e => h ⟨h2, e⟩
      simp only [if_neg h1, if_pos h2]; exact ⟨decide_eq_false (by omega), by omega⟩
    · simp only [if_neg h1, if_neg h2]; exact ⟨decide_eq_false (by omega), h0⟩

theorem bracket_spec {fk : Nat} {d : Int} (s : Bytes) (i n : Nat) (w : World) (hs : s.length < 4294967281) (hd : 0 ≤ d ∧ d ≤ 100) (hsk : ∀ (j : Nat) (W : World), j < s.length → CallR Tryd.prog 65 #[S s, .int .i64 (j : Int), .int .i64 (d + 1)] W fun v W' => v = .tuple ⟨[.int .i64 (pairE (skipA fk s j)).1, .int .i64 (pairE (skipA fk s j)).2]⟩ ∧ Chg [] W W') (hi : i ≤ s.length) (hn : s.length - i ≤ n) : CallR Tryd.prog 92 #[S s, .int .i64 (i : Int), .int .i64 d] w fun v w' => v = .tuple ⟨[.int .i64 (pairE (untilA fk (fun _ => true) finC n 0 s i)).1, .int .i64 (pairE (untilA fk (fun _ => true) finC n 0 s i)).2]⟩ ∧ Chg [] w w' := by
 refine callR_of_wp (args := [_, _, _]) Tryd.func92 rfl (Nat.le_of_ble_eq_true rfl) ?_
 have HC : Chg [] w w := .refl _
 refine sr rfl <| aI rfl <| aI rfl <| en <| sr rfl <| aI rfl <| en <| x_seq <| x_block <| x_loop (ι := Nat × Nat × Int) [1, 6, 7, 8, 9, 10, 11, 12, 13, 14, 15, 16, 17, 18, 19, 20, 21, 22, 23, 24, 25, 26, 27, 28, 29, 30, 31, 32, 33, 34, 35, 36, 37, 38, 39, 40, 41, 42, 43, 44, 45, 46, 47, 48] (fun ⟨j, m, o⟩ => [(1, .int .i64 (j : Int)), (8, .int .i64 o)]) (fun ⟨j, m, o⟩ W => (j ≤ s.length ∧ s.length - j ≤ m ∧ (0 ≤ o ∧ o ≤ j) ∧ untilA fk (fun _ => true) finC n 0 s i = untilA fk (fun _ => true) finC m o s j) ∧ (Chg [] w W)) (fun ⟨j, m, o⟩ => s.length - j) (i, n, 0) ?_ ?_ ?_
 · exact ⟨rfl, rfl, trivial⟩
 ·refine ⟨?_, HC⟩
  exact ⟨hi, hn, ⟨by omega, by omega⟩, rfl⟩
 intro ⟨j, m, o⟩ G2 w1 ⟨⟨hj, hm, ho, hr⟩, HC⟩
 change wp _ _ _ _ _ (upds (over _ _ G2) [(1, .int .i64 (j : Int)), (8, .int .i64 o)]) _ _
 refine x_seq <| sr rfl <| mI rfl <| mS rfl <| Wp rfl <| st_slen (ct := #[9]) T.u9 rfl <| Wp rfl <| st_lss rfl rfl <| en <| x_cond rfl (fun h0 => ?_) (fun h0 => ?_)
 ·try simp only [nm, ne_eq] at h0
  obtain ⟨m, rfl⟩ : ∃ m', m = m' + 1 := ⟨m - 1, by omega⟩
  refine x_skip <| then_n <| x_block <| x_seq <| sr rfl <| mS rfl <| mI rfl <| Wp rfl <| st_sidx T.u9 rfl rfl (by omega) (by omega) <| Wp rfl <| st_eql rfl rfl <| mB rfl <| w_split (d := 19) rfl (fun g3 => ?_) (fun g3 => ?_)
  ·try simp only [nm, ne_eq] at g3
   refine w_yes 4 19 true <| st_move (v := .int _ _) rfl <| w_yes 4 19 true <| st_eql rfl rfl <| pT rfl rfl <| en <| x_cond rfl (fun h1 => ?_) (fun h1 => ?_)
   ·try simp only [nm, ne_eq] at h1
    have hfy : (finC o (byte s j)).1 = true := finC_yes (u8_eq (by first | assumption | simp_all) rfl) (by first | assumption | simp_all)
    refine sr rfl <| mI rfl <| Wp rfl <| st_addn rfl rfl (by constructor <;> omega) <| aI rfl <| aI rfl <| en <| x_ret <| then_r <| block_r <| then_r <| block_r <| then_r <| ret_tmp2 (v := .int _ _) (v2 := .int _ _) rfl rfl rfl ?_
    rw [hr, untilA_fin (by omega) hfy]
    exact ⟨rfl, HC⟩
   ·try simp only [nm, ne_eq] at h1
    have hfn := finC_no (c := byte s j) ho.1 (by rintro ⟨q1, q2⟩; have q3 : ((byte s j).toNat : Int) = 41 := (by rw [q1]; rfl); first | omega | simp_all)
    refine x_skip <| then_n <| x_seq <| sr rfl <| mS rfl <| mI rfl <| Wp rfl <| st_sidx T.u9 rfl rfl (by omega) (by omega) <| Wp rfl <| st_eql rfl rfl <| en <| x_cond rfl (fun h2 => ?_) (fun h2 => ?_)
    ·try simp only [nm, ne_eq] at h2
     have hb41 : byte s j = 41 := u8_eq h2 rfl
     refine x_region rfl <| mI rfl <| Wp rfl <| st_subn rfl rfl (by constructor <;> omega) <| aI rfl <| en <| x_seq <| sr rfl <| mS rfl <| mI rfl <| Wp rfl <| st_sidx T.u9 rfl rfl (by omega) (by omega) <| Wp rfl <| st_eql rfl rfl <| en <| x_cond rfl (fun h3 => ?_) (fun h3 => ?_)
     ·try simp only [nm, ne_eq] at h3
      exfalso; rw [hb41] at h3; exact absurd h3 (by decide)
     ·try simp only [nm, ne_eq] at h3
      refine x_skip <| then_n <| sr rfl <| mS rfl <| mI rfl <| mI rfl <| Wp rfl <| st_addn rfl rfl (by constructor <;> omega) <| Wp rfl <| st_call (ags := [_, _, _]) rfl rfl T.ent65 rfl (hsk j _ (by omega)) ?_
      rintro _ w4 ⟨rfl, c5⟩
      replace HC := HC.then c5
      refine mv (v := .tuple ⟨[_, _]⟩) rfl <| Wp rfl <| st_extract (vs := [_, _]) (v := .int _ _) rfl rfl <| Wp rfl <| st_extract (vs := [_, _]) (v := .int _ _) rfl rfl <| aI rfl <| aI rfl <| en <| x_seq <| sr rfl <| mI rfl <| Wp rfl <| st_neq rfl rfl <| en <| x_cond rfl (fun h4 => ?_) (fun h4 => ?_)
      ·try simp only [nm, ne_eq] at h4
       obtain ⟨x, hke, hx0⟩ := pairE_ne (by assumption)
       refine sr rfl <| mI rfl <| aI rfl <| aI rfl <| en <| x_ret <| then_r <| block_r <| then_r <| block_r <| then_r <| ret_tmp2 (v := .int _ _) (v2 := .int _ _) rfl rfl rfl ?_
       rw [hr, untilA_err (by omega) hfn.1 rfl hke]
       rw [hke]
       exact ⟨rfl, HC⟩
      ·try simp only [nm, ne_eq] at h4
       obtain ⟨k, hk⟩ : ∃ k, skipA fk s j = .ok k := by cases hz : skipA fk s j with | ok k => exact ⟨k, rfl⟩ | error x => exact absurd (show (pairE (skipA fk s j)).2 = 0 by first | assumption | simp_all) (by rw [hz]; exact Int.natCast_ne_zero.2 (skipA_ne0 hz))
       have hkb := skipA_le (by omega) hk
       rw [hk]
       refine x_skip <| then_n <| x_region rfl <| mI rfl <| aI rfl <| wops_nil <| block_n <| then_n <| ⟨(k, m, (finC o (byte s j)).2), ?_, ?_, rfl, ⟨rfl, (congrArg (Value.int .i64) (by simp only [finC, opnC]; rw [hb41]; rfl)), trivial⟩, ?_⟩
       ·refine ⟨?_, HC⟩
        exact ⟨hkb.2, by omega, ⟨hfn.2, by have := fin_bound (j := j) (o := o) (c := byte s j) (by omega); omega⟩, by rw [hr]; exact untilA_sk (by omega) hfn.1 rfl hk⟩
       ·show s.length - k < s.length - j; omega
       repeat (first | exact agree_upds agree_over rfl | refine agree_upd ?_ rfl | refine agree_upds ?_ rfl | refine agree_over_sub ?_ rfl)
    ·try simp only [nm, ne_eq] at h2
     have hn41 : byte s j ≠ 41 := fun e => h2 (by rw [e]; rfl)
     refine x_skip <| then_n <| x_seq <| sr rfl <| mS rfl <| mI rfl <| Wp rfl <| st_sidx T.u9 rfl rfl (by omega) (by omega) <| Wp rfl <| st_eql rfl rfl <| en <| x_cond rfl (fun h3 => ?_) (fun h3 => ?_)
     ·try simp only [nm, ne_eq] at h3
      refine x_region rfl <| mI rfl <| Wp rfl <| st_addn rfl rfl (by constructor <;> omega) <| aI rfl <| en <| sr rfl <| mS rfl <| mI rfl <| mI rfl <| Wp rfl <| st_addn rfl rfl (by constructor <;> omega) <| Wp rfl <| st_call (ags := [_, _, _]) rfl rfl T.ent65 rfl (hsk j _ (by omega)) ?_
      rintro _ w6 ⟨rfl, c7⟩
      replace HC := HC.then c7
      refine mv (v := .tuple ⟨[_, _]⟩) rfl <| Wp rfl <| st_extract (vs := [_, _]) (v := .int _ _) rfl rfl <| Wp rfl <| st_extract (vs := [_, _]) (v := .int _ _) rfl rfl <| aI rfl <| aI rfl <| en <| x_seq <| sr rfl <| mI rfl <| Wp rfl <| st_neq rfl rfl <| en <| x_cond rfl (fun h4 => ?_) (fun h4 => ?_)
      ·try simp only [nm, ne_eq] at h4
       obtain ⟨x, hke, hx0⟩ := pairE_ne (by assumption)
       refine sr rfl <| mI rfl <| aI rfl <| aI rfl <| en <| x_ret <| then_r <| block_r <| then_r <| block_r <| then_r <| ret_tmp2 (v := .int _ _) (v2 := .int _ _) rfl rfl rfl ?_
       rw [hr, untilA_err (by omega) hfn.1 rfl hke]
       rw [hke]
       exact ⟨rfl, HC⟩
      ·try simp only [nm, ne_eq] at h4
       obtain ⟨k, hk⟩ : ∃ k, skipA fk s j = .ok k := by cases hz : skipA fk s j with | ok k => exact ⟨k, rfl⟩ | error x => exact absurd (show (pairE (skipA fk s j)).2 = 0 by first | assumption | simp_all) (by rw [hz]; exact Int.natCast_ne_zero.2 (skipA_ne0 hz))
       have hkb := skipA_le (by omega) hk
       rw [hk]
       refine x_skip <| then_n <| x_region rfl <| mI rfl <| aI rfl <| wops_nil <| block_n <| then_n <| ⟨(k, m, (finC o (byte s j)).2), ?_, ?_, rfl, ⟨rfl, (congrArg (Value.int .i64) (by simp only [finC, opnC]; rw [if_pos (u8_eq h3 rfl)])), trivial⟩, ?_⟩
       ·refine ⟨?_, HC⟩
        exact ⟨hkb.2, by omega, ⟨hfn.2, by have := fin_bound (j := j) (o := o) (c := byte s j) (by omega); omega⟩, by rw [hr]; exact untilA_sk (by omega) hfn.1 rfl hk⟩
       ·show s.length - k < s.length - j; omega
       repeat (first | exact agree_upds agree_over rfl | refine agree_upd ?_ rfl | refine agree_upds ?_ rfl | refine agree_over_sub ?_ rfl)
     ·try simp only [nm, ne_eq] at h3
      refine x_skip <| then_n <| sr rfl <| mS rfl <| mI rfl <| mI rfl <| Wp rfl <| st_addn rfl rfl (by constructor <;> omega) <| Wp rfl <| st_call (ags := [_, _, _]) rfl rfl T.ent65 rfl (hsk j _ (by omega)) ?_
      rintro _ w8 ⟨rfl, c9⟩
      replace HC := HC.then c9
      refine mv (v := .tuple ⟨[_, _]⟩) rfl <| Wp rfl <| st_extract (vs := [_, _]) (v := .int _ _) rfl rfl <| Wp rfl <| st_extract (vs := [_, _]) (v := .int _ _) rfl rfl <| aI rfl <| aI rfl <| en <| x_seq <| sr rfl <| mI rfl <| Wp rfl <| st_neq rfl rfl <| en <| x_cond rfl (fun h4 => ?_) (fun h4 => ?_)
      ·try simp only [nm, ne_eq] at h4
       obtain ⟨x, hke, hx0⟩ := pairE_ne (by assumption)
       refine sr rfl <| mI rfl <| aI rfl <| aI rfl <| en <| x_ret <| then_r <| block_r <| then_r <| block_r <| then_r <| ret_tmp2 (v := .int _ _) (v2 := .int _ _) rfl rfl rfl ?_
       rw [hr, untilA_err (by omega) hfn.1 rfl hke]
       rw [hke]
       exact ⟨rfl, HC⟩
      ·try simp only [nm, ne_eq] at h4
       obtain ⟨k, hk⟩ : ∃ k, skipA fk s j = .ok k := by cases hz : skipA fk s j with | ok k => exact ⟨k, rfl⟩ | error x => exact absurd (show (pairE (skipA fk s j)).2 = 0 by first | assumption | simp_all) (by rw [hz]; exact Int.natCast_ne_zero.2 (skipA_ne0 hz))
       have hkb := skipA_le (by omega) hk
       rw [hk]
       refine x_skip <| then_n <| x_region rfl <| mI rfl <| aI rfl <| wops_nil <| block_n <| then_n <| ⟨(k, m, (finC o (byte s j)).2), ?_, ?_, rfl, ⟨rfl, (congrArg (Value.int .i64) (by simp only [finC, opnC]; rw [if_neg (fun e => h3 (by rw [e]; rfl)), if_neg hn41])), trivial⟩, ?_⟩
       ·refine ⟨?_, HC⟩
        exact ⟨hkb.2, by omega, ⟨hfn.2, by have := fin_bound (j := j) (o := o) (c := byte s j) (by omega); omega⟩, by rw [hr]; exact untilA_sk (by omega) hfn.1 rfl hk⟩
       ·show s.length - k < s.length - j; omega
       repeat (first | exact agree_upds agree_over rfl | refine agree_upd ?_ rfl | refine agree_upds ?_ rfl | refine agree_over_sub ?_ rfl)
  ·try simp only [nm, ne_eq] at g3
   refine w_no 4 19 true <| w_no 4 19 true <| pF rfl rfl <| en <| x_cond (t := false) rfl (fun h1 => ?_) (fun h1 => ?_)
   · exact absurd h1 (by decide)
   have hfn := finC_no (c := byte s j) ho.1 (by rintro ⟨q1, q2⟩; have q3 : ((byte s j).toNat : Int) = 41 := (by rw [q1]; rfl); first | omega | simp_all)
   refine x_skip <| then_n <| x_seq <| sr rfl <| mS rfl <| mI rfl <| Wp rfl <| st_sidx T.u9 rfl rfl (by omega) (by omega) <| Wp rfl <| st_eql rfl rfl <| en <| x_cond rfl (fun h2 => ?_) (fun h2 => ?_)
   ·try simp only [nm, ne_eq] at h2
    have hb41 : byte s j = 41 := u8_eq h2 rfl
    refine x_region rfl <| mI rfl <| Wp rfl <| st_subn rfl rfl (by constructor <;> omega) <| aI rfl <| en <| x_seq <| sr rfl <| mS rfl <| mI rfl <| Wp rfl <| st_sidx T.u9 rfl rfl (by omega) (by omega) <| Wp rfl <| st_eql rfl rfl <| en <| x_cond rfl (fun h3 => ?_) (fun h3 => ?_)
    ·try simp only [nm, ne_eq] at h3
     exfalso; rw [hb41] at h3; exact absurd h3 (by decide)
    ·try simp only [nm, ne_eq] at h3
     refine x_skip <| then_n <| sr rfl <| mS rfl <| mI rfl <| mI rfl <| Wp rfl <| st_addn rfl rfl (by constructor <;> omega) <| Wp rfl <| st_call (ags := [_, _, _]) rfl rfl T.ent65 rfl (hsk j _ (by omega)) ?_
     rintro _ w10 ⟨rfl, c11⟩
     replace HC := HC.then c11
     refine mv (v := .tuple ⟨[_, _]⟩) rfl <| Wp rfl <| st_extract (vs := [_, _]) (v := .int _ _) rfl rfl <| Wp rfl <| st_extract (vs := [_, _]) (v := .int _ _) rfl rfl <| aI rfl <| aI rfl <| en <| x_seq <| sr rfl <| mI rfl <| Wp rfl <| st_neq rfl rfl <| en <| x_cond rfl (fun h4 => ?_) (fun h4 => ?_)
     ·try simp only [nm, ne_eq] at h4
      obtain ⟨x, hke, hx0⟩ := pairE_ne (by assumption)
      refine sr rfl <| mI rfl <| aI rfl <| aI rfl <| en <| x_ret <| then_r <| block_r <| then_r <| block_r <| then_r <| ret_tmp2 (v := .int _ _) (v2 := .int _ _) rfl rfl rfl ?_
      rw [hr, untilA_err (by omega) hfn.1 rfl hke]
      rw [hke]
      exact ⟨rfl, HC⟩
     ·try simp only [nm, ne_eq] at h4
      obtain ⟨k, hk⟩ : ∃ k, skipA fk s j = .ok k := by cases hz : skipA fk s j with | ok k => exact ⟨k, rfl⟩ | error x => exact absurd (show (pairE (skipA fk s j)).2 = 0 by first | assumption | simp_all) (by rw [hz]; exact Int.natCast_ne_zero.2 (skipA_ne0 hz))
      have hkb := skipA_le (by omega) hk
      rw [hk]
      refine x_skip <| then_n <| x_region rfl <| mI rfl <| aI rfl <| wops_nil <| block_n <| then_n <| ⟨(k, m, (finC o (byte s j)).2), ?_, ?_, rfl, ⟨rfl, (congrArg (Value.int .i64) (by simp only [finC, opnC]; rw [hb41]; rfl)), trivial⟩, ?_⟩
      ·refine ⟨?_, HC⟩
       exact ⟨hkb.2, by omega, ⟨hfn.2, by have := fin_bound (j := j) (o := o) (c := byte s j) (by omega); omega⟩, by rw [hr]; exact untilA_sk (by omega) hfn.1 rfl hk⟩
      ·show s.length - k < s.length - j; omega
      repeat (first | exact agree_upds agree_over rfl | refine agree_upd ?_ rfl | refine agree_upds ?_ rfl | refine agree_over_sub ?_ rfl)
   ·try simp only [nm, ne_eq] at h2
    have hn41 : byte s j ≠ 41 := fun e => h2 (by rw [e]; rfl)
    refine x_skip <| then_n <| x_seq <| sr rfl <| mS rfl <| mI rfl <| Wp rfl <| st_sidx T.u9 rfl rfl (by omega) (by omega) <| Wp rfl <| st_eql rfl rfl <| en <| x_cond rfl (fun h3 => ?_) (fun h3 => ?_)
    ·try simp only [nm, ne_eq] at h3
     refine x_region rfl <| mI rfl <| Wp rfl <| st_addn rfl rfl (by constructor <;> omega) <| aI rfl <| en <| sr rfl <| mS rfl <| mI rfl <| mI rfl <| Wp rfl <| st_addn rfl rfl (by constructor <;> omega) <| Wp rfl <| st_call (ags := [_, _, _]) rfl rfl T.ent65 rfl (hsk j _ (by omega)) ?_
     rintro _ w12 ⟨rfl, c13⟩
     replace HC := HC.then c13
     refine mv (v := .tuple ⟨[_, _]⟩) rfl <| Wp rfl <| st_extract (vs := [_, _]) (v := .int _ _) rfl rfl <| Wp rfl <| st_extract (vs := [_, _]) (v := .int _ _) rfl rfl <| aI rfl <| aI rfl <| en <| x_seq <| sr rfl <| mI rfl <| Wp rfl <| st_neq rfl rfl <| en <| x_cond rfl (fun h4 => ?_) (fun h4 => ?_)
     ·try simp only [nm, ne_eq] at h4
      obtain ⟨x, hke, hx0⟩ := pairE_ne (by assumption)
      refine sr rfl <| mI rfl <| aI rfl <| aI rfl <| en <| x_ret <| then_r <| block_r <| then_r <| block_r <| then_r <| ret_tmp2 (v := .int _ _) (v2 := .int _ _) rfl rfl rfl ?_
      rw [hr, untilA_err (by omega) hfn.1 rfl hke]
      rw [hke]
      exact ⟨rfl, HC⟩
     ·try simp only [nm, ne_eq] at h4
      obtain ⟨k, hk⟩ : ∃ k, skipA fk s j = .ok k := by cases hz : skipA fk s j with | ok k => exact ⟨k, rfl⟩ | error x => exact absurd (show (pairE (skipA fk s j)).2 = 0 by first | assumption | simp_all) (by rw [hz]; exact Int.natCast_ne_zero.2 (skipA_ne0 hz))
      have hkb := skipA_le (by omega) hk
      rw [hk]
      refine x_skip <| then_n <| x_region rfl <| mI rfl <| aI rfl <| wops_nil <| block_n <| then_n <| ⟨(k, m, (finC o (byte s j)).2), ?_, ?_, rfl, ⟨rfl, (congrArg (Value.int .i64) (by simp only [finC, opnC]; rw [if_pos (u8_eq h3 rfl)])), trivial⟩, ?_⟩
      ·refine ⟨?_, HC⟩
       exact ⟨hkb.2, by omega, ⟨hfn.2, by have := fin_bound (j := j) (o := o) (c := byte s j) (by omega); omega⟩, by rw [hr]; exact untilA_sk (by omega) hfn.1 rfl hk⟩
      ·show s.length - k < s.length - j; omega
      repeat (first | exact agree_upds agree_over rfl | refine agree_upd ?_ rfl | refine agree_upds ?_ rfl | refine agree_over_sub ?_ rfl)
    ·try simp only [nm, ne_eq] at h3
     refine x_skip <| then_n <| sr rfl <| mS rfl <| mI rfl <| mI rfl <| Wp rfl <| st_addn rfl rfl (by constructor <;> omega) <| Wp rfl <| st_call (ags := [_, _, _]) rfl rfl T.ent65 rfl (hsk j _ (by omega)) ?_
     rintro _ w14 ⟨rfl, c15⟩
     replace HC := HC.then c15
     refine mv (v := .tuple ⟨[_, _]⟩) rfl <| Wp rfl <| st_extract (vs := [_, _]) (v := .int _ _) rfl rfl <| Wp rfl <| st_extract (vs := [_, _]) (v := .int _ _) rfl rfl <| aI rfl <| aI rfl <| en <| x_seq <| sr rfl <| mI rfl <| Wp rfl <| st_neq rfl rfl <| en <| x_cond rfl (fun h4 => ?_) (fun h4 => ?_)
     ·try simp only [nm, ne_eq] at h4
      obtain ⟨x, hke, hx0⟩ := pairE_ne (by assumption)
      refine sr rfl <| mI rfl <| aI rfl <| aI rfl <| en <| x_ret <| then_r <| block_r <| then_r <| block_r <| then_r <| ret_tmp2 (v := .int _ _) (v2 := .int _ _) rfl rfl rfl ?_
      rw [hr, untilA_err (by omega) hfn.1 rfl hke]
      rw [hke]
      exact ⟨rfl, HC⟩
     ·try simp only [nm, ne_eq] at h4
      obtain ⟨k, hk⟩ : ∃ k, skipA fk s j = .ok k := by cases hz : skipA fk s j with | ok k => exact ⟨k, rfl⟩ | error x => exact absurd (show (pairE (skipA fk s j)).2 = 0 by first | assumption | simp_all) (by rw [hz]; exact Int.natCast_ne_zero.2 (skipA_ne0 hz))
      have hkb := skipA_le (by omega) hk
      rw [hk]
      refine x_skip <| then_n <| x_region rfl <| mI rfl <| aI rfl <| wops_nil <| block_n <| then_n <| ⟨(k, m, (finC o (byte s j)).2), ?_, ?_, rfl, ⟨rfl, (congrArg (Value.int .i64) (by simp only [finC, opnC]; rw [if_neg (fun e => h3 (by rw [e]; rfl)), if_neg hn41])), trivial⟩, ?_⟩
      ·refine ⟨?_, HC⟩
       exact ⟨hkb.2, by omega, ⟨hfn.2, by have := fin_bound (j := j) (o := o) (c := byte s j) (by omega); omega⟩, by rw [hr]; exact untilA_sk (by omega) hfn.1 rfl hk⟩
      ·show s.length - k < s.length - j; omega
      repeat (first | exact agree_upds agree_over rfl | refine agree_upd ?_ rfl | refine agree_upds ?_ rfl | refine agree_over_sub ?_ rfl)
 ·try simp only [nm, ne_eq] at h0
  refine x_exit <| then_x <| then_x <| block_x <| then_n <| sr rfl <| aI rfl <| aI rfl <| en <| x_ret <| ret_tmp2 (v := .int _ _) (v2 := .int _ _) rfl rfl rfl ?_
  rw [hr, untilA_end (by omega)]
  exact ⟨rfl, HC⟩

theorem rskip_zero (s : Bytes) (j : Nat) (d : Int) (w : World) (hs : s.length < 4294967281) (hj : j < s.length) (hd : d = 65) : CallR Tryd.prog 65 #[S s, .int .i64 (j : Int), .int .i64 d] w fun v w' => v = .tuple ⟨[.int .i64 (pairE (skipA 0 s j)).1, .int .i64 (pairE (skipA 0 s j)).2]⟩ ∧ Chg [] w w' := by
 refine callR_of_wp (args := [_, _, _]) Tryd.func65 rfl (Nat.le_of_ble_eq_true rfl) ?_
 have HC : Chg [] w w := .refl _
 refine sr rfl <| aI rfl <| aI rfl <| en <| x_seq <| sr rfl <| mI rfl <| Wp rfl <| st_gtr rfl rfl <| en <| x_cond rfl (fun h0 => ?_) (fun h0 => ?_)
 ·try simp only [nm, ne_eq] at h0
  refine sr rfl <| aI rfl <| aI rfl <| en <| x_ret <| then_r <| ret_tmp2 (v := .int _ _) (v2 := .int _ _) rfl rfl rfl ?_
  rw [skipA_zero]
  exact ⟨rfl, HC⟩
 ·try simp only [nm, ne_eq] at h0
  exfalso; omega

theorem rskip_succ {fk : Nat} (s : Bytes) (j : Nat) (d : Int) (w : World) (hs : s.length < 4294967281) (hj : j < s.length) (hd : 1 ≤ d ∧ d ≤ 64) (hsk : ∀ (j : Nat) (W : World), j < s.length → CallR Tryd.prog 65 #[S s, .int .i64 (j : Int), .int .i64 (d + 1)] W fun v W' => v = .tuple ⟨[.int .i64 (pairE (skipA fk s j)).1, .int .i64 (pairE (skipA fk s j)).2]⟩ ∧ Chg [] W W') : CallR Tryd.prog 65 #[S s, .int .i64 (j : Int), .int .i64 d] w fun v w' => v = .tuple ⟨[.int .i64 (pairE (skipA (fk + 1) s j)).1, .int .i64 (pairE (skipA (fk + 1) s j)).2]⟩ ∧ Chg [] w w' := by
 refine callR_of_wp (args := [_, _, _]) Tryd.func65 rfl (Nat.le_of_ble_eq_true rfl) ?_
 have HC : Chg [] w w := .refl _
 refine sr rfl <| aI rfl <| aI rfl <| en <| x_seq <| sr rfl <| mI rfl <| Wp rfl <| st_gtr rfl rfl <| en <| x_cond rfl (fun h0 => ?_) (fun h0 => ?_)
 ·try simp only [nm, ne_eq] at h0
  exfalso; omega
 ·try simp only [nm, ne_eq] at h0
  refine x_skip <| then_n <| sr rfl <| aI rfl <| en <| x_seq <| sr rfl <| mI rfl <| Wp rfl <| st_addn rfl rfl (by constructor <;> omega) <| mS rfl <| Wp rfl <| st_slen (ct := #[9]) T.u9 rfl <| Wp rfl <| st_lss rfl rfl <| en <| x_cond rfl (fun h1 => ?_) (fun h1 => ?_)
  ·try simp only [nm, ne_eq] at h1
   refine x_region rfl <| mS rfl <| mI rfl <| Wp rfl <| st_addn rfl rfl (by constructor <;> omega) <| Wp rfl <| st_sidx T.u9 rfl rfl (by omega) (by omega) <| aI rfl <| en <| x_seq <| x_block <| sr rfl <| mS rfl <| mI rfl <| Wp rfl <| st_sidx T.u9 rfl rfl (by omega) (by omega) <| Wp rfl <| st_eql rfl rfl <| aB rfl <| en <| x_cond rfl (fun h2 => ?_) (fun h2 => ?_)
   ·try simp only [nm, ne_eq] at h2
    have hb0 : byte s j = 92 := u8_eq (by assumption) rfl
    refine sr rfl <| mI rfl <| Wp rfl <| st_addn rfl rfl (by constructor <;> omega) <| mS rfl <| Wp rfl <| st_slen (ct := #[9]) T.u9 rfl <| Wp rfl <| st_min rfl rfl <| aI rfl <| aI rfl <| en <| x_ret <| block_r <| then_r <| ret_tmp2 (v := .int _ _) (v2 := .int _ _) rfl rfl rfl ?_
    rw [skipA_back hj hb0]
    exact ⟨by show Value.tuple _ = Value.tuple _; simp only [pairE]; rw [show (min ((j : Int) + 2) (s.length : Int)) = ((min (j + 2) s.length : Nat) : Int) by omega], HC⟩
   ·try simp only [nm, ne_eq] at h2
    have hn92 : byte s j ≠ 92 := fun e => h2 (by rw [e]; rfl)
    refine sr rfl <| mS rfl <| mI rfl <| Wp rfl <| st_sidx T.u9 rfl rfl (by omega) (by omega) <| Wp rfl <| st_eql rfl rfl <| aB rfl <| en <| x_cond rfl (fun h3 => ?_) (fun h3 => ?_)
    ·try simp only [nm, ne_eq] at h3
     have hb0 : byte s j = 39 := u8_eq (by assumption) rfl
     refine sr rfl <| mS rfl <| mI rfl <| Wp rfl <| st_addn rfl rfl (by constructor <;> omega) <| Wp rfl <| st_call (ags := [_, _, _, _]) rfl rfl T.ent90 rfl (direct_spec s (j + 1) 39 false _ hs (by omega)) ?_
     rintro _ w1 ⟨rfl, c2⟩
     replace HC := HC.then c2
     refine Wp rfl <| st_extract (vs := [_, _]) (v := .int _ _) rfl rfl <| Wp rfl <| st_extract (vs := [_, _]) (v := .int _ _) rfl rfl <| aI rfl <| aI rfl <| en <| x_ret <| block_r <| then_r <| ret_tmp2 (v := .int _ _) (v2 := .int _ _) rfl rfl rfl ?_
     rw [skipA_quote hj hb0]
     exact ⟨rfl, HC⟩
    ·try simp only [nm, ne_eq] at h3
     have hn39 : byte s j ≠ 39 := fun e => h3 (by rw [e]; rfl)
     refine sr rfl <| mS rfl <| mI rfl <| Wp rfl <| st_sidx T.u9 rfl rfl (by omega) (by omega) <| Wp rfl <| st_eql rfl rfl <| aB rfl <| en <| x_cond rfl (fun h4 => ?_) (fun h4 => ?_)
     ·try simp only [nm, ne_eq] at h4
      have hb0 : byte s j = 96 := u8_eq (by assumption) rfl
      refine sr rfl <| mS rfl <| mI rfl <| Wp rfl <| st_addn rfl rfl (by constructor <;> omega) <| Wp rfl <| st_call (ags := [_, _, _, _]) rfl rfl T.ent90 rfl (direct_spec s (j + 1) 96 true _ hs (by omega)) ?_
      rintro _ w3 ⟨rfl, c4⟩
      replace HC := HC.then c4
      refine Wp rfl <| st_extract (vs := [_, _]) (v := .int _ _) rfl rfl <| Wp rfl <| st_extract (vs := [_, _]) (v := .int _ _) rfl rfl <| aI rfl <| aI rfl <| en <| x_ret <| block_r <| then_r <| ret_tmp2 (v := .int _ _) (v2 := .int _ _) rfl rfl rfl ?_
      rw [skipA_tick hj hb0]
      exact ⟨rfl, HC⟩
     ·try simp only [nm, ne_eq] at h4
      have hn96 : byte s j ≠ 96 := fun e => h4 (by rw [e]; rfl)
      refine sr rfl <| mS rfl <| mI rfl <| Wp rfl <| st_sidx T.u9 rfl rfl (by omega) (by omega) <| Wp rfl <| st_eql rfl rfl <| aB rfl <| en <| x_cond rfl (fun h5 => ?_) (fun h5 => ?_)
      ·try simp only [nm, ne_eq] at h5
       have hb0 : byte s j = 34 := u8_eq (by assumption) rfl
       refine sr rfl <| mS rfl <| mI rfl <| Wp rfl <| st_addn rfl rfl (by constructor <;> omega) <| mI rfl <| Wp rfl <| st_call (ags := [_, _, _]) rfl rfl T.ent91 rfl (double_spec s (j + 1) (s.length - (j + 1)) _ hs (by omega) hsk (by omega) (Nat.le_refl _)) ?_
       rintro _ w5 ⟨rfl, c6⟩
       replace HC := HC.then c6
       refine Wp rfl <| st_extract (vs := [_, _]) (v := .int _ _) rfl rfl <| Wp rfl <| st_extract (vs := [_, _]) (v := .int _ _) rfl rfl <| aI rfl <| aI rfl <| en <| x_ret <| block_r <| then_r <| ret_tmp2 (v := .int _ _) (v2 := .int _ _) rfl rfl rfl ?_
       rw [skipA_double hj hb0]
       exact ⟨rfl, HC⟩
      ·try simp only [nm, ne_eq] at h5
       have hn34 : byte s j ≠ 34 := fun e => h5 (by rw [e]; rfl)
       refine sr rfl <| mS rfl <| mI rfl <| Wp rfl <| st_sidx T.u9 rfl rfl (by omega) (by omega) <| Wp rfl <| st_eql rfl rfl <| mB rfl <| w_split (d := 69) rfl (fun g7 => ?_) (fun g7 => ?_)
       ·try simp only [nm, ne_eq] at g7
        refine w_yes 4 69 true <| st_move (v := .int _ _) rfl <| w_yes 4 69 true <| st_eql rfl rfl <| pT rfl rfl <| aB rfl <| en <| x_cond rfl (fun h6 => ?_) (fun h6 => ?_)
        ·try simp only [nm, ne_eq] at h6
         have h2d : Lib.hasPrefix (s.drop j) [36, 40] = true := two_yes (by omega) (u8_eq (by first | assumption | simp_all) rfl) (u8_eq (by first | assumption | simp_all) rfl)
         refine sr rfl <| mS rfl <| mI rfl <| Wp rfl <| st_addn rfl rfl (by constructor <;> omega) <| mI rfl <| Wp rfl <| st_call (ags := [_, _, _]) rfl rfl T.ent92 rfl (bracket_spec s (j + 2) (s.length - (j + 2)) _ hs (by omega) hsk (by omega) (Nat.le_refl _)) ?_
         rintro _ w8 ⟨rfl, c9⟩
         replace HC := HC.then c9
         refine Wp rfl <| st_extract (vs := [_, _]) (v := .int _ _) rfl rfl <| Wp rfl <| st_extract (vs := [_, _]) (v := .int _ _) rfl rfl <| aI rfl <| aI rfl <| en <| x_ret <| block_r <| then_r <| ret_tmp2 (v := .int _ _) (v2 := .int _ _) rfl rfl rfl ?_
         rw [skipA_bracket h2d]
         exact ⟨rfl, HC⟩
        ·try simp only [nm, ne_eq] at h6
         have hno40 : Lib.hasPrefix (s.drop j) [36, 40] = false := by rw [Bool.eq_false_iff]; intro e; obtain ⟨q1, q2, q3⟩ := two_of e; have q4 : ((byte s j).toNat : Int) = 36 := (by rw [q2]; rfl); have q5 : ((byte s (j + 1)).toNat : Int) = 40 := (by rw [q3]; rfl); first | omega | simp_all
         refine sr rfl <| mS rfl <| mI rfl <| Wp rfl <| st_sidx T.u9 rfl rfl (by omega) (by omega) <| Wp rfl <| st_eql rfl rfl <| mB rfl <| w_split (d := 85) rfl (fun g10 => ?_) (fun g10 => ?_)
         ·try simp only [nm, ne_eq] at g10
          refine w_yes 4 85 true <| st_move (v := .int _ _) rfl <| w_yes 4 85 true <| st_eql rfl rfl <| pT rfl rfl <| aB rfl <| en <| x_cond rfl (fun h7 => ?_) (fun h7 => ?_)
          ·try simp only [nm, ne_eq] at h7
           have h2d : Lib.hasPrefix (s.drop j) [36, 123] = true := two_yes (by omega) (u8_eq (by first | assumption | simp_all) rfl) (u8_eq (by first | assumption | simp_all) rfl)
           refine sr rfl <| mS rfl <| mI rfl <| Wp rfl <| st_addn rfl rfl (by constructor <;> omega) <| mI rfl <| Wp rfl <| st_call (ags := [_, _, _]) rfl rfl T.ent93 rfl (brace_spec s (j + 2) (s.length - (j + 2)) _ hs (by omega) hsk (by omega) (Nat.le_refl _)) ?_
           rintro _ w11 ⟨rfl, c12⟩
           replace HC := HC.then c12
           refine Wp rfl <| st_extract (vs := [_, _]) (v := .int _ _) rfl rfl <| Wp rfl <| st_extract (vs := [_, _]) (v := .int _ _) rfl rfl <| aI rfl <| aI rfl <| en <| x_ret <| block_r <| then_r <| ret_tmp2 (v := .int _ _) (v2 := .int _ _) rfl rfl rfl ?_
           rw [skipA_brace h2d]
           exact ⟨rfl, HC⟩
          ·try simp only [nm, ne_eq] at h7
           have hno123 : Lib.hasPrefix (s.drop j) [36, 123] = false := by rw [Bool.eq_false_iff]; intro e; obtain ⟨q1, q2, q3⟩ := two_of e; have q4 : ((byte s j).toNat : Int) = 36 := (by rw [q2]; rfl); have q5 : ((byte s (j + 1)).toNat : Int) = 123 := (by rw [q3]; rfl); first | omega | simp_all
           refine x_skip <| block_n <| then_n <| sr rfl <| mI rfl <| Wp rfl <| st_addn rfl rfl (by constructor <;> omega) <| aI rfl <| aI rfl <| en <| x_ret <| ret_tmp2 (v := .int _ _) (v2 := .int _ _) rfl rfl rfl ?_
           rw [skipA_one hj hn92 hn39 hn96 hn34 hno40 hno123]
           exact ⟨rfl, HC⟩
         ·try simp only [nm, ne_eq] at g10
          refine w_no 4 85 true <| w_no 4 85 true <| pF rfl rfl <| aB rfl <| en <| x_cond (t := false) rfl (fun h7 => ?_) (fun h7 => ?_)
          · exact absurd h7 (by decide)
          have hno123 : Lib.hasPrefix (s.drop j) [36, 123] = false := by rw [Bool.eq_false_iff]; intro e; obtain ⟨q1, q2, q3⟩ := two_of e; have q4 : ((byte s j).toNat : Int) = 36 := (by rw [q2]; rfl); have q5 : ((byte s (j + 1)).toNat : Int) = 123 := (by rw [q3]; rfl); first | omega | simp_all
          refine x_skip <| block_n <| then_n <| sr rfl <| mI rfl <| Wp rfl <| st_addn rfl rfl (by constructor <;> omega) <| aI rfl <| aI rfl <| en <| x_ret <| ret_tmp2 (v := .int _ _) (v2 := .int _ _) rfl rfl rfl ?_
          rw [skipA_one hj hn92 hn39 hn96 hn34 hno40 hno123]
          exact ⟨rfl, HC⟩
       ·try simp only [nm, ne_eq] at g7
        refine w_no 4 69 true <| w_no 4 69 true <| pF rfl rfl <| aB rfl <| en <| x_cond (t := false) rfl (fun h6 => ?_) (fun h6 => ?_)
        · exact absurd h6 (by decide)
        have hno40 : Lib.hasPrefix (s.drop j) [36, 40] = false := by rw [Bool.eq_false_iff]; intro e; obtain ⟨q1, q2, q3⟩ := two_of e; have q4 : ((byte s j).toNat : Int) = 36 := (by rw [q2]; rfl); have q5 : ((byte s (j + 1)).toNat : Int) = 40 := (by rw [q3]; rfl); first | omega | simp_all
        refine sr rfl <| mS rfl <| mI rfl <| Wp rfl <| st_sidx T.u9 rfl rfl (by omega) (by omega) <| Wp rfl <| st_eql rfl rfl <| mB rfl <| w_split (d := 85) rfl (fun g13 => ?_) (fun g13 => ?_)
        ·try simp only [nm, ne_eq] at g13
         refine w_yes 4 85 true <| st_move (v := .int _ _) rfl <| w_yes 4 85 true <| st_eql rfl rfl <| pT rfl rfl <| aB rfl <| en <| x_cond rfl (fun h7 => ?_) (fun h7 => ?_)
         ·try simp only [nm, ne_eq] at h7
          have h2d : Lib.hasPrefix (s.drop j) [36, 123] = true := two_yes (by omega) (u8_eq (by first | assumption | simp_all) rfl) (u8_eq (by first | assumption | simp_all) rfl)
          refine sr rfl <| mS rfl <| mI rfl <| Wp rfl <| st_addn rfl rfl (by constructor <;> omega) <| mI rfl <| Wp rfl <| st_call (ags := [_, _, _]) rfl rfl T.ent93 rfl (brace_spec s (j + 2) (s.length - (j + 2)) _ hs (by omega) hsk (by omega) (Nat.le_refl _)) ?_
          rintro _ w14 ⟨rfl, c15⟩
          replace HC := HC.then c15
          refine Wp rfl <| st_extract (vs := [_, _]) (v := .int _ _) rfl rfl <| Wp rfl <| st_extract (vs := [_, _]) (v := .int _ _) rfl rfl <| aI rfl <| aI rfl <| en <| x_ret <| block_r <| then_r <| ret_tmp2 (v := .int _ _) (v2 := .int _ _) rfl rfl rfl ?_
          rw [skipA_brace h2d]
          exact ⟨rfl, HC⟩
         ·try simp only [nm, ne_eq] at h7
          have hno123 : Lib.hasPrefix (s.drop j) [36, 123] = false := by rw [Bool.eq_false_iff]; intro e; obtain ⟨q1, q2, q3⟩ := two_of e; have q4 : ((byte s j).toNat : Int) = 36 := (by rw [q2]; rfl); have q5 : ((byte s (j + 1)).toNat : Int) = 123 := (by rw [q3]; rfl); first | omega | simp_all
          refine x_skip <| block_n <| then_n <| sr rfl <| mI rfl <| Wp rfl <| st_addn rfl rfl (by constructor <;> omega) <| aI rfl <| aI rfl <| en <| x_ret <| ret_tmp2 (v := .int _ _) (v2 := .int _ _) rfl rfl rfl ?_
          rw [skipA_one hj hn92 hn39 hn96 hn34 hno40 hno123]
          exact ⟨rfl, HC⟩
        ·try simp only [nm, ne_eq] at g13
         refine w_no 4 85 true <| w_no 4 85 true <| pF rfl rfl <| aB rfl <| en <| x_cond (t := false) rfl (fun h7 => ?_) (fun h7 => ?_)
         · exact absurd h7 (by decide)
         have hno123 : Lib.hasPrefix (s.drop j) [36, 123] = false := by rw [Bool.eq_false_iff]; intro e; obtain ⟨q1, q2, q3⟩ := two_of e; have q4 : ((byte s j).toNat : Int) = 36 := (by rw [q2]; rfl); have q5 : ((byte s (j + 1)).toNat : Int) = 123 := (by rw [q3]; rfl); first | omega | simp_all
         refine x_skip <| block_n <| then_n <| sr rfl <| mI rfl <| Wp rfl <| st_addn rfl rfl (by constructor <;> omega) <| aI rfl <| aI rfl <| en <| x_ret <| ret_tmp2 (v := .int _ _) (v2 := .int _ _) rfl rfl rfl ?_
         rw [skipA_one hj hn92 hn39 hn96 hn34 hno40 hno123]
         exact ⟨rfl, HC⟩
  ·try simp only [nm, ne_eq] at h1
   refine x_skip <| then_n <| x_seq <| x_block <| sr rfl <| mS rfl <| mI rfl <| Wp rfl <| st_sidx T.u9 rfl rfl (by omega) (by omega) <| Wp rfl <| st_eql rfl rfl <| aB rfl <| en <| x_cond rfl (fun h2 => ?_) (fun h2 => ?_)
   ·try simp only [nm, ne_eq] at h2
    have hb0 : byte s j = 92 := u8_eq (by assumption) rfl
    refine sr rfl <| mI rfl <| Wp rfl <| st_addn rfl rfl (by constructor <;> omega) <| mS rfl <| Wp rfl <| st_slen (ct := #[9]) T.u9 rfl <| Wp rfl <| st_min rfl rfl <| aI rfl <| aI rfl <| en <| x_ret <| block_r <| then_r <| ret_tmp2 (v := .int _ _) (v2 := .int _ _) rfl rfl rfl ?_
    rw [skipA_back hj hb0]
    exact ⟨by show Value.tuple _ = Value.tuple _; simp only [pairE]; rw [show (min ((j : Int) + 2) (s.length : Int)) = ((min (j + 2) s.length : Nat) : Int) by omega], HC⟩
   ·try simp only [nm, ne_eq] at h2
    have hn92 : byte s j ≠ 92 := fun e => h2 (by rw [e]; rfl)
    refine sr rfl <| mS rfl <| mI rfl <| Wp rfl <| st_sidx T.u9 rfl rfl (by omega) (by omega) <| Wp rfl <| st_eql rfl rfl <| aB rfl <| en <| x_cond rfl (fun h3 => ?_) (fun h3 => ?_)
    ·try simp only [nm, ne_eq] at h3
     have hb0 : byte s j = 39 := u8_eq (by assumption) rfl
     refine sr rfl <| mS rfl <| mI rfl <| Wp rfl <| st_addn rfl rfl (by constructor <;> omega) <| Wp rfl <| st_call (ags := [_, _, _, _]) rfl rfl T.ent90 rfl (direct_spec s (j + 1) 39 false _ hs (by omega)) ?_
     rintro _ w16 ⟨rfl, c17⟩
     replace HC := HC.then c17
     refine Wp rfl <| st_extract (vs := [_, _]) (v := .int _ _) rfl rfl <| Wp rfl <| st_extract (vs := [_, _]) (v := .int _ _) rfl rfl <| aI rfl <| aI rfl <| en <| x_ret <| block_r <| then_r <| ret_tmp2 (v := .int _ _) (v2 := .int _ _) rfl rfl rfl ?_
     rw [skipA_quote hj hb0]
     exact ⟨rfl, HC⟩
    ·try simp only [nm, ne_eq] at h3
     have hn39 : byte s j ≠ 39 := fun e => h3 (by rw [e]; rfl)
     refine sr rfl <| mS rfl <| mI rfl <| Wp rfl <| st_sidx T.u9 rfl rfl (by omega) (by omega) <| Wp rfl <| st_eql rfl rfl <| aB rfl <| en <| x_cond rfl (fun h4 => ?_) (fun h4 => ?_)
     ·try simp only [nm, ne_eq] at h4
      have hb0 : byte s j = 96 := u8_eq (by assumption) rfl
      refine sr rfl <| mS rfl <| mI rfl <| Wp rfl <| st_addn rfl rfl (by constructor <;> omega) <| Wp rfl <| st_call (ags := [_, _, _, _]) rfl rfl T.ent90 rfl (direct_spec s (j + 1) 96 true _ hs (by omega)) ?_
      rintro _ w18 ⟨rfl, c19⟩
      replace HC := HC.then c19
      refine Wp rfl <| st_extract (vs := [_, _]) (v := .int _ _) rfl rfl <| Wp rfl <| st_extract (vs := [_, _]) (v := .int _ _) rfl rfl <| aI rfl <| aI rfl <| en <| x_ret <| block_r <| then_r <| ret_tmp2 (v := .int _ _) (v2 := .int _ _) rfl rfl rfl ?_
      rw [skipA_tick hj hb0]
      exact ⟨rfl, HC⟩
     ·try simp only [nm, ne_eq] at h4
      have hn96 : byte s j ≠ 96 := fun e => h4 (by rw [e]; rfl)
      refine sr rfl <| mS rfl <| mI rfl <| Wp rfl <| st_sidx T.u9 rfl rfl (by omega) (by omega) <| Wp rfl <| st_eql rfl rfl <| aB rfl <| en <| x_cond rfl (fun h5 => ?_) (fun h5 => ?_)
      ·try simp only [nm, ne_eq] at h5
       have hb0 : byte s j = 34 := u8_eq (by assumption) rfl
       refine sr rfl <| mS rfl <| mI rfl <| Wp rfl <| st_addn rfl rfl (by constructor <;> omega) <| mI rfl <| Wp rfl <| st_call (ags := [_, _, _]) rfl rfl T.ent91 rfl (double_spec s (j + 1) (s.length - (j + 1)) _ hs (by omega) hsk (by omega) (Nat.le_refl _)) ?_
       rintro _ w20 ⟨rfl, c21⟩
       replace HC := HC.then c21
       refine Wp rfl <| st_extract (vs := [_, _]) (v := .int _ _) rfl rfl <| Wp rfl <| st_extract (vs := [_, _]) (v := .int _ _) rfl rfl <| aI rfl <| aI rfl <| en <| x_ret <| block_r <| then_r <| ret_tmp2 (v := .int _ _) (v2 := .int _ _) rfl rfl rfl ?_
       rw [skipA_double hj hb0]
       exact ⟨rfl, HC⟩
      ·try simp only [nm, ne_eq] at h5
       have hn34 : byte s j ≠ 34 := fun e => h5 (by rw [e]; rfl)
       refine sr rfl <| mS rfl <| mI rfl <| Wp rfl <| st_sidx T.u9 rfl rfl (by omega) (by omega) <| Wp rfl <| st_eql rfl rfl <| mB rfl <| w_split (d := 69) rfl (fun g22 => ?_) (fun g22 => ?_)
       ·try simp only [nm, ne_eq] at g22
        refine w_yes 4 69 true <| st_move (v := .int _ _) rfl <| w_yes 4 69 true <| st_eql rfl rfl <| pT rfl rfl <| aB rfl <| en <| x_cond rfl (fun h6 => ?_) (fun h6 => ?_)
        ·try simp only [nm, ne_eq] at h6
         have h2d : Lib.hasPrefix (s.drop j) [36, 40] = true := two_yes (by omega) (u8_eq (by first | assumption | simp_all) rfl) (u8_eq (by first | assumption | simp_all) rfl)
         refine sr rfl <| mS rfl <| mI rfl <| Wp rfl <| st_addn rfl rfl (by constructor <;> omega) <| mI rfl <| Wp rfl <| st_call (ags := [_, _, _]) rfl rfl T.ent92 rfl (bracket_spec s (j + 2) (s.length - (j + 2)) _ hs (by omega) hsk (by omega) (Nat.le_refl _)) ?_
         rintro _ w23 ⟨rfl, c24⟩
         replace HC := HC.then c24
         refine Wp rfl <| st_extract (vs := [_, _]) (v := .int _ _) rfl rfl <| Wp rfl <| st_extract (vs := [_, _]) (v := .int _ _) rfl rfl <| aI rfl <| aI rfl <| en <| x_ret <| block_r <| then_r <| ret_tmp2 (v := .int _ _) (v2 := .int _ _) rfl rfl rfl ?_
         rw [skipA_bracket h2d]
         exact ⟨rfl, HC⟩
        ·try simp only [nm, ne_eq] at h6
         have hno40 : Lib.hasPrefix (s.drop j) [36, 40] = false := by rw [Bool.eq_false_iff]; intro e; obtain ⟨q1, q2, q3⟩ := two_of e; have q4 : ((byte s j).toNat : Int) = 36 := (by rw [q2]; rfl); have q5 : ((byte s (j + 1)).toNat : Int) = 40 := (by rw [q3]; rfl); first | omega | simp_all
         refine sr rfl <| mS rfl <| mI rfl <| Wp rfl <| st_sidx T.u9 rfl rfl (by omega) (by omega) <| Wp rfl <| st_eql rfl rfl <| mB rfl <| w_split (d := 85) rfl (fun g25 => ?_) (fun g25 => ?_)
         ·try simp only [nm, ne_eq] at g25
          refine w_yes 4 85 true <| st_move (v := .int _ _) rfl <| w_yes 4 85 true <| st_eql rfl rfl <| pT rfl rfl <| aB rfl <| en <| x_cond rfl (fun h7 => ?_) (fun h7 => ?_)
          ·try simp only [nm, ne_eq] at h7
           have h2d : Lib.hasPrefix (s.drop j) [36, 123] = true := two_yes (by omega) (u8_eq (by first | assumption | simp_all) rfl) (u8_eq (by first | assumption | simp_all) rfl)
           refine sr rfl <| mS rfl <| mI rfl <| Wp rfl <| st_addn rfl rfl (by constructor <;> omega) <| mI rfl <| Wp rfl <| st_call (ags := [_, _, _]) rfl rfl T.ent93 rfl (brace_spec s (j + 2) (s.length - (j + 2)) _ hs (by omega) hsk (by omega) (Nat.le_refl _)) ?_
           rintro _ w26 ⟨rfl, c27⟩
           replace HC := HC.then c27
           refine Wp rfl <| st_extract (vs := [_, _]) (v := .int _ _) rfl rfl <| Wp rfl <| st_extract (vs := [_, _]) (v := .int _ _) rfl rfl <| aI rfl <| aI rfl <| en <| x_ret <| block_r <| then_r <| ret_tmp2 (v := .int _ _) (v2 := .int _ _) rfl rfl rfl ?_
           rw [skipA_brace h2d]
           exact ⟨rfl, HC⟩
          ·try simp only [nm, ne_eq] at h7
           have hno123 : Lib.hasPrefix (s.drop j) [36, 123] = false := by rw [Bool.eq_false_iff]; intro e; obtain ⟨q1, q2, q3⟩ := two_of e; have q4 : ((byte s j).toNat : Int) = 36 := (by rw [q2]; rfl); have q5 : ((byte s (j + 1)).toNat : Int) = 123 := (by rw [q3]; rfl); first | omega | simp_all
           refine x_skip <| block_n <| then_n <| sr rfl <| mI rfl <| Wp rfl <| st_addn rfl rfl (by constructor <;> omega) <| aI rfl <| aI rfl <| en <| x_ret <| ret_tmp2 (v := .int _ _) (v2 := .int _ _) rfl rfl rfl ?_
           rw [skipA_one hj hn92 hn39 hn96 hn34 hno40 hno123]
           exact ⟨rfl, HC⟩
         ·try simp only [nm, ne_eq] at g25
          refine w_no 4 85 true <| w_no 4 85 true <| pF rfl rfl <| aB rfl <| en <| x_cond (t := false) rfl (fun h7 => ?_) (fun h7 => ?_)
          · exact absurd h7 (by decide)
          have hno123 : Lib.hasPrefix (s.drop j) [36, 123] = false := by rw [Bool.eq_false_iff]; intro e; obtain ⟨q1, q2, q3⟩ := two_of e; have q4 : ((byte s j).toNat : Int) = 36 := (by rw [q2]; rfl); have q5 : ((byte s (j + 1)).toNat : Int) = 123 := (by rw [q3]; rfl); first | omega | simp_all
          refine x_skip <| block_n <| then_n <| sr rfl <| mI rfl <| Wp rfl <| st_addn rfl rfl (by constructor <;> omega) <| aI rfl <| aI rfl <| en <| x_ret <| ret_tmp2 (v := .int _ _) (v2 := .int _ _) rfl rfl rfl ?_
          rw [skipA_one hj hn92 hn39 hn96 hn34 hno40 hno123]
          exact ⟨rfl, HC⟩
       ·try simp only [nm, ne_eq] at g22
        refine w_no 4 69 true <| w_no 4 69 true <| pF rfl rfl <| aB rfl <| en <| x_cond (t := false) rfl (fun h6 => ?_) (fun h6 => ?_)
        · exact absurd h6 (by decide)
        have hno40 : Lib.hasPrefix (s.drop j) [36, 40] = false := by rw [Bool.eq_false_iff]; intro e; obtain ⟨q1, q2, q3⟩ := two_of e; have q4 : ((byte s j).toNat : Int) = 36 := (by rw [q2]; rfl); have q5 : ((byte s (j + 1)).toNat : Int) = 40 := (by rw [q3]; rfl); first | omega | simp_all
        refine sr rfl <| mS rfl <| mI rfl <| Wp rfl <| st_sidx T.u9 rfl rfl (by omega) (by omega) <| Wp rfl <| st_eql rfl rfl <| mB rfl <| w_split (d := 85) rfl (fun g28 => ?_) (fun g28 => ?_)
        ·try simp only [nm, ne_eq] at g28
         refine w_yes 4 85 true <| st_move (v := .int _ _) rfl <| w_yes 4 85 true <| st_eql rfl rfl <| pT rfl rfl <| aB rfl <| en <| x_cond rfl (fun h7 => ?_) (fun h7 => ?_)
         ·try simp only [nm, ne_eq] at h7
          have h2d : Lib.hasPrefix (s.drop j) [36, 123] = true := two_yes (by omega) (u8_eq (by first | assumption | simp_all) rfl) (u8_eq (by first | assumption | simp_all) rfl)
          refine sr rfl <| mS rfl <| mI rfl <| Wp rfl <| st_addn rfl rfl (by constructor <;> omega) <| mI rfl <| Wp rfl <| st_call (ags := [_, _, _]) rfl rfl T.ent93 rfl (brace_spec s (j + 2) (s.length - (j + 2)) _ hs (by omega) hsk (by omega) (Nat.le_refl _)) ?_
          rintro _ w29 ⟨rfl, c30⟩
          replace HC := HC.then c30
          refine Wp rfl <| st_extract (vs := [_, _]) (v := .int _ _) rfl rfl <| Wp rfl <| st_extract (vs := [_, _]) (v := .int _ _) rfl rfl <| aI rfl <| aI rfl <| en <| x_ret <| block_r <| then_r <| ret_tmp2 (v := .int _ _) (v2 := .int _ _) rfl rfl rfl ?_
          rw [skipA_brace h2d]
          exact ⟨rfl, HC⟩
         ·try simp only [nm, ne_eq] at h7
          have hno123 : Lib.hasPrefix (s.drop j) [36, 123] = false := by rw [Bool.eq_false_iff]; intro e; obtain ⟨q1, q2, q3⟩ := two_of e; have q4 : ((byte s j).toNat : Int) = 36 := (by rw [q2]; rfl); have q5 : ((byte s (j + 1)).toNat : Int) = 123 := (by rw [q3]; rfl); first | omega | simp_all
          refine x_skip <| block_n <| then_n <| sr rfl <| mI rfl <| Wp rfl <| st_addn rfl rfl (by constructor <;> omega) <| aI rfl <| aI rfl <| en <| x_ret <| ret_tmp2 (v := .int _ _) (v2 := .int _ _) rfl rfl rfl ?_
          rw [skipA_one hj hn92 hn39 hn96 hn34 hno40 hno123]
          exact ⟨rfl, HC⟩
        ·try simp only [nm, ne_eq] at g28
         refine w_no 4 85 true <| w_no 4 85 true <| pF rfl rfl <| aB rfl <| en <| x_cond (t := false) rfl (fun h7 => ?_) (fun h7 => ?_)
         · exact absurd h7 (by decide)
         have hno123 : Lib.hasPrefix (s.drop j) [36, 123] = false := by rw [Bool.eq_false_iff]; intro e; obtain ⟨q1, q2, q3⟩ := two_of e; have q4 : ((byte s j).toNat : Int) = 36 := (by rw [q2]; rfl); have q5 : ((byte s (j + 1)).toNat : Int) = 123 := (by rw [q3]; rfl); first | omega | simp_all
         refine x_skip <| block_n <| then_n <| sr rfl <| mI rfl <| Wp rfl <| st_addn rfl rfl (by constructor <;> omega) <| aI rfl <| aI rfl <| en <| x_ret <| ret_tmp2 (v := .int _ _) (v2 := .int _ _) rfl rfl rfl ?_
         rw [skipA_one hj hn92 hn39 hn96 hn34 hno40 hno123]
         exact ⟨rfl, HC⟩

theorem rskip_spec (s : Bytes) (hs : s.length < 4294967281) : ∀ (fk : Nat) (j : Nat) (d : Int) (w : World), j < s.length → d = 65 - fk → fk ≤ 64 → CallR Tryd.prog 65 #[S s, .int .i64 (j : Int), .int .i64 d] w fun v w' => v = .tuple ⟨[.int .i64 (pairE (skipA fk s j)).1, .int .i64 (pairE (skipA fk s j)).2]⟩ ∧ Chg [] w w'
  | 0, j, d, w, hj, hd, _ => rskip_zero s j d w hs hj (by omega)
  | fk + 1, j, d, w, hj, hd, hf => rskip_succ s j d w hs hj (by omega) fun j W hj => rskip_spec s hs fk j (d + 1) W hj (by omega) (by omega)

theorem RSkip_spec (s : Bytes) (i : Int) (w : World) (hs : s.length < 4294967281) : CallR Tryd.prog 38 #[S s, .int .i64 i] w fun v w' => v = .tuple ⟨[.int .i64 (skipV s i).1, .int .i64 (skipV s i).2]⟩ ∧ Chg [] w w' := by
 refine callR_of_wp (args := [_, _]) Tryd.func38 rfl (Nat.le_of_ble_eq_true rfl) ?_
 have HC : Chg [] w w := .refl _
 refine sr rfl <| aI rfl <| aI rfl <| en <| x_seq <| sr rfl <| mI rfl <| Wp rfl <| st_lss rfl rfl <| mB rfl <| w_split (d := 10) rfl (fun g1 => ?_) (fun g1 => ?_)
 ·try simp only [nm, ne_eq] at g1
  iterate 4 refine w_no 2 10 false ?_
  refine pT rfl rfl <| en <| x_cond (t := true) rfl (fun h0 => ?_) (fun h0 => ?_)
  rotate_left
  · exact absurd h0 (by decide)
  have hv : skipV s i = (i, 101) := skipV_out (by first | omega | (left; omega) | (right; omega))
  refine sr rfl <| mI rfl <| aI rfl <| aI rfl <| en <| x_ret <| then_r <| ret_tmp2 (v := .int _ _) (v2 := .int _ _) rfl rfl rfl ?_
  rw [hv]
  exact ⟨rfl, HC⟩
 ·try simp only [nm, ne_eq] at g1
  refine w_yes 2 10 false <| st_move (v := .int _ _) rfl <| w_yes 2 10 false <| st_move (v := S _) rfl <| w_yes 2 10 false <| st_slen (ct := #[9]) T.u9 rfl <| w_yes 2 10 false <| st_geq rfl rfl <| pF rfl rfl <| en <| x_cond rfl (fun h0 => ?_) (fun h0 => ?_)
  ·try simp only [nm, ne_eq] at h0
   have hv : skipV s i = (i, 101) := skipV_out (by first | omega | (left; omega) | (right; omega))
   refine sr rfl <| mI rfl <| aI rfl <| aI rfl <| en <| x_ret <| then_r <| ret_tmp2 (v := .int _ _) (v2 := .int _ _) rfl rfl rfl ?_
   rw [hv]
   exact ⟨rfl, HC⟩
  ·try simp only [nm, ne_eq] at h0
   obtain ⟨j, rfl⟩ : ∃ j : Nat, i = j := ⟨i.toNat, by omega⟩
   refine x_skip <| then_n <| sr rfl <| mS rfl <| mI rfl <| Wp rfl <| st_call (ags := [_, _, _]) rfl rfl T.ent65 rfl (rskip_spec s hs 64 j 1 _ (by omega) (by omega) (by omega)) ?_
   rintro _ w2 ⟨rfl, c3⟩
   replace HC := HC.then c3
   refine mv (v := .tuple ⟨[_, _]⟩) rfl <| Wp rfl <| st_extract (vs := [_, _]) (v := .int _ _) rfl rfl <| Wp rfl <| st_extract (vs := [_, _]) (v := .int _ _) rfl rfl <| aI rfl <| aI rfl <| en <| x_seq <| sr rfl <| mI rfl <| Wp rfl <| st_neq rfl rfl <| en <| x_cond rfl (fun h1 => ?_) (fun h1 => ?_)
   ·try simp only [nm, ne_eq] at h1
    obtain ⟨x, hke, hx0⟩ := pairE_ne (by assumption)
    have hv := skipV_err (by omega) hke
    rw [hke]
    refine sr rfl <| mI rfl <| mI rfl <| aI rfl <| aI rfl <| en <| x_ret <| then_r <| ret_tmp2 (v := .int _ _) (v2 := .int _ _) rfl rfl rfl ?_
    rw [hv]
    exact ⟨rfl, HC⟩
   ·try simp only [nm, ne_eq] at h1
    obtain ⟨k, hk⟩ : ∃ k, skipA 64 s j = .ok k := by cases hz : skipA 64 s j with | ok k => exact ⟨k, rfl⟩ | error x => exact absurd (show (pairE (skipA 64 s j)).2 = 0 by first | assumption | simp_all) (by rw [hz]; exact Int.natCast_ne_zero.2 (skipA_ne0 hz))
    have hv := skipV_ok (by omega) hk
    rw [hk]
    refine x_skip <| then_n <| sr rfl <| mI rfl <| aI rfl <| aI rfl <| en <| x_ret <| ret_tmp2 (v := .int _ _) (v2 := .int _ _) rfl rfl rfl ?_
    rw [hv]
    exact ⟨rfl, HC⟩

end Go.Proofs.YtiiahnpgomdfmaaDoor.K
