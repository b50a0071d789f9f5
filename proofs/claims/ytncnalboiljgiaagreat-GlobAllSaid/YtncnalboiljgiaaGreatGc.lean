import Derived.Test.YtncnalboiljgiaaGreatKitSq
import Derived.Test.YtncnalboiljgiaaGreatGa
set_option linter.unusedVariables false
set_option linter.unusedSimpArgs false
set_option autoImplicit false
set_option maxRecDepth 20000
namespace Go.Proofs.YtncnalboiljgiaaGreat.K
open Go Go.Proofs Go.RowKit
theorem isB_step {p q s : Bytes} {i k : Nat} (h : k < s.length) : isB p q i (s.drop k) = (atB p q i (byte s k).toNat && isB p q (i + 1) (s.drop (k + 1))) := by
  rw [List.drop_eq_getElem_cons h, isB]
  have e : byte s k = s[k] := by unfold byte; simp [h]
  rw [e]
theorem isB_1 (p q : Bytes) (i : Nat) (c : UInt8) : isB p q i [c] = atB p q i c.toNat := by simp [isB]
theorem isB_2 (p q : Bytes) (i : Nat) (c d : UInt8) : isB p q i [c, d] = (atB p q i c.toNat && atB p q (i + 1) d.toNat) := by simp [isB]
theorem gplain_spec {p q : Bytes} {bt : Nat} {j : Int} {w : World} (hb : Blk w bt [S p, S q, .int .i64 j] 71) (i : Nat) : CallR Tryz.prog 52 #[.pointer (some ⟨bt, 0, none⟩), .int .i64 (i : Int)] w fun v w' => v = .bool (plB q i) ∧ Chg [] w w' := by
 refine callR_of_wp (args := [_, _]) Tryz.func52 rfl (Nat.le_of_ble_eq_true rfl) ?_
 have HC : Chg [] w w := .refl _
 refine sr rfl <| aB rfl <| en <| sr rfl <| mI rfl <| mP rfl <| nc rfl <| fa T.fld71_1 rfl <| lS T.one9 rfl (hb.cell rfl) <| Wp rfl <| st_slen (ct := #[9]) T.u9 rfl <| Wp rfl <| st_geq rfl rfl <| mB rfl <| w_split (d := 12) rfl (fun g1 => ?_) (fun g1 => ?_)
 ·try simp only [nm, ne_eq] at g1
  iterate 7 refine w_no 7 12 false ?_
  refine pT rfl rfl <| aB rfl <| en <| x_ret <| ret_tmp (v := .bool _) rfl rfl <| ⟨congrArg Value.bool ?_, HC⟩
  rw [Bool.eq_iff_iff]
  simp only [plB, Bool.or_eq_true, decide_eq_true_eq, Bool.not_eq_true', decide_eq_false_iff_not, ne_eq, true_iff, iff_true, Int.toNat_natCast]
  omega
 ·try simp only [nm, ne_eq] at g1
  refine w_yes 7 12 false <| st_move (v := .pointer _) rfl <| w_yes 7 12 false <| st_nilCheck rfl <| w_yes 7 12 false <| st_fieldAddr T.fld71_1 rfl <| w_yes 7 12 false <| st_load1 (v := S _) T.one9 rfl (hb.cell rfl) <| w_yes 7 12 false <| st_move (v := .int _ _) rfl <| w_yes 7 12 false <| st_sidx T.u9 rfl rfl (by omega) (by omega) <| w_yes 7 12 false <| st_neq rfl rfl <| pF rfl rfl <| aB rfl <| en <| x_ret <| ret_tmp (v := .bool _) rfl rfl <| ⟨congrArg Value.bool ?_, HC⟩
  rw [Bool.eq_iff_iff]
  simp only [plB, Bool.or_eq_true, decide_eq_true_eq, Bool.not_eq_true', decide_eq_false_iff_not, ne_eq, true_iff, iff_true, Int.toNat_natCast]
  omega
theorem gis_spec {p q : Bytes} {bt : Nat} {j : Nat} {w : World} (hb : Blk w bt [S p, S q, .int .i64 (j : Int)] 71) (b : Int) (s : Bytes) (m : Nat) (hm : (j : Int) + b = m) (hj : j ≤ 1000000000) (hm2 : m ≤ 1000000000) (hs : s.length ≤ 1000) : CallR Tryz.prog 34 #[.pointer (some ⟨bt, 0, none⟩), .int .i64 b, S s] w fun v w' => v = .bool (isB p q m s) ∧ Chg [] w w' := by
 refine callR_of_wp (args := [_, _, _]) Tryz.func34 rfl (Nat.le_of_ble_eq_true rfl) ?_
 have HC : Chg [] w w := .refl _
 refine sr rfl <| aB rfl <| en <| x_seq <| sr rfl <| mS rfl <| Wp rfl <| st_slen (ct := #[9]) T.u9 rfl <| mI rfl <| en <| x_block <| x_loop (ι := Nat) [6, 7, 8, 11, 12, 13, 14, 15, 16, 17, 18, 19, 20, 21, 22, 23, 24, 25, 26, 27, 28, 29, 30, 31, 32, 33, 34, 35, 36, 37, 38, 39, 40, 41, 42, 43, 44, 45, 46, 47] (fun k => [(11, .int .i64 (k : Int))]) (fun k W => (k ≤ s.length ∧ isB p q m s = isB p q (m + k) (s.drop k)) ∧ (Chg [] w W) ∧ (Blk W bt [S p, S q, .int .i64 (j : Int)] 71)) (fun k => s.length - k) 0 ?_ ?_ ?_
 · exact ⟨rfl, trivial⟩
 ·refine ⟨?_, HC, hb⟩
  exact ⟨Nat.zero_le _, rfl⟩
 intro k G2 w1 ⟨⟨hk, hk2⟩, HC, hb⟩
 change wp _ _ _ _ _ (upds (over _ _ G2) [(11, .int .i64 (k : Int))]) _ _
 refine sr rfl <| Wp rfl <| st_lss rfl rfl <| en <| x_seq <| x_cond rfl (fun h0 => ?_) (fun h0 => ?_)
 ·try simp only [nm, ne_eq] at h0
  have hkl : k < s.length := by omega
  refine x_skip <| then_n <| x_seq <| x_block <| sr rfl <| mI rfl <| aI rfl <| en <| sr rfl <| mP rfl <| nc rfl <| fa T.fld71_2 rfl <| lI T.one3 rfl (hb.cell rfl) <| mI rfl <| Wp rfl <| st_addn rfl rfl (by constructor <;> omega) <| mI rfl <| Wp rfl <| st_addn rfl rfl (by constructor <;> omega) <| av (v := .int .i64 ((m + k : Nat) : Int)) (congrArg (Value.int .i64) (show _ = ((m + k : Nat) : Int) by omega)) <| en <| x_seq <| x_draw [(0, 0), (1, 0), (2, 0), (3, 0), (4, 0), (5, 0), (6, 0), (7, 0), (8, 0), (9, 0), (10, 0), (11, 0), (12, 0), (13, 0), (14, 0), (15, 0), (16, 0), (17, 0), (18, 0), (19, 0), (20, 0), (21, 0), (22, 1), (23, 0), (24, 0)] T.mixed rfl rfl rfl (fun W => W.heap[bt]? = w1.heap[bt]? ∧ True) ⟨rfl, trivial⟩ ?_
  have o5 := hb
  have c4 := Chg.drew w1
  generalize World.drew w1 = w3 at c4 ⊢
  replace HC := HC.then c4
  replace hb := hb.tr0 c4
  refine sq_q rfl (fun W hT => r_move (v := .int _ _) rfl) <| sq_q rfl (fun W hT => r_move (v := .pointer _) rfl) <| sq_q rfl (fun W hT => r_nilCheck rfl) <| sq_q rfl (fun W hT => r_fieldAddr T.fld71_0 rfl) <| sq_q rfl (fun W hT => r_load1 (v := S _) T.one9 rfl (Blk.cell (show Blk W bt _ _ from hT.1.trans o5) rfl)) <| sq_q rfl (fun W hT => r_slen (ct := #[9]) T.u9 rfl) <| sq_q rfl (fun W hT => r_geq rfl rfl) <| sq_q rfl (fun W hT => r_move (v := .bool _) rfl) <| sq_split (d := 29) rfl (fun g6 => ?_) (fun g6 => ?_)
  ·try simp only [nm, ne_eq] at g6
   refine sq_no rfl rfl <| sq_no rfl rfl <| sq_no rfl rfl <| sq_no rfl rfl <| sq_no rfl rfl <| sq_no rfl rfl <| sq_no rfl rfl <| sq_no rfl rfl <| sq_no rfl rfl <| sq_no rfl rfl <| sq_q rfl (fun W hT => r_pick (b := true) (v := .bool _) rfl rfl) <| sq_q rfl (fun W hT => r_move (v := .bool _) rfl) <| sq_no rfl rfl <| sq_no rfl rfl <| sq_no rfl rfl <| sq_no rfl rfl <| sq_q rfl (fun W hT => r_pick (b := true) (v := .bool _) rfl rfl) ?_
   clear o5
   refine sq_nil <| then_n <| x_cond (t := true) rfl (fun h1 => ?_) (fun h1 => ?_)
   rotate_left
   · exact absurd h1 (by decide)
   have hat : atB p q (m + k) (byte s k).toNat = false := by unfold atB; first | (rw [decide_eq_false (show ¬ m + k < p.length by omega)]; rfl) | (rw [decide_eq_false (show ¬ (byte p (m + k)).toNat = (byte s k).toNat by (try simp only [Int.toNat_natCast] at *); omega)]; simp; done) | (rw [show plB q (m + k) = false by first | assumption | simpa using h1]; simp; done)
   refine sr rfl <| aB rfl <| en <| x_ret <| block_r <| then_r <| then_r <| block_r <| then_r <| ret_tmp (v := .bool _) rfl rfl <| ⟨?_, HC⟩
   first | (rw [hk2, isB_step hkl, hat]; rfl; done) | (rw [hk2, hke, List.drop_length]; rfl)
  ·try simp only [nm, ne_eq] at g6
   refine sq_q rfl (fun W hT => r_move (v := .pointer _) rfl) <| sq_q rfl (fun W hT => r_nilCheck rfl) <| sq_q rfl (fun W hT => r_fieldAddr T.fld71_0 rfl) <| sq_q rfl (fun W hT => r_load1 (v := S _) T.one9 rfl (Blk.cell (show Blk W bt _ _ from hT.1.trans o5) rfl)) <| sq_q rfl (fun W hT => r_move (v := .int _ _) rfl) <| sq_q rfl (fun W hT => r_sidx T.u9 rfl rfl (by omega) (by omega)) <| sq_q rfl (fun W hT => r_move (v := S _) rfl) <| sq_q rfl (fun W hT => r_move (v := .int _ _) rfl) <| sq_q rfl (fun W hT => r_sidx T.u9 rfl rfl (by omega) (by omega)) <| sq_q rfl (fun W hT => r_neq rfl rfl) <| sq_q rfl (fun W hT => r_pick (b := false) (v := .bool _) rfl rfl) <| sq_q rfl (fun W hT => r_move (v := .bool _) rfl) <| sq_split (d := 41) rfl (fun g7 => ?_) (fun g7 => ?_)
   ·try simp only [nm, ne_eq] at g7
    refine sq_no rfl rfl <| sq_no rfl rfl <| sq_no rfl rfl <| sq_no rfl rfl <| sq_q rfl (fun W hT => r_pick (b := true) (v := .bool _) rfl rfl) ?_
    clear o5
    refine sq_nil <| then_n <| x_cond (t := true) rfl (fun h1 => ?_) (fun h1 => ?_)
    rotate_left
    · exact absurd h1 (by decide)
    have hat : atB p q (m + k) (byte s k).toNat = false := by unfold atB; first | (rw [decide_eq_false (show ¬ m + k < p.length by omega)]; rfl) | (rw [decide_eq_false (show ¬ (byte p (m + k)).toNat = (byte s k).toNat by (try simp only [Int.toNat_natCast] at *); omega)]; simp; done) | (rw [show plB q (m + k) = false by first | assumption | simpa using h1]; simp; done)
    refine sr rfl <| aB rfl <| en <| x_ret <| block_r <| then_r <| then_r <| block_r <| then_r <| ret_tmp (v := .bool _) rfl rfl <| ⟨?_, HC⟩
    first | (rw [hk2, isB_step hkl, hat]; rfl; done) | (rw [hk2, hke, List.drop_length]; rfl)
   ·try simp only [nm, ne_eq] at g7
    refine sq_q rfl (fun W hT => r_move (v := .pointer _) rfl) <| sq_q rfl (fun W hT => r_move (v := .int _ _) rfl) <| sq_call1 rfl (r_call (ags := [_, _]) rfl rfl T.ent52 rfl) (gplain_spec hb (m + k)) ?_
    rintro _ w8 ⟨rfl, c9⟩
    replace HC := HC.then c9
    replace hb := hb.tr0 c9
    refine ⟨_, fun _ h => h, ⟨(Eq.trans hb o5.symm), trivial⟩, ?_⟩
    refine sq_q rfl (fun W hT => r_not rfl) <| sq_q rfl (fun W hT => r_pick (b := false) (v := .bool _) rfl rfl) ?_
    clear o5
    refine sq_nil <| then_n <| x_cond rfl (fun h1 => ?_) (fun h1 => ?_)
    ·try simp only [nm, ne_eq] at h1
     have hat : atB p q (m + k) (byte s k).toNat = false := by unfold atB; first | (rw [decide_eq_false (show ¬ m + k < p.length by omega)]; rfl) | (rw [decide_eq_false (show ¬ (byte p (m + k)).toNat = (byte s k).toNat by (try simp only [Int.toNat_natCast] at *); omega)]; simp; done) | (rw [show plB q (m + k) = false by first | assumption | simpa using h1]; simp; done)
     refine sr rfl <| aB rfl <| en <| x_ret <| block_r <| then_r <| then_r <| block_r <| then_r <| ret_tmp (v := .bool _) rfl rfl <| ⟨?_, HC⟩
     first | (rw [hk2, isB_step hkl, hat]; rfl; done) | (rw [hk2, hke, List.drop_length]; rfl)
    ·try simp only [nm, ne_eq] at h1
     have hat : atB p q (m + k) (byte s k).toNat = true := by unfold atB; rw [decide_eq_true (show m + k < p.length by omega), decide_eq_true (show (byte p (m + k)).toNat = (byte s k).toNat by (try simp only [Int.toNat_natCast] at *); omega), show plB q (m + k) = true by first | assumption | simpa using h1]; rfl
     refine x_skip <| block_n <| then_n <| x_region rfl <| Wp rfl <| st_addn rfl rfl (by constructor <;> omega) <| mI rfl <| en <| ⟨k + 1, ?_, ?_, rfl, ⟨rfl, trivial⟩, ?_⟩
     ·refine ⟨?_, HC, hb⟩
      exact ⟨by omega, by rw [hk2, isB_step hkl, hat]; rfl⟩
     ·show s.length - (k + 1) < s.length - k; omega
     exact q9
 ·try simp only [nm, ne_eq] at h0
  have hke : k = s.length := by omega
  refine x_exit <| then_x <| then_x <| block_x <| then_n <| sr rfl <| aB rfl <| en <| x_ret <| ret_tmp (v := .bool _) rfl rfl <| ⟨?_, HC⟩
  first | (rw [hk2, isB_step hkl, hat]; rfl; done) | (rw [hk2, hke, List.drop_length]; rfl)
def mbE : Enc Mem := .flat 3 (fun m => [.int .u8 (m.lo : Int), .int .u8 (m.hi : Int), S m.cls]) (by omega) (fun _ => rfl) (fun _ u hu => by simp at hu; rcases hu with rfl | rfl | rfl <;> rfl)
def mbC (m : Mem) : List Value := [.int .u8 (m.lo : Int), .int .u8 (m.hi : Int), S m.cls]
def clsM : Option (Bytes × Nat) → Mem
  | none => ⟨0, 0, []⟩
  | some r => ⟨1, 0, r.1⟩
def clsN (i : Nat) : Option (Bytes × Nat) → Nat
  | none => i
  | some r => r.2
theorem clsV_none {p q : Bytes} {i : Nat} (h : (atB p q i 91 && atB p q (i + 1) 58) = false) : clsV p q i = none := by unfold clsV; rw [h]; rfl
theorem clsV_none2 {p q : Bytes} {i : Nat} (h : (atB p q (clE p q i) 58 && atB p q (clE p q i + 1) 93) = false) : clsV p q i = none := by unfold clsV; rw [h]; split <;> rfl
theorem clsV_some {p q : Bytes} {i : Nat} (h : (atB p q i 91 && atB p q (i + 1) 58) = true) (h2 : (atB p q (clE p q i) 58 && atB p q (clE p q i + 1) 93) = true) : clsV p q i = some ((p.take (clE p q i)).drop (i + 2), clE p q i + 2) := by unfold clsV; rw [if_pos h, if_pos h2]
theorem gcls_spec {p q : Bytes} {bt i : Nat} {w : World} (hb : Blk w bt [S p, S q, .int .i64 (i : Int)] 71) (hp : p.length ≤ 100000000) (hi : i ≤ p.length) : CallR Tryz.prog 135 #[.pointer (some ⟨bt, 0, none⟩)] w fun v w' => (v = .tuple ⟨[.agg ⟨mbC (clsM (clsV p q i))⟩, .bool (clsV p q i).isSome]⟩ ∧ Blk w' bt [S p, S q, .int .i64 (clsN i (clsV p q i) : Int)] 71) ∧ Chg [bt] w w' := by
 refine callR_of_wp (args := [_]) Tryz.func135 rfl (Nat.le_of_ble_eq_true rfl) ?_
 have HC : Chg [bt] w w := .refl _
 refine sr rfl <| Wp rfl <| st_alloc T.zero178 ?_
 intro b2 w1 e2 c3 hb4
 have ge_b2 := gB e2 HC.size
 have ne_bt_b2 := nF e2 hb.ne_size
 replace HC := HC.then c3
 replace hb := hb.tr0 c3
 clear e2
 refine aB rfl <| en <| x_seq <| sr rfl <| mP rfl <| Wp rfl <| st_call (ags := [_, _, _]) rfl rfl T.ent34 rfl (gis_spec hb 0 [91, 58] i (by omega) (by omega) (by omega) (by simp)) ?_
 rintro _ w5 ⟨rfl, c6⟩
 replace HC := HC.then c6
 replace hb := hb.tr0 c6
 replace hb4 := hb4.tr0 c6
 refine Wp rfl <| st_not rfl <| en <| x_cond rfl (fun h0 => ?_) (fun h0 => ?_)
 ·try simp only [nm, ne_eq] at h0
  rw [isB_2] at h0
  have hcl0 : (atB p q i 91 && atB p q (i + 1) 58) = false := h0
  refine sr rfl <| Wp rfl <| st_bld (ps := []) (vs := [.int _ _, .int _ _, S _]) T.bld178 rfl <| Wp rfl <| st_st (v := .agg ⟨[_, _, _]⟩) T.size178 rfl rfl rfl hb4 ?_
  intro w7 c8 hb9; simp only [setVs, setV] at hb9
  clear hb4
  replace HC := HC.then1 c8 ge_b2
  replace hb := hb.tr1 c8 ne_bt_b2
  refine aB rfl <| en <| x_ret <| then_r <| ret_many (vs := [.agg ⟨[_, _, _]⟩, .bool _]) rfl ⟨⟨_, _, rfl, run_loadVarA T.agg178 (hb9.cells (n := 3) rfl) rfl⟩, ⟨rfl, trivial⟩⟩ (Nat.le_of_ble_eq_true rfl) ?_
  rw [clsV_none hcl0]
  exact ⟨⟨rfl, hb⟩, HC⟩
 ·try simp only [nm, ne_eq] at h0
  rw [isB_2] at h0
  have hcl0 : (atB p q i 91 && atB p q (i + 1) 58) = true := h0
  have hil : i + 1 < p.length := atB_lt (by rw [Bool.and_eq_true] at hcl0; exact hcl0.2)
  refine x_skip <| then_n <| sr rfl <| mP rfl <| nc rfl <| fa T.fld71_2 rfl <| lI T.one3 rfl (hb.cell rfl) <| Wp rfl <| st_addn rfl rfl (by constructor <;> omega) <| aI rfl <| en <| x_seq <| x_block <| x_loop (ι := Nat) [4, 15, 16, 17, 18, 19, 20, 21, 22, 23, 24, 25, 26, 27, 28, 29, 30, 31, 32, 33, 34, 35, 36, 37, 38, 39, 40, 41, 42, 43, 44, 45, 46] (fun k => [(4, .int .i64 (k : Int))]) (fun k W => (i + 2 ≤ k ∧ k ≤ p.length ∧ clE p q i = k + loRun p q (p.length - k) k) ∧ (Chg [bt] w W) ∧ (Blk W bt [S p, S q, .int .i64 (i : Int)] 71) ∧ (Blk W b2 [.int .u8 0, .int .u8 0, S []] 178)) (fun k => p.length - k) (i + 2) ?_ ?_ ?_
  · exact ⟨congrArg (Value.int .i64) (by omega), trivial⟩
  ·refine ⟨?_, HC, hb, hb4⟩
   exact ⟨Nat.le_refl _, by omega, rfl⟩
  intro k G11 w10 ⟨⟨hk0, hk1, hk2⟩, HC, hb, hb4⟩
  change wp _ _ _ _ _ (upds (over _ _ G11) [(4, .int .i64 (k : Int))]) _ _
  refine x_seq <| sr rfl <| mI rfl <| mP rfl <| nc rfl <| fa T.fld71_0 rfl <| lS T.one9 rfl (hb.cell rfl) <| Wp rfl <| st_slen (ct := #[9]) T.u9 rfl <| Wp rfl <| st_lss rfl rfl <| mB rfl <| w_split (d := 22) rfl (fun g12 => ?_) (fun g12 => ?_)
  ·try simp only [nm, ne_eq] at g12
   refine w_yes 7 22 true <| st_move (v := .pointer _) rfl <| w_yes 7 22 true <| st_move (v := .int _ _) rfl <| w_yes 7 22 true <| st_call (ags := [_, _]) rfl rfl T.ent52 rfl (gplain_spec hb k) ?_
   rintro _ w13 ⟨rfl, c14⟩
   replace HC := HC.then c14
   replace hb := hb.tr0 c14
   replace hb4 := hb4.tr0 c14
   refine pT rfl rfl <| mB rfl <| w_split (d := 27) rfl (fun g15 => ?_) (fun g15 => ?_)
   ·try simp only [nm, ne_eq] at g15
    refine w_yes 12 27 true <| st_move (v := .pointer _) rfl <| w_yes 12 27 true <| st_nilCheck rfl <| w_yes 12 27 true <| st_fieldAddr T.fld71_0 rfl <| w_yes 12 27 true <| st_load1 (v := S _) T.one9 rfl (hb.cell rfl) <| w_yes 12 27 true <| st_move (v := .int _ _) rfl <| w_yes 12 27 true <| st_sidx T.u9 rfl rfl (by omega) (by omega) <| w_yes 12 27 true <| st_leq rfl rfl <| pT rfl rfl <| mB rfl <| w_split (d := 36) rfl (fun g16 => ?_) (fun g16 => ?_)
    ·try simp only [nm, ne_eq] at g16
     refine w_yes 21 36 true <| st_move (v := .pointer _) rfl <| w_yes 21 36 true <| st_nilCheck rfl <| w_yes 21 36 true <| st_fieldAddr T.fld71_0 rfl <| w_yes 21 36 true <| st_load1 (v := S _) T.one9 rfl (hb.cell rfl) <| w_yes 21 36 true <| st_move (v := .int _ _) rfl <| w_yes 21 36 true <| st_sidx T.u9 rfl rfl (by omega) (by omega) <| w_yes 21 36 true <| st_leq rfl rfl <| pT rfl rfl <| en <| x_cond rfl (fun h1 => ?_) (fun h1 => ?_)
     ·try simp only [nm, ne_eq] at h1
      have hlo : loRun p q (p.length - k) k = loRun p q (p.length - (k + 1)) (k + 1) + 1 := loRun_on (by omega) (by assumption) (by unfold clB; rw [decide_eq_true (show 97 ≤ (byte p k).toNat by (try simp only [Int.toNat_natCast] at *); omega), decide_eq_true (show (byte p k).toNat ≤ 122 by (try simp only [Int.toNat_natCast] at *); omega)]; rfl)
      refine x_skip <| then_n <| x_block <| x_region rfl <| mI rfl <| Wp rfl <| st_addn rfl rfl (by constructor <;> omega) <| aI rfl <| wops_nil <| block_n <| then_n <| ⟨k + 1, ?_, ?_, rfl, ⟨rfl, trivial⟩, ?_⟩
      ·refine ⟨?_, HC, hb, hb4⟩
       exact ⟨by omega, by omega, by rw [hk2, hlo]; omega⟩
      ·show p.length - (k + 1) < p.length - k; omega
      exact q9
     ·try simp only [nm, ne_eq] at h1
      have hlo : loRun p q (p.length - k) k = 0 := loRun_off (fun ⟨h7, h8, h9⟩ => by unfold clB at h9; simp only [Bool.and_eq_true, decide_eq_true_eq] at *; (try simp only [Int.toNat_natCast] at *); first | omega | simp_all)
      have hke : clE p q i = k := by rw [hk2, hlo]; rfl
      refine x_exit <| then_x <| then_x <| block_x <| then_n <| x_seq <| sr rfl <| mP rfl <| mI rfl <| mP rfl <| nc rfl <| fa T.fld71_2 rfl <| lI T.one3 rfl (hb.cell rfl) <| Wp rfl <| st_subn rfl rfl (by constructor <;> omega) <| Wp rfl <| st_call (ags := [_, _, _]) rfl rfl T.ent34 rfl (gis_spec hb ((k : Int) - (i : Int)) [58, 93] k (by omega) (by omega) (by omega) (by simp)) ?_
      rintro _ w17 ⟨rfl, c18⟩
      replace HC := HC.then c18
      replace hb := hb.tr0 c18
      replace hb4 := hb4.tr0 c18
      refine Wp rfl <| st_not rfl <| en <| x_cond rfl (fun h2 => ?_) (fun h2 => ?_)
      ·try simp only [nm, ne_eq] at h2
       rw [isB_2] at h2
       have hcl1 : (atB p q (clE p q i) 58 && atB p q (clE p q i + 1) 93) = false := by rw [hke]; exact h2
       refine sr rfl <| Wp rfl <| st_bld (ps := []) (vs := [.int _ _, .int _ _, S _]) T.bld178 rfl <| Wp rfl <| st_st (v := .agg ⟨[_, _, _]⟩) T.size178 rfl rfl rfl hb4 ?_
       intro w19 c20 hb21; simp only [setVs, setV] at hb21
       clear hb4
       replace HC := HC.then1 c20 ge_b2
       replace hb := hb.tr1 c20 ne_bt_b2
       refine aB rfl <| en <| x_ret <| then_r <| ret_many (vs := [.agg ⟨[_, _, _]⟩, .bool _]) rfl ⟨⟨_, _, rfl, run_loadVarA T.agg178 (hb21.cells (n := 3) rfl) rfl⟩, ⟨rfl, trivial⟩⟩ (Nat.le_of_ble_eq_true rfl) ?_
       rw [clsV_none2 hcl1]
       exact ⟨⟨rfl, hb⟩, HC⟩
      ·try simp only [nm, ne_eq] at h2
       rw [isB_2] at h2
       have hcl1 : (atB p q (clE p q i) 58 && atB p q (clE p q i + 1) 93) = true := by rw [hke]; exact h2
       have hk3 : k + 1 < p.length := atB_lt (by rw [Bool.and_eq_true] at h2; exact h2.2)
       refine x_skip <| then_n <| x_seq <| x_draw [(0, 0), (1, 0), (2, 0), (3, 0), (4, 0), (5, 0), (6, 0), (7, 0), (8, 0), (9, 0), (10, 0), (11, 0), (12, 1), (13, 2)] T.mixed rfl rfl rfl (fun W => W.heap[bt]? = w17.heap[bt]? ∧ W.heap[b2]? = w17.heap[b2]? ∧ True) ⟨rfl, rfl, trivial⟩ ?_
       have o24 := hb
       have o25 := hb4
       have c23 := Chg.drew w17
       generalize World.drew w17 = w22 at c23 ⊢
       replace HC := HC.then c23
       replace hb := hb.tr0 c23
       replace hb4 := hb4.tr0 c23
       refine sq_q rfl (fun W hT => r_move (v := .pointer _) rfl) <| sq_q rfl (fun W hT => r_nilCheck rfl) <| sq_q rfl (fun W hT => r_fieldAddr T.fld71_0 rfl) <| sq_q rfl (fun W hT => r_load1 (v := S _) T.one9 rfl (Blk.cell (show Blk W bt _ _ from hT.1.trans o24) rfl)) <| sq_q rfl (fun W hT => r_move (v := .pointer _) rfl) <| sq_q rfl (fun W hT => r_nilCheck rfl) <| sq_q rfl (fun W hT => r_fieldAddr T.fld71_2 rfl) <| sq_q rfl (fun W hT => r_load1 (v := .int _ _) T.one3 rfl (Blk.cell (show Blk W bt _ _ from hT.1.trans o24) rfl)) <| sq_q rfl (fun W hT => r_addn rfl rfl (by constructor <;> omega)) <| sq_q rfl (fun W hT => r_move (v := .int _ _) rfl) <| sq_q rfl (fun W hT => r_sslice (i := (i + 2)) (j := k) T.u9 rfl ⟨_, rfl⟩ ⟨_, rfl⟩ (by omega) (by omega)) <| sq_q rfl (fun W hT => r_bld (ps := [(2, .tmp 67), (0, .const (.int .u8 1))]) (vs := [.int _ _, .int _ _, S _]) T.bld178 rfl) <| sq_alloc1 rfl T.zero178 ?_
       intro b26 w27 e28 c29 hb30
       have ge_b26 := gB e28 HC.size
       have ne_bt_b26 := nF e28 hb.ne_size
       have ne_b2_b26 := nF e28 hb4.ne_size
       replace HC := HC.then c29
       replace hb := hb.tr0 c29
       replace hb4 := hb4.tr0 c29
       clear e28
       refine ext_T (b := b26) ⟨(Eq.trans hb o24.symm), (Eq.trans hb4 o25.symm), trivial⟩ ?_
       have o31 := hb30
       refine sq_store2 rfl T.size178 (v := .agg ⟨[.int _ _, .int _ _, S _]⟩) rfl rfl rfl hb30 rfl (Nat.le_of_ble_eq_true rfl) q5 rfl ?_
       intro w32 c33 hb34; simp only [setVs, setV] at hb34
       clear hb30
       replace HC := HC.then1 c33 ge_b26
       replace hb := hb.tr1 c33 ne_bt_b26
       replace hb4 := hb4.tr1 c33 ne_b2_b26
       clear o24
       clear o25
       clear o31
       refine sq_nil <| then_n <| sr rfl <| mP rfl <| mI rfl <| Wp rfl <| st_addn rfl rfl (by constructor <;> omega) <| nc rfl <| fa T.fld71_2 rfl <| Wp rfl <| st_st (v := .int _ _) T.size3 rfl rfl rfl hb ?_
       intro w35 c36 hb37; simp only [setVs, setV] at hb37
       clear hb
       replace HC := HC.trans c36 q4
       replace hb4 := hb4.tr1 c36 (Ne.symm ne_bt_b2)
       replace hb34 := hb34.tr1 c36 (Ne.symm ne_bt_b26)
       refine en <| sr rfl <| Wp rfl <| st_loadA (vs := [_, _, _]) T.agg178 rfl (hb34.cells (n := 3) (vs := [_, _, _]) rfl) rfl <| Wp rfl <| st_st (v := .agg ⟨[_, _, _]⟩) T.size178 rfl rfl rfl hb4 ?_
       intro w38 c39 hb40; simp only [setVs, setV] at hb40
       clear hb4
       replace HC := HC.then1 c39 ge_b2
       replace hb37 := hb37.tr1 c39 ne_bt_b2
       refine aB rfl <| en <| x_ret <| ret_many (vs := [.agg ⟨[_, _, _]⟩, .bool _]) rfl ⟨⟨_, _, rfl, run_loadVarA T.agg178 (hb40.cells (n := 3) rfl) rfl⟩, ⟨rfl, trivial⟩⟩ (Nat.le_of_ble_eq_true rfl) ?_
       rw [clsV_some hcl0 hcl1]
       rw [hke]
       exact ⟨⟨rfl, hb37⟩, HC⟩
    ·try simp only [nm, ne_eq] at g16
     iterate 7 refine w_no 21 36 true ?_
     refine pF rfl rfl <| en <| x_cond (t := false) rfl (fun h1 => ?_) (fun h1 => ?_)
     · exact absurd h1 (by decide)
     have hlo : loRun p q (p.length - k) k = 0 := loRun_off (fun ⟨h7, h8, h9⟩ => by unfold clB at h9; simp only [Bool.and_eq_true, decide_eq_true_eq] at *; (try simp only [Int.toNat_natCast] at *); first | omega | simp_all)
     have hke : clE p q i = k := by rw [hk2, hlo]; rfl
     refine x_exit <| then_x <| then_x <| block_x <| then_n <| x_seq <| sr rfl <| mP rfl <| mI rfl <| mP rfl <| nc rfl <| fa T.fld71_2 rfl <| lI T.one3 rfl (hb.cell rfl) <| Wp rfl <| st_subn rfl rfl (by constructor <;> omega) <| Wp rfl <| st_call (ags := [_, _, _]) rfl rfl T.ent34 rfl (gis_spec hb ((k : Int) - (i : Int)) [58, 93] k (by omega) (by omega) (by omega) (by simp)) ?_
     rintro _ w41 ⟨rfl, c42⟩
     replace HC := HC.then c42
     replace hb := hb.tr0 c42
     replace hb4 := hb4.tr0 c42
     refine Wp rfl <| st_not rfl <| en <| x_cond rfl (fun h2 => ?_) (fun h2 => ?_)
     ·try simp only [nm, ne_eq] at h2
      rw [isB_2] at h2
      have hcl1 : (atB p q (clE p q i) 58 && atB p q (clE p q i + 1) 93) = false := by rw [hke]; exact h2
      refine sr rfl <| Wp rfl <| st_bld (ps := []) (vs := [.int _ _, .int _ _, S _]) T.bld178 rfl <| Wp rfl <| st_st (v := .agg ⟨[_, _, _]⟩) T.size178 rfl rfl rfl hb4 ?_
      intro w43 c44 hb45; simp only [setVs, setV] at hb45
      clear hb4
      replace HC := HC.then1 c44 ge_b2
      replace hb := hb.tr1 c44 ne_bt_b2
      refine aB rfl <| en <| x_ret <| then_r <| ret_many (vs := [.agg ⟨[_, _, _]⟩, .bool _]) rfl ⟨⟨_, _, rfl, run_loadVarA T.agg178 (hb45.cells (n := 3) rfl) rfl⟩, ⟨rfl, trivial⟩⟩ (Nat.le_of_ble_eq_true rfl) ?_
      rw [clsV_none2 hcl1]
      exact ⟨⟨rfl, hb⟩, HC⟩
     ·try simp only [nm, ne_eq] at h2
      rw [isB_2] at h2
      have hcl1 : (atB p q (clE p q i) 58 && atB p q (clE p q i + 1) 93) = true := by rw [hke]; exact h2
      have hk3 : k + 1 < p.length := atB_lt (by rw [Bool.and_eq_true] at h2; exact h2.2)
      refine x_skip <| then_n <| x_seq <| x_draw [(0, 0), (1, 0), (2, 0), (3, 0), (4, 0), (5, 0), (6, 0), (7, 0), (8, 0), (9, 0), (10, 0), (11, 0), (12, 1), (13, 2)] T.mixed rfl rfl rfl (fun W => W.heap[bt]? = w41.heap[bt]? ∧ W.heap[b2]? = w41.heap[b2]? ∧ True) ⟨rfl, rfl, trivial⟩ ?_
      have o48 := hb
      have o49 := hb4
      have c47 := Chg.drew w41
      generalize World.drew w41 = w46 at c47 ⊢
      replace HC := HC.then c47
      replace hb := hb.tr0 c47
      replace hb4 := hb4.tr0 c47
      refine sq_q rfl (fun W hT => r_move (v := .pointer _) rfl) <| sq_q rfl (fun W hT => r_nilCheck rfl) <| sq_q rfl (fun W hT => r_fieldAddr T.fld71_0 rfl) <| sq_q rfl (fun W hT => r_load1 (v := S _) T.one9 rfl (Blk.cell (show Blk W bt _ _ from hT.1.trans o48) rfl)) <| sq_q rfl (fun W hT => r_move (v := .pointer _) rfl) <| sq_q rfl (fun W hT => r_nilCheck rfl) <| sq_q rfl (fun W hT => r_fieldAddr T.fld71_2 rfl) <| sq_q rfl (fun W hT => r_load1 (v := .int _ _) T.one3 rfl (Blk.cell (show Blk W bt _ _ from hT.1.trans o48) rfl)) <| sq_q rfl (fun W hT => r_addn rfl rfl (by constructor <;> omega)) <| sq_q rfl (fun W hT => r_move (v := .int _ _) rfl) <| sq_q rfl (fun W hT => r_sslice (i := (i + 2)) (j := k) T.u9 rfl ⟨_, rfl⟩ ⟨_, rfl⟩ (by omega) (by omega)) <| sq_q rfl (fun W hT => r_bld (ps := [(2, .tmp 67), (0, .const (.int .u8 1))]) (vs := [.int _ _, .int _ _, S _]) T.bld178 rfl) <| sq_alloc1 rfl T.zero178 ?_
      intro b50 w51 e52 c53 hb54
      have ge_b50 := gB e52 HC.size
      have ne_bt_b50 := nF e52 hb.ne_size
      have ne_b2_b50 := nF e52 hb4.ne_size
      replace HC := HC.then c53
      replace hb := hb.tr0 c53
      replace hb4 := hb4.tr0 c53
      clear e52
      refine ext_T (b := b50) ⟨(Eq.trans hb o48.symm), (Eq.trans hb4 o49.symm), trivial⟩ ?_
      have o55 := hb54
      refine sq_store2 rfl T.size178 (v := .agg ⟨[.int _ _, .int _ _, S _]⟩) rfl rfl rfl hb54 rfl (Nat.le_of_ble_eq_true rfl) q5 rfl ?_
      intro w56 c57 hb58; simp only [setVs, setV] at hb58
      clear hb54
      replace HC := HC.then1 c57 ge_b50
      replace hb := hb.tr1 c57 ne_bt_b50
      replace hb4 := hb4.tr1 c57 ne_b2_b50
      clear o48
      clear o49
      clear o55
      refine sq_nil <| then_n <| sr rfl <| mP rfl <| mI rfl <| Wp rfl <| st_addn rfl rfl (by constructor <;> omega) <| nc rfl <| fa T.fld71_2 rfl <| Wp rfl <| st_st (v := .int _ _) T.size3 rfl rfl rfl hb ?_
      intro w59 c60 hb61; simp only [setVs, setV] at hb61
      clear hb
      replace HC := HC.trans c60 q4
      replace hb4 := hb4.tr1 c60 (Ne.symm ne_bt_b2)
      replace hb58 := hb58.tr1 c60 (Ne.symm ne_bt_b50)
      refine en <| sr rfl <| Wp rfl <| st_loadA (vs := [_, _, _]) T.agg178 rfl (hb58.cells (n := 3) (vs := [_, _, _]) rfl) rfl <| Wp rfl <| st_st (v := .agg ⟨[_, _, _]⟩) T.size178 rfl rfl rfl hb4 ?_
      intro w62 c63 hb64; simp only [setVs, setV] at hb64
      clear hb4
      replace HC := HC.then1 c63 ge_b2
      replace hb61 := hb61.tr1 c63 ne_bt_b2
      refine aB rfl <| en <| x_ret <| ret_many (vs := [.agg ⟨[_, _, _]⟩, .bool _]) rfl ⟨⟨_, _, rfl, run_loadVarA T.agg178 (hb64.cells (n := 3) rfl) rfl⟩, ⟨rfl, trivial⟩⟩ (Nat.le_of_ble_eq_true rfl) ?_
      rw [clsV_some hcl0 hcl1]
      rw [hke]
      exact ⟨⟨rfl, hb61⟩, HC⟩
   ·try simp only [nm, ne_eq] at g15
    iterate 7 refine w_no 12 27 true ?_
    refine pF rfl rfl <| mB rfl ?_
    iterate 7 refine w_no 21 36 true ?_
    refine pF rfl rfl <| en <| x_cond (t := false) rfl (fun h1 => ?_) (fun h1 => ?_)
    · exact absurd h1 (by decide)
    have hlo : loRun p q (p.length - k) k = 0 := loRun_off (fun ⟨h7, h8, h9⟩ => by unfold clB at h9; simp only [Bool.and_eq_true, decide_eq_true_eq] at *; (try simp only [Int.toNat_natCast] at *); first | omega | simp_all)
    have hke : clE p q i = k := by rw [hk2, hlo]; rfl
    refine x_exit <| then_x <| then_x <| block_x <| then_n <| x_seq <| sr rfl <| mP rfl <| mI rfl <| mP rfl <| nc rfl <| fa T.fld71_2 rfl <| lI T.one3 rfl (hb.cell rfl) <| Wp rfl <| st_subn rfl rfl (by constructor <;> omega) <| Wp rfl <| st_call (ags := [_, _, _]) rfl rfl T.ent34 rfl (gis_spec hb ((k : Int) - (i : Int)) [58, 93] k (by omega) (by omega) (by omega) (by simp)) ?_
    rintro _ w65 ⟨rfl, c66⟩
    replace HC := HC.then c66
    replace hb := hb.tr0 c66
    replace hb4 := hb4.tr0 c66
    refine Wp rfl <| st_not rfl <| en <| x_cond rfl (fun h2 => ?_) (fun h2 => ?_)
    ·try simp only [nm, ne_eq] at h2
     rw [isB_2] at h2
     have hcl1 : (atB p q (clE p q i) 58 && atB p q (clE p q i + 1) 93) = false := by rw [hke]; exact h2
     refine sr rfl <| Wp rfl <| st_bld (ps := []) (vs := [.int _ _, .int _ _, S _]) T.bld178 rfl <| Wp rfl <| st_st (v := .agg ⟨[_, _, _]⟩) T.size178 rfl rfl rfl hb4 ?_
     intro w67 c68 hb69; simp only [setVs, setV] at hb69
     clear hb4
     replace HC := HC.then1 c68 ge_b2
     replace hb := hb.tr1 c68 ne_bt_b2
     refine aB rfl <| en <| x_ret <| then_r <| ret_many (vs := [.agg ⟨[_, _, _]⟩, .bool _]) rfl ⟨⟨_, _, rfl, run_loadVarA T.agg178 (hb69.cells (n := 3) rfl) rfl⟩, ⟨rfl, trivial⟩⟩ (Nat.le_of_ble_eq_true rfl) ?_
     rw [clsV_none2 hcl1]
     exact ⟨⟨rfl, hb⟩, HC⟩
    ·try simp only [nm, ne_eq] at h2
     rw [isB_2] at h2
     have hcl1 : (atB p q (clE p q i) 58 && atB p q (clE p q i + 1) 93) = true := by rw [hke]; exact h2
     have hk3 : k + 1 < p.length := atB_lt (by rw [Bool.and_eq_true] at h2; exact h2.2)
     refine x_skip <| then_n <| x_seq <| x_draw [(0, 0), (1, 0), (2, 0), (3, 0), (4, 0), (5, 0), (6, 0), (7, 0), (8, 0), (9, 0), (10, 0), (11, 0), (12, 1), (13, 2)] T.mixed rfl rfl rfl (fun W => W.heap[bt]? = w65.heap[bt]? ∧ W.heap[b2]? = w65.heap[b2]? ∧ True) ⟨rfl, rfl, trivial⟩ ?_
     have o72 := hb
     have o73 := hb4
     have c71 := Chg.drew w65
     generalize World.drew w65 = w70 at c71 ⊢
     replace HC := HC.then c71
     replace hb := hb.tr0 c71
     replace hb4 := hb4.tr0 c71
     refine sq_q rfl (fun W hT => r_move (v := .pointer _) rfl) <| sq_q rfl (fun W hT => r_nilCheck rfl) <| sq_q rfl (fun W hT => r_fieldAddr T.fld71_0 rfl) <| sq_q rfl (fun W hT => r_load1 (v := S _) T.one9 rfl (Blk.cell (show Blk W bt _ _ from hT.1.trans o72) rfl)) <| sq_q rfl (fun W hT => r_move (v := .pointer _) rfl) <| sq_q rfl (fun W hT => r_nilCheck rfl) <| sq_q rfl (fun W hT => r_fieldAddr T.fld71_2 rfl) <| sq_q rfl (fun W hT => r_load1 (v := .int _ _) T.one3 rfl (Blk.cell (show Blk W bt _ _ from hT.1.trans o72) rfl)) <| sq_q rfl (fun W hT => r_addn rfl rfl (by constructor <;> omega)) <| sq_q rfl (fun W hT => r_move (v := .int _ _) rfl) <| sq_q rfl (fun W hT => r_sslice (i := (i + 2)) (j := k) T.u9 rfl ⟨_, rfl⟩ ⟨_, rfl⟩ (by omega) (by omega)) <| sq_q rfl (fun W hT => r_bld (ps := [(2, .tmp 67), (0, .const (.int .u8 1))]) (vs := [.int _ _, .int _ _, S _]) T.bld178 rfl) <| sq_alloc1 rfl T.zero178 ?_
     intro b74 w75 e76 c77 hb78
     have ge_b74 := gB e76 HC.size
     have ne_bt_b74 := nF e76 hb.ne_size
     have ne_b2_b74 := nF e76 hb4.ne_size
     replace HC := HC.then c77
     replace hb := hb.tr0 c77
     replace hb4 := hb4.tr0 c77
     clear e76
     refine ext_T (b := b74) ⟨(Eq.trans hb o72.symm), (Eq.trans hb4 o73.symm), trivial⟩ ?_
     have o79 := hb78
     refine sq_store2 rfl T.size178 (v := .agg ⟨[.int _ _, .int _ _, S _]⟩) rfl rfl rfl hb78 rfl (Nat.le_of_ble_eq_true rfl) q5 rfl ?_
     intro w80 c81 hb82; simp only [setVs, setV] at hb82
     clear hb78
     replace HC := HC.then1 c81 ge_b74
     replace hb := hb.tr1 c81 ne_bt_b74
     replace hb4 := hb4.tr1 c81 ne_b2_b74
     clear o72
     clear o73
     clear o79
     refine sq_nil <| then_n <| sr rfl <| mP rfl <| mI rfl <| Wp rfl <| st_addn rfl rfl (by constructor <;> omega) <| nc rfl <| fa T.fld71_2 rfl <| Wp rfl <| st_st (v := .int _ _) T.size3 rfl rfl rfl hb ?_
     intro w83 c84 hb85; simp only [setVs, setV] at hb85
     clear hb
     replace HC := HC.trans c84 q4
     replace hb4 := hb4.tr1 c84 (Ne.symm ne_bt_b2)
     replace hb82 := hb82.tr1 c84 (Ne.symm ne_bt_b74)
     refine en <| sr rfl <| Wp rfl <| st_loadA (vs := [_, _, _]) T.agg178 rfl (hb82.cells (n := 3) (vs := [_, _, _]) rfl) rfl <| Wp rfl <| st_st (v := .agg ⟨[_, _, _]⟩) T.size178 rfl rfl rfl hb4 ?_
     intro w86 c87 hb88; simp only [setVs, setV] at hb88
     clear hb4
     replace HC := HC.then1 c87 ge_b2
     replace hb85 := hb85.tr1 c87 ne_bt_b2
     refine aB rfl <| en <| x_ret <| ret_many (vs := [.agg ⟨[_, _, _]⟩, .bool _]) rfl ⟨⟨_, _, rfl, run_loadVarA T.agg178 (hb88.cells (n := 3) rfl) rfl⟩, ⟨rfl, trivial⟩⟩ (Nat.le_of_ble_eq_true rfl) ?_
     rw [clsV_some hcl0 hcl1]
     rw [hke]
     exact ⟨⟨rfl, hb85⟩, HC⟩
  ·try simp only [nm, ne_eq] at g12
   iterate 3 refine w_no 7 22 true ?_
   refine pF rfl rfl <| mB rfl ?_
   iterate 7 refine w_no 12 27 true ?_
   refine pF rfl rfl <| mB rfl ?_
   iterate 7 refine w_no 21 36 true ?_
   refine pF rfl rfl <| en <| x_cond (t := false) rfl (fun h1 => ?_) (fun h1 => ?_)
   · exact absurd h1 (by decide)
   have hlo : loRun p q (p.length - k) k = 0 := loRun_off (fun ⟨h7, h8, h9⟩ => by unfold clB at h9; simp only [Bool.and_eq_true, decide_eq_true_eq] at *; (try simp only [Int.toNat_natCast] at *); first | omega | simp_all)
   have hke : clE p q i = k := by rw [hk2, hlo]; rfl
   refine x_exit <| then_x <| then_x <| block_x <| then_n <| x_seq <| sr rfl <| mP rfl <| mI rfl <| mP rfl <| nc rfl <| fa T.fld71_2 rfl <| lI T.one3 rfl (hb.cell rfl) <| Wp rfl <| st_subn rfl rfl (by constructor <;> omega) <| Wp rfl <| st_call (ags := [_, _, _]) rfl rfl T.ent34 rfl (gis_spec hb ((k : Int) - (i : Int)) [58, 93] k (by omega) (by omega) (by omega) (by simp)) ?_
   rintro _ w89 ⟨rfl, c90⟩
   replace HC := HC.then c90
   replace hb := hb.tr0 c90
   replace hb4 := hb4.tr0 c90
   refine Wp rfl <| st_not rfl <| en <| x_cond rfl (fun h2 => ?_) (fun h2 => ?_)
   ·try simp only [nm, ne_eq] at h2
    rw [isB_2] at h2
    have hcl1 : (atB p q (clE p q i) 58 && atB p q (clE p q i + 1) 93) = false := by rw [hke]; exact h2
    refine sr rfl <| Wp rfl <| st_bld (ps := []) (vs := [.int _ _, .int _ _, S _]) T.bld178 rfl <| Wp rfl <| st_st (v := .agg ⟨[_, _, _]⟩) T.size178 rfl rfl rfl hb4 ?_
    intro w91 c92 hb93; simp only [setVs, setV] at hb93
    clear hb4
    replace HC := HC.then1 c92 ge_b2
    replace hb := hb.tr1 c92 ne_bt_b2
    refine aB rfl <| en <| x_ret <| then_r <| ret_many (vs := [.agg ⟨[_, _, _]⟩, .bool _]) rfl ⟨⟨_, _, rfl, run_loadVarA T.agg178 (hb93.cells (n := 3) rfl) rfl⟩, ⟨rfl, trivial⟩⟩ (Nat.le_of_ble_eq_true rfl) ?_
    rw [clsV_none2 hcl1]
    exact ⟨⟨rfl, hb⟩, HC⟩
   ·try simp only [nm, ne_eq] at h2
    rw [isB_2] at h2
    have hcl1 : (atB p q (clE p q i) 58 && atB p q (clE p q i + 1) 93) = true := by rw [hke]; exact h2
    have hk3 : k + 1 < p.length := atB_lt (by rw [Bool.and_eq_true] at h2; exact h2.2)
    refine x_skip <| then_n <| x_seq <| x_draw [(0, 0), (1, 0), (2, 0), (3, 0), (4, 0), (5, 0), (6, 0), (7, 0), (8, 0), (9, 0), (10, 0), (11, 0), (12, 1), (13, 2)] T.mixed rfl rfl rfl (fun W => W.heap[bt]? = w89.heap[bt]? ∧ W.heap[b2]? = w89.heap[b2]? ∧ True) ⟨rfl, rfl, trivial⟩ ?_
    have o96 := hb
    have o97 := hb4
    have c95 := Chg.drew w89
    generalize World.drew w89 = w94 at c95 ⊢
    replace HC := HC.then c95
    replace hb := hb.tr0 c95
    replace hb4 := hb4.tr0 c95
    refine sq_q rfl (fun W hT => r_move (v := .pointer _) rfl) <| sq_q rfl (fun W hT => r_nilCheck rfl) <| sq_q rfl (fun W hT => r_fieldAddr T.fld71_0 rfl) <| sq_q rfl (fun W hT => r_load1 (v := S _) T.one9 rfl (Blk.cell (show Blk W bt _ _ from hT.1.trans o96) rfl)) <| sq_q rfl (fun W hT => r_move (v := .pointer _) rfl) <| sq_q rfl (fun W hT => r_nilCheck rfl) <| sq_q rfl (fun W hT => r_fieldAddr T.fld71_2 rfl) <| sq_q rfl (fun W hT => r_load1 (v := .int _ _) T.one3 rfl (Blk.cell (show Blk W bt _ _ from hT.1.trans o96) rfl)) <| sq_q rfl (fun W hT => r_addn rfl rfl (by constructor <;> omega)) <| sq_q rfl (fun W hT => r_move (v := .int _ _) rfl) <| sq_q rfl (fun W hT => r_sslice (i := (i + 2)) (j := k) T.u9 rfl ⟨_, rfl⟩ ⟨_, rfl⟩ (by omega) (by omega)) <| sq_q rfl (fun W hT => r_bld (ps := [(2, .tmp 67), (0, .const (.int .u8 1))]) (vs := [.int _ _, .int _ _, S _]) T.bld178 rfl) <| sq_alloc1 rfl T.zero178 ?_
    intro b98 w99 e100 c101 hb102
    have ge_b98 := gB e100 HC.size
    have ne_bt_b98 := nF e100 hb.ne_size
    have ne_b2_b98 := nF e100 hb4.ne_size
    replace HC := HC.then c101
    replace hb := hb.tr0 c101
    replace hb4 := hb4.tr0 c101
    clear e100
    refine ext_T (b := b98) ⟨(Eq.trans hb o96.symm), (Eq.trans hb4 o97.symm), trivial⟩ ?_
    have o103 := hb102
    refine sq_store2 rfl T.size178 (v := .agg ⟨[.int _ _, .int _ _, S _]⟩) rfl rfl rfl hb102 rfl (Nat.le_of_ble_eq_true rfl) q5 rfl ?_
    intro w104 c105 hb106; simp only [setVs, setV] at hb106
    clear hb102
    replace HC := HC.then1 c105 ge_b98
    replace hb := hb.tr1 c105 ne_bt_b98
    replace hb4 := hb4.tr1 c105 ne_b2_b98
    clear o96
    clear o97
    clear o103
    refine sq_nil <| then_n <| sr rfl <| mP rfl <| mI rfl <| Wp rfl <| st_addn rfl rfl (by constructor <;> omega) <| nc rfl <| fa T.fld71_2 rfl <| Wp rfl <| st_st (v := .int _ _) T.size3 rfl rfl rfl hb ?_
    intro w107 c108 hb109; simp only [setVs, setV] at hb109
    clear hb
    replace HC := HC.trans c108 q4
    replace hb4 := hb4.tr1 c108 (Ne.symm ne_bt_b2)
    replace hb106 := hb106.tr1 c108 (Ne.symm ne_bt_b98)
    refine en <| sr rfl <| Wp rfl <| st_loadA (vs := [_, _, _]) T.agg178 rfl (hb106.cells (n := 3) (vs := [_, _, _]) rfl) rfl <| Wp rfl <| st_st (v := .agg ⟨[_, _, _]⟩) T.size178 rfl rfl rfl hb4 ?_
    intro w110 c111 hb112; simp only [setVs, setV] at hb112
    clear hb4
    replace HC := HC.then1 c111 ge_b2
    replace hb109 := hb109.tr1 c111 ne_bt_b2
    refine aB rfl <| en <| x_ret <| ret_many (vs := [.agg ⟨[_, _, _]⟩, .bool _]) rfl ⟨⟨_, _, rfl, run_loadVarA T.agg178 (hb112.cells (n := 3) rfl) rfl⟩, ⟨rfl, trivial⟩⟩ (Nat.le_of_ble_eq_true rfl) ?_
    rw [clsV_some hcl0 hcl1]
    rw [hke]
    exact ⟨⟨rfl, hb109⟩, HC⟩
open Go Go.Proofs Go.RowKit
theorem memV_some {p q : Bytes} {i : Nat} {r : Bytes × Nat} (h : clsV p q i = some r) : memV p q i = (⟨1, 0, r.1⟩, r.2) := by unfold memV; rw [h]
theorem memV_rng {p q : Bytes} {i : Nat} (h : clsV p q i = none) (h2 : rngB p q i = true) : memV p q i = (⟨(byte p i).toNat, (byte p (i + 2)).toNat, []⟩, i + 3) := by unfold memV; rw [h]; simp only; rw [if_pos h2]
theorem memV_one {p q : Bytes} {i : Nat} (h : clsV p q i = none) (h2 : rngB p q i = false) : memV p q i = (⟨(byte p i).toNat, (byte p i).toNat, []⟩, i + 1) := by unfold memV; rw [h]; simp only; rw [if_neg (by rw [h2]; simp)]
def wnE : Enc Wn where
  sz := 1
  pos := by omega
  R := fun w D x vs => match x with
    | .any o => vs = [.iface 157 (.agg ⟨[.bool o]⟩)]
    | .one c => vs = [.iface 160 (.int .u8 (c : Int))]
    | .set ms t => ∃ K c, vs = [.iface 176 (.agg ⟨[.slice K ms.length c, .bool t]⟩)] ∧ ms.length ≤ c ∧ c ≤ 9223372036854775807 ∧ Sl mbE w D K ms
  len := fun {w D x vs} h => by
    cases x with
    | any o => rw [show vs = _ from h]; rfl
    | one c => rw [show vs = _ from h]; rfl
    | set ms t => obtain ⟨_, _, h, _⟩ := h; rw [h]; rfl
  one := fun {w D x vs} h u hu => by
    cases x with
    | any o => rw [show vs = _ from h] at hu; obtain rfl := List.mem_singleton.1 hu; rfl
    | one c => rw [show vs = _ from h] at hu; obtain rfl := List.mem_singleton.1 hu; rfl
    | set ms t => obtain ⟨_, _, h, _⟩ := h; rw [h] at hu; obtain rfl := List.mem_singleton.1 hu; rfl
  tr := fun {w w' D x vs} h he hs => by
    cases x with
    | any o => exact h
    | one c => exact h
    | set ms t => obtain ⟨K, c, h1, h2, h3, h4⟩ := h; exact ⟨K, c, h1, h2, h3, h4.keep he hs⟩
  mono := fun {w D D' x vs} h hm => by
    cases x with
    | any o => exact h
    | one c => exact h
    | set ms t => obtain ⟨K, c, h1, h2, h3, h4⟩ := h; exact ⟨K, c, h1, h2, h3, h4.mono hm⟩
theorem wnE.tr0 {w w' : World} {D : Nat → Prop} {x : Wn} {vs : List Value} (h : wnE.R w D x vs) (c : Chg [] w w') : wnE.R w' D x vs := wnE.tr h (fun k hk _ => c.block k hk (by simp)) c.size
theorem gmem_spec {p q : Bytes} {bt i : Nat} {w : World} (hb : Blk w bt [S p, S q, .int .i64 (i : Int)] 71) (hp : p.length ≤ 100000000) (hi : i < p.length) : CallR Tryz.prog 126 #[.pointer (some ⟨bt, 0, none⟩)] w fun v w' => (v = .agg ⟨mbC (memV p q i).1⟩ ∧ Blk w' bt [S p, S q, .int .i64 ((memV p q i).2 : Int)] 71) ∧ Chg [bt] w w' := by
 refine callR_of_wp (args := [_]) Tryz.func126 rfl (Nat.le_of_ble_eq_true rfl) ?_
 have HC : Chg [bt] w w := .refl _
 refine sr rfl <| Wp rfl <| st_alloc T.zero178 ?_
 intro b2 w1 e2 c3 hb4
 have ge_b2 := gB e2 HC.size
 have ne_bt_b2 := nF e2 hb.ne_size
 replace HC := HC.then c3
 replace hb := hb.tr0 c3
 clear e2
 refine en <| x_seq <| sr rfl <| mP rfl <| Wp rfl <| st_call (ags := [_]) rfl rfl T.ent135 rfl (gcls_spec hb hp (by omega)) ?_
 rintro _ w5 ⟨⟨rfl, hbn⟩, c6⟩
 replace HC := HC.trans c6 q4
 replace hb4 := hb4.tr1 c6 (Ne.symm ne_bt_b2)
 refine mv (v := .tuple ⟨[_, _]⟩) rfl <| Wp rfl <| st_extract (vs := [_, _]) (v := .agg ⟨[.int _ _, .int _ _, S _]⟩) rfl rfl <| Wp rfl <| st_extract (vs := [_, _]) (v := .bool _) rfl rfl <| Wp rfl <| st_alloc T.zero178 ?_
 intro b3 w7 e8 c9 hb10
 have ge_b3 := gB e8 HC.size
 have ne_b2_b3 := nF e8 hb4.ne_size
 have ne_bt_b3 := nF e8 hbn.ne_size
 replace HC := HC.then c9
 replace hb4 := hb4.tr0 c9
 replace hbn := hbn.tr0 c9
 clear e8
 refine Wp rfl <| st_st (v := .agg ⟨[_, _, _]⟩) T.size178 rfl rfl rfl hb10 ?_
 intro w11 c12 hb13; simp only [setVs, setV] at hb13
 clear hb10
 replace HC := HC.then1 c12 ge_b3
 replace hb4 := hb4.tr1 c12 ne_b2_b3
 replace hbn := hbn.tr1 c12 ne_bt_b3
 refine aB rfl <| en <| sr rfl <| mB rfl <| en <| x_cond rfl (fun h0 => ?_) (fun h0 => ?_)
 ·try simp only [nm, ne_eq] at h0
  obtain ⟨r, hr⟩ := Option.isSome_iff_exists.1 (show (clsV p q i).isSome = true by first | assumption | simpa using h0)
  have hmv := memV_some hr
  refine sr rfl <| Wp rfl <| st_loadA (vs := [_, _, _]) T.agg178 rfl (hb13.cells (n := 3) (vs := [_, _, _]) rfl) rfl <| Wp rfl <| st_st (v := .agg ⟨[_, _, _]⟩) T.size178 rfl rfl rfl hb4 ?_
  intro w14 c15 hb16; simp only [setVs, setV] at hb16
  clear hb4
  replace HC := HC.then1 c15 ge_b2
  replace hbn := hbn.tr1 c15 ne_bt_b2
  refine en <| x_ret <| then_r <| ret_cellA (vs := [_, _, _]) rfl rfl T.agg178 (hb16.cells (n := 3) rfl) rfl ?_
  rw [hmv]
  rw [hr] at hbn
  rw [hr]
  exact ⟨⟨rfl, hbn⟩, HC⟩
 ·try simp only [nm, ne_eq] at h0
  have hn : clsV p q i = none := by cases hq : clsV p q i with | none => rfl | some r => rw [hq] at h0; simp at h0
  rw [hn] at hbn
  replace hbn : Blk w11 bt [S p, S q, .int .i64 (i : Int)] 71 := hbn
  refine x_skip <| then_n <| x_seq <| x_draw [(0, 0), (1, 0), (2, 0), (3, 0), (4, 0), (5, 0), (6, 0), (7, 0), (8, 0), (9, 0), (10, 0), (11, 0), (12, 0), (13, 0), (14, 0), (15, 0), (16, 0), (17, 0), (18, 0), (19, 1), (20, 2)] T.mixed rfl rfl rfl (fun W => W.heap[b2]? = w11.heap[b2]? ∧ W.heap[bt]? = w11.heap[bt]? ∧ W.heap[b3]? = w11.heap[b3]? ∧ True) ⟨rfl, rfl, rfl, trivial⟩ ?_
  have o19 := hb4
  have o20 := hbn
  have o21 := hb13
  have c18 := Chg.drew w11
  generalize World.drew w11 = w17 at c18 ⊢
  replace HC := HC.then c18
  replace hb4 := hb4.tr0 c18
  replace hbn := hbn.tr0 c18
  replace hb13 := hb13.tr0 c18
  refine sq_q rfl (fun W hT => r_move (v := .pointer _) rfl) <| sq_q rfl (fun W hT => r_nilCheck rfl) <| sq_q rfl (fun W hT => r_fieldAddr T.fld71_0 rfl) <| sq_q rfl (fun W hT => r_load1 (v := S _) T.one9 rfl (Blk.cell (show Blk W bt _ _ from hT.2.1.trans o20) rfl)) <| sq_q rfl (fun W hT => r_move (v := .pointer _) rfl) <| sq_q rfl (fun W hT => r_nilCheck rfl) <| sq_q rfl (fun W hT => r_fieldAddr T.fld71_2 rfl) <| sq_q rfl (fun W hT => r_load1 (v := .int _ _) T.one3 rfl (Blk.cell (show Blk W bt _ _ from hT.2.1.trans o20) rfl)) <| sq_q rfl (fun W hT => r_sidx T.u9 rfl rfl (by omega) (by omega)) <| sq_q rfl (fun W hT => r_move (v := .pointer _) rfl) <| sq_q rfl (fun W hT => r_nilCheck rfl) <| sq_q rfl (fun W hT => r_fieldAddr T.fld71_0 rfl) <| sq_q rfl (fun W hT => r_load1 (v := S _) T.one9 rfl (Blk.cell (show Blk W bt _ _ from hT.2.1.trans o20) rfl)) <| sq_q rfl (fun W hT => r_move (v := .pointer _) rfl) <| sq_q rfl (fun W hT => r_nilCheck rfl) <| sq_q rfl (fun W hT => r_fieldAddr T.fld71_2 rfl) <| sq_q rfl (fun W hT => r_load1 (v := .int _ _) T.one3 rfl (Blk.cell (show Blk W bt _ _ from hT.2.1.trans o20) rfl)) <| sq_q rfl (fun W hT => r_sidx T.u9 rfl rfl (by omega) (by omega)) <| sq_q rfl (fun W hT => r_bld (ps := [(0, .tmp 21), (1, .tmp 30)]) (vs := [.int _ _, .int _ _, S _]) T.bld178 rfl) <| sq_alloc1 rfl T.zero178 ?_
  intro b5 w22 e23 c24 hb25
  have ge_b5 := gB e23 HC.size
  have ne_b2_b5 := nF e23 hb4.ne_size
  have ne_bt_b5 := nF e23 hbn.ne_size
  have ne_b3_b5 := nF e23 hb13.ne_size
  replace HC := HC.then c24
  replace hb4 := hb4.tr0 c24
  replace hbn := hbn.tr0 c24
  replace hb13 := hb13.tr0 c24
  clear e23
  refine ext_T (b := b5) ⟨(Eq.trans hb4 o19.symm), (Eq.trans hbn o20.symm), (Eq.trans hb13 o21.symm), trivial⟩ ?_
  have o26 := hb25
  refine sq_store2 rfl T.size178 (v := .agg ⟨[.int _ _, .int _ _, S _]⟩) rfl rfl rfl hb25 rfl (Nat.le_of_ble_eq_true rfl) q5 rfl ?_
  intro w27 c28 hb29; simp only [setVs, setV] at hb29
  clear hb25
  replace HC := HC.then1 c28 ge_b5
  replace hb4 := hb4.tr1 c28 ne_b2_b5
  replace hbn := hbn.tr1 c28 ne_bt_b5
  replace hb13 := hb13.tr1 c28 ne_b3_b5
  clear o19
  clear o20
  clear o21
  clear o26
  refine sq_nil <| then_n <| sr rfl <| mP rfl <| nc rfl <| fa T.fld71_2 rfl <| lI T.one3 rfl (hbn.cell rfl) <| Wp rfl <| st_addn rfl rfl (by constructor <;> omega) <| nc rfl <| fa T.fld71_2 rfl <| Wp rfl <| st_st (v := .int _ _) T.size3 rfl rfl rfl hbn ?_
  intro w30 c31 hb32; simp only [setVs, setV] at hb32
  clear hbn
  replace HC := HC.trans c31 q4
  replace hb4 := hb4.tr1 c31 (Ne.symm ne_bt_b2)
  replace hb13 := hb13.tr1 c31 (Ne.symm ne_bt_b3)
  replace hb29 := hb29.tr1 c31 (Ne.symm ne_bt_b5)
  refine en <| x_seq <| x_seq ?_
  replace hb32 : Blk w30 bt [S p, S q, .int .i64 ((i + 1 : Nat) : Int)] 71 := hb32
  refine x_draw [(0, 0), (1, 1), (2, 0), (3, 0), (4, 0), (5, 0), (6, 0), (7, 0), (8, 0), (9, 0), (10, 0), (11, 0), (12, 0), (13, 0), (14, 0), (15, 0), (16, 0), (17, 1), (18, 0), (19, 0)] T.mixed rfl rfl rfl (fun W => W.heap[b2]? = w30.heap[b2]? ∧ W.heap[b3]? = w30.heap[b3]? ∧ W.heap[b5]? = w30.heap[b5]? ∧ W.heap[bt]? = w30.heap[bt]? ∧ True) ⟨rfl, rfl, rfl, rfl, trivial⟩ ?_
  have o35 := hb4
  have o36 := hb13
  have o37 := hb29
  have o38 := hb32
  have c34 := Chg.drew w30
  generalize World.drew w30 = w33 at c34 ⊢
  replace HC := HC.then c34
  replace hb4 := hb4.tr0 c34
  replace hb13 := hb13.tr0 c34
  replace hb29 := hb29.tr0 c34
  replace hb32 := hb32.tr0 c34
  refine sq_q rfl (fun W hT => r_move (v := .pointer _) rfl) <| sq_call1 rfl (r_call (ags := [_, _, _]) rfl rfl T.ent34 rfl) (gis_spec hb32 0 [45] (i + 1) (by omega) (by omega) (by omega) (by simp)) ?_
  rintro _ w39 ⟨rfl, c40⟩
  replace HC := HC.then c40
  replace hb4 := hb4.tr0 c40
  replace hb13 := hb13.tr0 c40
  replace hb29 := hb29.tr0 c40
  replace hb32 := hb32.tr0 c40
  refine ⟨_, fun _ h => h, ⟨(Eq.trans hb4 o35.symm), (Eq.trans hb13 o36.symm), (Eq.trans hb29 o37.symm), (Eq.trans hb32 o38.symm), trivial⟩, ?_⟩
  refine sq_q rfl (fun W hT => r_move (v := .bool _) rfl) <| sq_split (d := 41) rfl (fun g41 => ?_) (fun g41 => ?_)
  ·try simp only [nm, ne_eq] at g41
   have ha1 : atB p q (i + 1) 45 = true := ((isB_1 p q (i + 1) 45).symm).trans ((by assumption : isB p q (i + 1) [45] = true))
   refine sq_q rfl (fun W hT => r_move (v := .pointer _) rfl) <| sq_q rfl (fun W hT => r_nilCheck rfl) <| sq_q rfl (fun W hT => r_fieldAddr T.fld71_2 rfl) <| sq_q rfl (fun W hT => r_load1 (v := .int _ _) T.one3 rfl (Blk.cell (show Blk W bt _ _ from hT.2.2.2.1.trans o38) rfl)) <| sq_q rfl (fun W hT => r_addn rfl rfl (by constructor <;> omega)) <| sq_q rfl (fun W hT => r_move (v := .pointer _) rfl) <| sq_q rfl (fun W hT => r_nilCheck rfl) <| sq_q rfl (fun W hT => r_fieldAddr T.fld71_0 rfl) <| sq_q rfl (fun W hT => r_load1 (v := S _) T.one9 rfl (Blk.cell (show Blk W bt _ _ from hT.2.2.2.1.trans o38) rfl)) <| sq_q rfl (fun W hT => r_slen (ct := #[9]) T.u9 rfl) <| sq_q rfl (fun W hT => r_lss rfl rfl) <| sq_q rfl (fun W hT => r_pick (b := true) (v := .bool _) rfl rfl) <| sq_q rfl (fun W hT => r_move (v := .bool _) rfl) <| sq_split (d := 54) rfl (fun g42 => ?_) (fun g42 => ?_)
   ·try simp only [nm, ne_eq] at g42
    have hl2 : i + 2 < p.length := by omega
    refine sq_q rfl (fun W hT => r_move (v := .pointer _) rfl) <| sq_call1 rfl (r_call (ags := [_, _, _]) rfl rfl T.ent34 rfl) (gis_spec hb32 1 [93] (i + 2) (by omega) (by omega) (by omega) (by simp)) ?_
    rintro _ w43 ⟨rfl, c44⟩
    replace HC := HC.then c44
    replace hb4 := hb4.tr0 c44
    replace hb13 := hb13.tr0 c44
    replace hb29 := hb29.tr0 c44
    replace hb32 := hb32.tr0 c44
    refine ⟨_, fun _ h => h, ⟨(Eq.trans hb4 o35.symm), (Eq.trans hb13 o36.symm), (Eq.trans hb29 o37.symm), (Eq.trans hb32 o38.symm), trivial⟩, ?_⟩
    refine sq_q rfl (fun W hT => r_not rfl) <| sq_q rfl (fun W hT => r_pick (b := true) (v := .bool _) rfl rfl) ?_
    clear o35
    clear o36
    clear o37
    clear o38
    refine sq_nil <| then_n <| x_cond rfl (fun h1 => ?_) (fun h1 => ?_)
    ·try simp only [nm, ne_eq] at h1
     have ha3 : atB p q (i + 2) 93 = false := ((isB_1 p q (i + 2) 93).symm).trans (by first | assumption | simpa using h1)
     have hrg : rngB p q i = true := by unfold rngB; rw [ha1, decide_eq_true hl2, ha3]; rfl
     have hmv := memV_rng hn hrg
     refine x_seq <| x_draw [(0, 0), (1, 0), (2, 0), (3, 0), (4, 0), (5, 0), (6, 0), (7, 0), (8, 0), (9, 0), (10, 0), (11, 2)] T.mixed rfl rfl rfl (fun W => W.heap[b2]? = w43.heap[b2]? ∧ W.heap[b3]? = w43.heap[b3]? ∧ W.heap[b5]? = w43.heap[b5]? ∧ W.heap[bt]? = w43.heap[bt]? ∧ True) ⟨rfl, rfl, rfl, rfl, trivial⟩ ?_
     have o47 := hb4
     have o48 := hb13
     have o49 := hb29
     have o50 := hb32
     have c46 := Chg.drew w43
     generalize World.drew w43 = w45 at c46 ⊢
     replace HC := HC.then c46
     replace hb4 := hb4.tr0 c46
     replace hb29 := hb29.tr0 c46
     replace hb32 := hb32.tr0 c46
     refine sq_q rfl (fun W hT => r_move (v := .pointer _) rfl) <| sq_q rfl (fun W hT => r_nilCheck rfl) <| sq_q rfl (fun W hT => r_fieldAddr T.fld71_0 rfl) <| sq_q rfl (fun W hT => r_load1 (v := S _) T.one9 rfl (Blk.cell (show Blk W bt _ _ from hT.2.2.2.1.trans o50) rfl)) <| sq_q rfl (fun W hT => r_move (v := .pointer _) rfl) <| sq_q rfl (fun W hT => r_nilCheck rfl) <| sq_q rfl (fun W hT => r_fieldAddr T.fld71_2 rfl) <| sq_q rfl (fun W hT => r_load1 (v := .int _ _) T.one3 rfl (Blk.cell (show Blk W bt _ _ from hT.2.2.2.1.trans o50) rfl)) <| sq_q rfl (fun W hT => r_addn rfl rfl (by constructor <;> omega)) <| sq_q rfl (fun W hT => r_sidx T.u9 rfl rfl (by omega) (by omega)) <| sq_q rfl (fun W hT => r_fieldAddr T.fld178_1 rfl) <| sq_store2 rfl T.size5 (v := .int _ _) rfl rfl rfl hb29 rfl (Nat.le_of_ble_eq_true rfl) q5 rfl ?_
     intro w51 c52 hb53; simp only [setVs, setV] at hb53
     clear hb29
     replace HC := HC.then1 c52 ge_b5
     replace hb4 := hb4.tr1 c52 ne_b2_b5
     replace hb32 := hb32.tr1 c52 ne_bt_b5
     clear o47
     clear o48
     clear o49
     clear o50
     refine sq_nil <| then_n <| x_region rfl <| mP rfl <| nc rfl <| fa T.fld71_2 rfl <| lI T.one3 rfl (hb32.cell rfl) <| Wp rfl <| st_addn rfl rfl (by constructor <;> omega) <| nc rfl <| fa T.fld71_2 rfl <| Wp rfl <| st_st (v := .int _ _) T.size3 rfl rfl rfl hb32 ?_
     intro w54 c55 hb56; simp only [setVs, setV] at hb56
     clear hb32
     replace HC := HC.trans c55 q4
     replace hb4 := hb4.tr1 c55 (Ne.symm ne_bt_b2)
     replace hb53 := hb53.tr1 c55 (Ne.symm ne_bt_b5)
     refine en <| sr rfl <| Wp rfl <| st_loadA (vs := [_, _, _]) T.agg178 rfl (hb53.cells (n := 3) (vs := [_, _, _]) rfl) rfl <| Wp rfl <| st_st (v := .agg ⟨[_, _, _]⟩) T.size178 rfl rfl rfl hb4 ?_
     intro w57 c58 hb59; simp only [setVs, setV] at hb59
     clear hb4
     replace HC := HC.then1 c58 ge_b2
     replace hb56 := hb56.tr1 c58 ne_bt_b2
     refine en <| x_ret <| ret_cellA (vs := [_, _, _]) rfl rfl T.agg178 (hb59.cells (n := 3) rfl) rfl ?_
     rw [hmv]
     exact ⟨⟨rfl, hb56⟩, HC⟩
    ·try simp only [nm, ne_eq] at h1
     have ha3 : atB p q (i + 2) 93 = true := ((isB_1 p q (i + 2) 93).symm).trans (by first | assumption | simpa using h1)
     have hrg : rngB p q i = false := by unfold rngB; rw [ha1, decide_eq_true hl2, ha3]; rfl
     have hmv := memV_one hn hrg
     refine x_skip <| then_n <| sr rfl <| Wp rfl <| st_loadA (vs := [_, _, _]) T.agg178 rfl (hb29.cells (n := 3) (vs := [_, _, _]) rfl) rfl <| Wp rfl <| st_st (v := .agg ⟨[_, _, _]⟩) T.size178 rfl rfl rfl hb4 ?_
     intro w60 c61 hb62; simp only [setVs, setV] at hb62
     clear hb4
     replace HC := HC.then1 c61 ge_b2
     replace hb32 := hb32.tr1 c61 ne_bt_b2
     refine en <| x_ret <| ret_cellA (vs := [_, _, _]) rfl rfl T.agg178 (hb62.cells (n := 3) rfl) rfl ?_
     rw [hmv]
     exact ⟨⟨rfl, hb32⟩, HC⟩
   ·try simp only [nm, ne_eq] at g42
    refine sq_no rfl rfl <| sq_no rfl rfl <| sq_no rfl rfl <| sq_q rfl (fun W hT => r_pick (b := false) (v := .bool _) rfl rfl) ?_
    clear o35
    clear o36
    clear o37
    clear o38
    refine sq_nil <| then_n <| x_cond (t := false) rfl (fun h1 => ?_) (fun h1 => ?_)
    · exact absurd h1 (by decide)
    have hrg : rngB p q i = false := by unfold rngB; rw [ha1, decide_eq_false (show ¬ i + 2 < p.length by omega)]; rfl
    have hmv := memV_one hn hrg
    refine x_skip <| then_n <| sr rfl <| Wp rfl <| st_loadA (vs := [_, _, _]) T.agg178 rfl (hb29.cells (n := 3) (vs := [_, _, _]) rfl) rfl <| Wp rfl <| st_st (v := .agg ⟨[_, _, _]⟩) T.size178 rfl rfl rfl hb4 ?_
    intro w63 c64 hb65; simp only [setVs, setV] at hb65
    clear hb4
    replace HC := HC.then1 c64 ge_b2
    replace hb32 := hb32.tr1 c64 ne_bt_b2
    refine en <| x_ret <| ret_cellA (vs := [_, _, _]) rfl rfl T.agg178 (hb65.cells (n := 3) rfl) rfl ?_
    rw [hmv]
    exact ⟨⟨rfl, hb32⟩, HC⟩
  ·try simp only [nm, ne_eq] at g41
   have ha1 : atB p q (i + 1) 45 = false := ((isB_1 p q (i + 1) 45).symm).trans ((by assumption : isB p q (i + 1) [45] = false))
   refine sq_no rfl rfl <| sq_no rfl rfl <| sq_no rfl rfl <| sq_no rfl rfl <| sq_no rfl rfl <| sq_no rfl rfl <| sq_no rfl rfl <| sq_no rfl rfl <| sq_no rfl rfl <| sq_no rfl rfl <| sq_no rfl rfl <| sq_q rfl (fun W hT => r_pick (b := false) (v := .bool _) rfl rfl) <| sq_q rfl (fun W hT => r_move (v := .bool _) rfl) <| sq_no rfl rfl <| sq_no rfl rfl <| sq_no rfl rfl <| sq_q rfl (fun W hT => r_pick (b := false) (v := .bool _) rfl rfl) ?_
   clear o35
   clear o36
   clear o37
   clear o38
   refine sq_nil <| then_n <| x_cond (t := false) rfl (fun h1 => ?_) (fun h1 => ?_)
   · exact absurd h1 (by decide)
   have hrg : rngB p q i = false := by unfold rngB; rw [ha1]; rfl
   have hmv := memV_one hn hrg
   refine x_skip <| then_n <| sr rfl <| Wp rfl <| st_loadA (vs := [_, _, _]) T.agg178 rfl (hb29.cells (n := 3) (vs := [_, _, _]) rfl) rfl <| Wp rfl <| st_st (v := .agg ⟨[_, _, _]⟩) T.size178 rfl rfl rfl hb4 ?_
   intro w66 c67 hb68; simp only [setVs, setV] at hb68
   clear hb4
   replace HC := HC.then1 c67 ge_b2
   replace hb32 := hb32.tr1 c67 ne_bt_b2
   refine en <| x_ret <| ret_cellA (vs := [_, _, _]) rfl rfl T.agg178 (hb68.cells (n := 3) rfl) rfl ?_
   rw [hmv]
   exact ⟨⟨rfl, hb32⟩, HC⟩
end Go.Proofs.YtncnalboiljgiaaGreat.K
