/- The document's numbers. -/
import Derived.Test.YtpelmhoocepenaaGreatDoorRc
set_option linter.unusedVariables false
set_option linter.unusedSimpArgs false
set_option autoImplicit false
set_option maxRecDepth 20000
namespace Go.Proofs.YtpelmhoocepenaaGreatDoor.K
open Go Go.Proofs Go.RowKit

theorem trim_cons (c d : UInt8) (s : Bytes) : Lib.trimPrefix (c :: s) [d] = if c.toNat = d.toNat then s else c :: s := by
  unfold Lib.trimPrefix Lib.hasPrefix
  simp only [List.isPrefixOf, Bool.and_true]
  by_cases h : c.toNat = d.toNat
  · rw [if_pos h, if_pos (by rw [beq_iff_eq]; exact (UInt8.toNat_inj.1 h).symm)]; rfl
  · rw [if_neg h, if_neg (by rw [beq_iff_eq]; intro e; exact h (by rw [e]))]
theorem cons_self {c : UInt8} {s : Bytes} : ¬ s = c :: s := fun h => by have := congrArg List.length h; simp at this
/-- How a number begins. -/
theorem rest_min {s : Bytes} (h0 : s ≠ []) (h : ((byte s 0).toNat : Int) = 45) : restV s = s.drop 1 ∧ ¬ Lib.trimPrefix s [45] = s := by
  cases s with
  | nil => exact absurd rfl h0
  | cons c s =>
    have h1 : c.toNat = (45 : UInt8).toNat := by show c.toNat = 45; have h2 : ((c.toNat : Nat) : Int) = 45 := h; omega
    have h3 : Lib.trimPrefix (c :: s) [45] = s := by rw [trim_cons, if_pos h1]
    exact ⟨by unfold restV; rw [h3, if_neg cons_self]; rfl, by rw [h3]; exact cons_self⟩
theorem rest_plus {s : Bytes} (h0 : s ≠ []) (h : ¬ ((byte s 0).toNat : Int) = 45) (h9 : ((byte s 0).toNat : Int) = 43) : restV s = s.drop 1 ∧ Lib.trimPrefix s [45] = s := by
  cases s with
  | nil => exact absurd rfl h0
  | cons c s =>
    have h1 : ¬ c.toNat = (45 : UInt8).toNat := by show ¬ c.toNat = 45; have h2 : ¬ ((c.toNat : Nat) : Int) = 45 := h; omega
    have h5 : c.toNat = (43 : UInt8).toNat := by show c.toNat = 43; have h2 : ((c.toNat : Nat) : Int) = 43 := h9; omega
    have h3 : Lib.trimPrefix (c :: s) [45] = c :: s := by rw [trim_cons, if_neg h1]
    exact ⟨by unfold restV; rw [h3, if_pos rfl, trim_cons, if_pos h5]; rfl, h3⟩
theorem rest_no {s : Bytes} (h : s = [] ∨ (¬ ((byte s 0).toNat : Int) = 45 ∧ ¬ ((byte s 0).toNat : Int) = 43)) : restV s = s ∧ Lib.trimPrefix s [45] = s := by
  cases s with
  | nil => exact ⟨rfl, rfl⟩
  | cons c s =>
    obtain ⟨h, h9⟩ := h.resolve_left (by simp)
    have h1 : ¬ c.toNat = (45 : UInt8).toNat := by show ¬ c.toNat = 45; have h2 : ¬ ((c.toNat : Nat) : Int) = 45 := h; omega
    have h5 : ¬ c.toNat = (43 : UInt8).toNat := by show ¬ c.toNat = 43; have h2 : ¬ ((c.toNat : Nat) : Int) = 43 := h9; omega
    have h3 : Lib.trimPrefix (c :: s) [45] = c :: s := by rw [trim_cons, if_neg h1]
    exact ⟨by unfold restV; rw [h3, if_pos rfl, trim_cons, if_neg h5], h3⟩
theorem num_none {s : Bytes} (h : numN 0 (restV s) = none) : numV s = (0, false) := by unfold numV; rw [h]
theorem num_nil {s : Bytes} (h : restV s = []) : numV s = (0, false) := by unfold numV; rw [h]; rfl
theorem num_min {s : Bytes} {n : Int} (h : numN 0 (restV s) = some n) (h0 : restV s ≠ []) (ht : ¬ Lib.trimPrefix s [45] = s) : numV s = (n, true) := by
  unfold numV; rw [h]; simp only; rw [if_neg (fun h2 => h2.elim h0 (fun h3 => ht h3.1)), if_neg ht]
theorem num_top {s : Bytes} (h : numN 0 (restV s) = some (-9223372036854775808)) (ht : Lib.trimPrefix s [45] = s) : numV s = (0, false) := by
  unfold numV; rw [h]; simp only; rw [if_pos (.inr ⟨ht, trivial⟩)]
theorem num_pos {s : Bytes} {n : Int} (h : numN 0 (restV s) = some n) (h0 : restV s ≠ []) (ht : Lib.trimPrefix s [45] = s) (hn : ¬ n = -9223372036854775808) : numV s = (IntKind.i64.wrap (0 - n), true) := by
  unfold numV; rw [h]; simp only; rw [if_neg (fun h2 => h2.elim h0 (fun h3 => hn h3.2)), if_pos ht]
theorem tq10 {d : Int} (h9 : d ≤ 9) : (-9223372036854775808 + d).tdiv 10 = -((9223372036854775808 - d) / 10) := by
  rw [show (-9223372036854775808 + d : Int) = -(9223372036854775808 - d) by omega, Int.neg_tdiv, Int.tdiv_eq_ediv_of_nonneg (by omega)]
theorem neg_wrap {n : Int} (h0 : 0 ≤ n) (h1 : n ≤ 9223372036854775808) : IntKind.i64.wrap (IntKind.u64.wrap (0 - n)) = -n := by
  have e1 : IntKind.u64.wrap (0 - n) = (0 - n) % 18446744073709551616 := by simp [IntKind.wrap, IntKind.signed, IntKind.bits]
  rw [e1]
  by_cases hz : n = 0
  · subst hz; decide
  · have e2 : (0 - n) % 18446744073709551616 = 18446744073709551616 - n := by omega
    rw [e2]
    have e3 : IntKind.i64.wrap (18446744073709551616 - n) = 18446744073709551616 - n - 18446744073709551616 := by
      simp [IntKind.wrap, IntKind.signed, IntKind.bits]; first | omega | (split <;> omega)
    rw [e3]; omega

theorem RDigit_spec (c : UInt8) (w : World) : CallR Tryz.prog 45 #[.int .u8 (c.toNat : Int)] w fun v w' => v = .bool (digB c) ∧ Chg [] w w' := by
 refine callR_of_wp (args := [_]) Tryz.func45 rfl (Nat.le_of_ble_eq_true rfl) ?_
 have HC : Chg [] w w := .refl _
 refine sr rfl <| aB rfl <| en <| sr rfl <| mI rfl <| Wp rfl <| st_geq rfl rfl <| mB rfl <| w_split (d := 5) rfl (fun g1 => ?_) (fun g1 => ?_)
 ·try simp only [nm, ne_eq] at g1
  refine w_yes 2 5 true <| st_move (v := .int _ _) rfl <| w_yes 2 5 true <| st_leq rfl rfl <| pT rfl rfl <| aB rfl <| en <| x_ret <| ret_tmp (v := .bool _) rfl rfl <| ⟨congrArg Value.bool ?_, HC⟩
  unfold digB; rw [Bool.eq_iff_iff, decide_eq_true_eq]
  simp only [decide_eq_true_eq, Bool.false_eq_true, false_iff, true_iff]
  omega
 ·try simp only [nm, ne_eq] at g1
  refine w_no 2 5 true <| w_no 2 5 true <| pF rfl rfl <| aB rfl <| en <| x_ret <| ret_tmp (v := .bool _) rfl rfl <| ⟨congrArg Value.bool ?_, HC⟩
  unfold digB; rw [Bool.eq_iff_iff, decide_eq_true_eq]
  simp only [decide_eq_true_eq, Bool.false_eq_true, false_iff, true_iff]
  omega

theorem RNumber_spec (s : Bytes) (w : World) (hs : s.length ≤ 9223372036854775807) : CallR Tryz.prog 31 #[S s] w fun v w' => v = .tuple ⟨[.int .i64 (numV s).1, .bool (numV s).2]⟩ ∧ Chg [] w w' := by
 refine callR_of_wp (args := [_]) Tryz.func31 rfl (Nat.le_of_ble_eq_true rfl) ?_
 have HC : Chg [] w w := .refl _
 refine sr rfl <| aI rfl <| aB rfl <| en <| sr rfl <| aB rfl <| en <| x_seq <| sr rfl <| mS rfl <| Wp rfl <| st_sneq rfl rfl <| mB rfl <| w_split (d := 11) rfl (fun g1 => ?_) (fun g1 => ?_)
 ·try simp only [nm, ne_eq] at g1
  have hsn : s ≠ [] := by assumption
  have hsp := List.length_pos_iff.2 hsn
  refine w_yes 2 11 true <| st_move (v := S _) rfl <| w_yes 2 11 true <| st_sidx T.u9 rfl rfl (by omega) (by omega) <| w_yes 2 11 true <| st_eql rfl rfl <| w_yes 2 11 true <| st_move (v := .bool _) rfl <| w_split (d := 15) rfl (fun g2 => ?_) (fun g2 => ?_)
  ·try simp only [nm, ne_eq] at g2
   have h45 : ((byte s 0).toNat : Int) = 45 := by assumption
   iterate 3 refine w_no 6 15 false ?_
   refine w_yes 2 11 true <| st_pick (b := true) (v := .bool _) rfl rfl <| pT rfl rfl <| en <| x_cond (t := true) rfl (fun h0 => ?_) (fun h0 => ?_)
   rotate_left
   · exact absurd h0 (by decide)
   obtain ⟨hr, ht⟩ := rest_min hsn h45
   refine sr rfl <| mS rfl <| Wp rfl <| st_sidx T.u9 rfl rfl (by omega) (by omega) <| Wp rfl <| st_eql rfl rfl <| aB rfl <| en ?_
   have hsl : (List.drop 1 s).length ≤ s.length := by rw [List.length_drop]; omega
   refine x_region rfl <| mS rfl <| Wp rfl <| st_sslo (i := 1) T.u9 rfl ⟨_, rfl⟩ (by omega) <| aS rfl <| en <| x_seq <| sr rfl <| mS rfl <| Wp rfl <| st_seql rfl rfl <| en <| x_cond rfl (fun h1 => ?_) (fun h1 => ?_)
   ·try simp only [nm, ne_eq] at h1
    refine sr rfl <| aI rfl <| aB rfl <| en <| x_ret <| then_r <| ret_tmp2 (v := .int _ _) (v2 := .bool _) rfl rfl rfl ?_
    rw [num_nil (by rw [hr]; assumption)]
    first | exact ⟨rfl, HC⟩ | (rw [neg_wrap (by omega) (by omega)]; exact ⟨rfl, HC⟩) | (rw [Int.zero_sub, Int.neg_neg]; exact ⟨rfl, HC⟩)
   ·try simp only [nm, ne_eq] at h1
    have hrn : restV s ≠ [] := by rw [hr]; assumption
    refine x_skip <| then_n <| sr rfl <| aI rfl <| en <| sr rfl <| aI rfl <| en <| x_seq <| sr rfl <| aI rfl <| en <| x_block <| x_loop (ι := Nat × Nat) [2, 3, 5, 7, 8, 28, 29, 30, 31, 32, 33, 34, 35, 36, 37, 38, 39, 40, 41, 42, 43, 44, 45, 46, 47, 48, 49, 50, 51, 52, 53] (fun ⟨i, n⟩ => [(5, .int .u64 (n : Int)), (7, .int .i64 (i : Int))]) (fun ⟨i, n⟩ W => (i ≤ (List.drop 1 s).length ∧ n ≤ 9223372036854775808 ∧ numN 0 (List.drop 1 s) = numN (-(n : Int)) ((List.drop 1 s).drop i)) ∧ (Chg [] w W)) (fun ⟨i, n⟩ => (List.drop 1 s).length - i) (0, 0) ?_ ?_ ?_
    · exact ⟨rfl, rfl, trivial⟩
    ·refine ⟨?_, HC⟩
     exact ⟨Nat.zero_le _, Nat.zero_le _, rfl⟩
    intro ⟨i, n⟩ G4 w3 ⟨⟨hi, hn, hnm⟩, HC⟩
    change wp _ _ _ _ _ (upds (over _ _ G4) [(5, .int .u64 (n : Int)), (7, .int .i64 (i : Int))]) _ _
    refine x_seq <| sr rfl <| mI rfl <| mS rfl <| Wp rfl <| st_slen (ct := #[9]) T.u9 rfl <| Wp rfl <| st_lss rfl rfl <| en <| x_cond rfl (fun h2 => ?_) (fun h2 => ?_)
    ·try simp only [nm, ne_eq] at h2
     refine x_skip <| then_n <| x_seq <| x_block <| x_seq <| sr rfl <| mS rfl <| mI rfl <| Wp rfl <| st_sidx T.u9 rfl rfl (by omega) (by omega) <| Wp rfl <| st_call (ags := [_]) rfl rfl T.ent45 rfl (RDigit_spec _ _) ?_
     rintro _ w5 ⟨rfl, c6⟩
     replace HC := HC.then c6
     refine Wp rfl <| st_not rfl <| en <| x_cond rfl (fun h3 => ?_) (fun h3 => ?_)
     ·try simp only [nm, ne_eq] at h3
      refine sr rfl <| aI rfl <| aB rfl <| en <| x_ret <| then_r <| block_r <| then_r <| then_r <| block_r <| then_r <| ret_tmp2 (v := .int _ _) (v2 := .bool _) rfl rfl rfl ?_
      rw [num_none (by rw [hr, hnm, numN_step (by omega), if_pos (.inl (by first | assumption | simp_all))])]
      first | exact ⟨rfl, HC⟩ | (rw [neg_wrap (by omega) (by omega)]; exact ⟨rfl, HC⟩) | (rw [Int.zero_sub, Int.neg_neg]; exact ⟨rfl, HC⟩)
     ·try simp only [nm, ne_eq] at h3
      have hdg : digB (byte (List.drop 1 s) i) = true := by first | assumption | simp_all
      obtain ⟨hd0, hd9⟩ := dig_in hdg
      have hdv : dgV (byte (List.drop 1 s) i) = ((byte (List.drop 1 s) i).toNat : Int) - 48 := rfl
      have hwd : IntKind.u8.wrap (((byte (List.drop 1 s) i).toNat : Int) - 48) = ((byte (List.drop 1 s) i).toNat : Int) - 48 := wrapu8_id (by omega) (by omega)
      refine x_skip <| then_n <| sr rfl <| mS rfl <| mI rfl <| Wp rfl <| st_sidx T.u9 rfl rfl (by omega) (by omega) <| Wp rfl <| st_sub rfl rfl <| Wp rfl <| st_convInt T.u5 T.u66 rfl <| aI rfl <| en <| x_seq <| x_seq ?_
      rw [show IntKind.u8.wrap (((byte (List.drop 1 s) ((i : Nat) : Int).toNat).toNat : Int) - 48) = ((byte (List.drop 1 s) i).toNat : Int) - 48 from hwd]
      rw [wrapu64_id (by omega) (by omega)]
      refine x_region rfl <| mI rfl <| mI rfl <| mI rfl <| Wp rfl <| st_subk rfl rfl (by exact wrapu64_id (by first | omega | assumption) (by first | omega | assumption)) <| Wp rfl <| st_quok rfl rfl (by decide) (by exact quou64 (by first | omega | assumption) (by first | omega | assumption) (by first | omega | assumption)) <| Wp rfl <| st_gtr rfl rfl <| en <| x_cond rfl (fun h4 => ?_) (fun h4 => ?_)
      ·try simp only [nm, ne_eq] at h4
       refine sr rfl <| aI rfl <| aB rfl <| en <| x_ret <| then_r <| block_r <| then_r <| then_r <| block_r <| then_r <| ret_tmp2 (v := .int _ _) (v2 := .bool _) rfl rfl rfl ?_
       rw [num_none (by rw [hr, hnm, numN_step (by omega), if_pos (.inr (by rw [tq10 hd9]; omega))])]
       first | exact ⟨rfl, HC⟩ | (rw [neg_wrap (by omega) (by omega)]; exact ⟨rfl, HC⟩) | (rw [Int.zero_sub, Int.neg_neg]; exact ⟨rfl, HC⟩)
      ·try simp only [nm, ne_eq] at h4
       refine x_skip <| then_n <| x_region rfl <| mI rfl <| Wp rfl <| st_mulk rfl rfl (by exact wrapu64_id (by first | omega | assumption) (by first | omega | assumption)) <| mI rfl <| Wp rfl <| st_addk rfl rfl (by exact wrapu64_id (by first | omega | assumption) (by first | omega | assumption)) <| aI rfl <| wops_nil <| block_n <| then_n <| x_region rfl <| mI rfl <| Wp rfl <| st_addn rfl rfl (by constructor <;> omega) <| aI rfl <| en <| ⟨(i + 1, n * 10 + (byte (List.drop 1 s) i).toNat - 48), ?_, ?_, rfl, ⟨congrArg (Value.int .u64) (by omega), rfl, trivial⟩, ?_⟩
       ·refine ⟨?_, HC⟩
        exact ⟨by omega, by omega, by rw [hnm, numN_step (by omega), if_neg (by rintro (h | h); (rw [hdg] at h; cases h); (rw [tq10 hd9] at h; omega))]; congr 1; unfold dgV; omega⟩
       ·show (List.drop 1 s).length - (i + 1) < (List.drop 1 s).length - i; omega
       repeat (first | exact agree_upds agree_over rfl | refine agree_upd ?_ rfl | refine agree_upds ?_ rfl | refine agree_over_sub ?_ rfl)
    ·try simp only [nm, ne_eq] at h2
     have hev : numN 0 (restV s) = some (-(n : Int)) := by rw [hr, hnm, List.drop_of_length_le (by omega)]; rfl
     refine x_exit <| then_x <| then_x <| block_x <| then_n <| x_seq <| sr rfl <| mB rfl <| en <| x_cond rfl (fun h5 => ?_) (fun h5 => ?_)
     ·try simp only [nm, ne_eq] at h5
      refine sr rfl <| mI rfl <| Wp rfl <| st_neg rfl <| Wp rfl <| st_convInt T.u66 T.u2 rfl <| aI rfl <| aB rfl <| en <| x_ret <| then_r <| ret_tmp2 (v := .int _ _) (v2 := .bool _) rfl rfl rfl ?_
      rw [num_min hev hrn ht]
      first | exact ⟨rfl, HC⟩ | (rw [neg_wrap (by omega) (by omega)]; exact ⟨rfl, HC⟩) | (rw [Int.zero_sub, Int.neg_neg]; exact ⟨rfl, HC⟩)
     ·try simp only [nm, ne_eq] at h5
      exact absurd h45 h5
  ·try simp only [nm, ne_eq] at g2
   have h45 : ¬ ((byte s 0).toNat : Int) = 45 := by assumption
   refine w_yes 6 15 false <| st_move (v := S _) rfl <| w_yes 6 15 false <| st_sidx T.u9 rfl rfl (by omega) (by omega) <| w_yes 6 15 false <| st_eql rfl rfl <| w_yes 2 11 true <| st_pick (b := false) (v := .bool _) rfl rfl <| pT rfl rfl <| en <| x_cond rfl (fun h0 => ?_) (fun h0 => ?_)
   ·try simp only [nm, ne_eq] at h0
    obtain ⟨hr, ht⟩ := rest_plus hsn h45 (by assumption)
    refine sr rfl <| mS rfl <| Wp rfl <| st_sidx T.u9 rfl rfl (by omega) (by omega) <| Wp rfl <| st_eql rfl rfl <| aB rfl <| en ?_
    have hsl : (List.drop 1 s).length ≤ s.length := by rw [List.length_drop]; omega
    refine x_region rfl <| mS rfl <| Wp rfl <| st_sslo (i := 1) T.u9 rfl ⟨_, rfl⟩ (by omega) <| aS rfl <| en <| x_seq <| sr rfl <| mS rfl <| Wp rfl <| st_seql rfl rfl <| en <| x_cond rfl (fun h1 => ?_) (fun h1 => ?_)
    ·try simp only [nm, ne_eq] at h1
     refine sr rfl <| aI rfl <| aB rfl <| en <| x_ret <| then_r <| ret_tmp2 (v := .int _ _) (v2 := .bool _) rfl rfl rfl ?_
     rw [num_nil (by rw [hr]; assumption)]
     first | exact ⟨rfl, HC⟩ | (rw [neg_wrap (by omega) (by omega)]; exact ⟨rfl, HC⟩) | (rw [Int.zero_sub, Int.neg_neg]; exact ⟨rfl, HC⟩)
    ·try simp only [nm, ne_eq] at h1
     have hrn : restV s ≠ [] := by rw [hr]; assumption
     refine x_skip <| then_n <| sr rfl <| aI rfl <| en <| sr rfl <| aI rfl <| en <| x_seq <| sr rfl <| aI rfl <| en <| x_block <| x_loop (ι := Nat × Nat) [2, 3, 5, 7, 8, 28, 29, 30, 31, 32, 33, 34, 35, 36, 37, 38, 39, 40, 41, 42, 43, 44, 45, 46, 47, 48, 49, 50, 51, 52, 53] (fun ⟨i, n⟩ => [(5, .int .u64 (n : Int)), (7, .int .i64 (i : Int))]) (fun ⟨i, n⟩ W => (i ≤ (List.drop 1 s).length ∧ n ≤ 9223372036854775808 ∧ numN 0 (List.drop 1 s) = numN (-(n : Int)) ((List.drop 1 s).drop i)) ∧ (Chg [] w W)) (fun ⟨i, n⟩ => (List.drop 1 s).length - i) (0, 0) ?_ ?_ ?_
     · exact ⟨rfl, rfl, trivial⟩
     ·refine ⟨?_, HC⟩
      exact ⟨Nat.zero_le _, Nat.zero_le _, rfl⟩
     intro ⟨i, n⟩ G8 w7 ⟨⟨hi, hn, hnm⟩, HC⟩
     change wp _ _ _ _ _ (upds (over _ _ G8) [(5, .int .u64 (n : Int)), (7, .int .i64 (i : Int))]) _ _
     refine x_seq <| sr rfl <| mI rfl <| mS rfl <| Wp rfl <| st_slen (ct := #[9]) T.u9 rfl <| Wp rfl <| st_lss rfl rfl <| en <| x_cond rfl (fun h2 => ?_) (fun h2 => ?_)
     ·try simp only [nm, ne_eq] at h2
      refine x_skip <| then_n <| x_seq <| x_block <| x_seq <| sr rfl <| mS rfl <| mI rfl <| Wp rfl <| st_sidx T.u9 rfl rfl (by omega) (by omega) <| Wp rfl <| st_call (ags := [_]) rfl rfl T.ent45 rfl (RDigit_spec _ _) ?_
      rintro _ w9 ⟨rfl, c10⟩
      replace HC := HC.then c10
      refine Wp rfl <| st_not rfl <| en <| x_cond rfl (fun h3 => ?_) (fun h3 => ?_)
      ·try simp only [nm, ne_eq] at h3
       refine sr rfl <| aI rfl <| aB rfl <| en <| x_ret <| then_r <| block_r <| then_r <| then_r <| block_r <| then_r <| ret_tmp2 (v := .int _ _) (v2 := .bool _) rfl rfl rfl ?_
       rw [num_none (by rw [hr, hnm, numN_step (by omega), if_pos (.inl (by first | assumption | simp_all))])]
       first | exact ⟨rfl, HC⟩ | (rw [neg_wrap (by omega) (by omega)]; exact ⟨rfl, HC⟩) | (rw [Int.zero_sub, Int.neg_neg]; exact ⟨rfl, HC⟩)
      ·try simp only [nm, ne_eq] at h3
       have hdg : digB (byte (List.drop 1 s) i) = true := by first | assumption | simp_all
       obtain ⟨hd0, hd9⟩ := dig_in hdg
       have hdv : dgV (byte (List.drop 1 s) i) = ((byte (List.drop 1 s) i).toNat : Int) - 48 := rfl
       have hwd : IntKind.u8.wrap (((byte (List.drop 1 s) i).toNat : Int) - 48) = ((byte (List.drop 1 s) i).toNat : Int) - 48 := wrapu8_id (by omega) (by omega)
       refine x_skip <| then_n <| sr rfl <| mS rfl <| mI rfl <| Wp rfl <| st_sidx T.u9 rfl rfl (by omega) (by omega) <| Wp rfl <| st_sub rfl rfl <| Wp rfl <| st_convInt T.u5 T.u66 rfl <| aI rfl <| en <| x_seq <| x_seq ?_
       rw [show IntKind.u8.wrap (((byte (List.drop 1 s) ((i : Nat) : Int).toNat).toNat : Int) - 48) = ((byte (List.drop 1 s) i).toNat : Int) - 48 from hwd]
       rw [wrapu64_id (by omega) (by omega)]
       refine x_region rfl <| mI rfl <| mI rfl <| mI rfl <| Wp rfl <| st_subk rfl rfl (by exact wrapu64_id (by first | omega | assumption) (by first | omega | assumption)) <| Wp rfl <| st_quok rfl rfl (by decide) (by exact quou64 (by first | omega | assumption) (by first | omega | assumption) (by first | omega | assumption)) <| Wp rfl <| st_gtr rfl rfl <| en <| x_cond rfl (fun h4 => ?_) (fun h4 => ?_)
       ·try simp only [nm, ne_eq] at h4
        refine sr rfl <| aI rfl <| aB rfl <| en <| x_ret <| then_r <| block_r <| then_r <| then_r <| block_r <| then_r <| ret_tmp2 (v := .int _ _) (v2 := .bool _) rfl rfl rfl ?_
        rw [num_none (by rw [hr, hnm, numN_step (by omega), if_pos (.inr (by rw [tq10 hd9]; omega))])]
        first | exact ⟨rfl, HC⟩ | (rw [neg_wrap (by omega) (by omega)]; exact ⟨rfl, HC⟩) | (rw [Int.zero_sub, Int.neg_neg]; exact ⟨rfl, HC⟩)
       ·try simp only [nm, ne_eq] at h4
        refine x_skip <| then_n <| x_region rfl <| mI rfl <| Wp rfl <| st_mulk rfl rfl (by exact wrapu64_id (by first | omega | assumption) (by first | omega | assumption)) <| mI rfl <| Wp rfl <| st_addk rfl rfl (by exact wrapu64_id (by first | omega | assumption) (by first | omega | assumption)) <| aI rfl <| wops_nil <| block_n <| then_n <| x_region rfl <| mI rfl <| Wp rfl <| st_addn rfl rfl (by constructor <;> omega) <| aI rfl <| en <| ⟨(i + 1, n * 10 + (byte (List.drop 1 s) i).toNat - 48), ?_, ?_, rfl, ⟨congrArg (Value.int .u64) (by omega), rfl, trivial⟩, ?_⟩
        ·refine ⟨?_, HC⟩
         exact ⟨by omega, by omega, by rw [hnm, numN_step (by omega), if_neg (by rintro (h | h); (rw [hdg] at h; cases h); (rw [tq10 hd9] at h; omega))]; congr 1; unfold dgV; omega⟩
        ·show (List.drop 1 s).length - (i + 1) < (List.drop 1 s).length - i; omega
        repeat (first | exact agree_upds agree_over rfl | refine agree_upd ?_ rfl | refine agree_upds ?_ rfl | refine agree_over_sub ?_ rfl)
     ·try simp only [nm, ne_eq] at h2
      have hev : numN 0 (restV s) = some (-(n : Int)) := by rw [hr, hnm, List.drop_of_length_le (by omega)]; rfl
      refine x_exit <| then_x <| then_x <| block_x <| then_n <| x_seq <| sr rfl <| mB rfl <| en <| x_cond rfl (fun h5 => ?_) (fun h5 => ?_)
      ·try simp only [nm, ne_eq] at h5
       exact absurd h5 h45
      ·try simp only [nm, ne_eq] at h5
       refine x_skip <| then_n <| x_seq <| sr rfl <| mI rfl <| mI rfl <| Wp rfl <| st_eql rfl rfl <| en <| x_cond rfl (fun h6 => ?_) (fun h6 => ?_)
       ·try simp only [nm, ne_eq] at h6
        refine sr rfl <| aI rfl <| aB rfl <| en <| x_ret <| then_r <| ret_tmp2 (v := .int _ _) (v2 := .bool _) rfl rfl rfl ?_
        rw [num_top (by rw [hev]; congr 1; omega) ht]
        first | exact ⟨rfl, HC⟩ | (rw [neg_wrap (by omega) (by omega)]; exact ⟨rfl, HC⟩) | (rw [Int.zero_sub, Int.neg_neg]; exact ⟨rfl, HC⟩)
       ·try simp only [nm, ne_eq] at h6
        refine x_skip <| then_n <| sr rfl <| mI rfl <| Wp rfl <| st_convInt T.u66 T.u2 rfl <| aI rfl <| aB rfl <| en <| x_ret <| ret_tmp2 (v := .int _ _) (v2 := .bool _) rfl rfl rfl ?_
        rw [num_pos hev hrn ht (by omega)]
        first | exact ⟨rfl, HC⟩ | (rw [neg_wrap (by omega) (by omega)]; exact ⟨rfl, HC⟩) | (rw [Int.zero_sub, Int.neg_neg]; exact ⟨rfl, HC⟩)
   ·try simp only [nm, ne_eq] at h0
    obtain ⟨hr, ht⟩ : restV s = s ∧ Lib.trimPrefix s [45] = s := rest_no (by first | exact .inl hsz | exact .inr ⟨h45, by assumption⟩)
    refine x_skip <| then_n <| x_seq <| sr rfl <| mS rfl <| Wp rfl <| st_seql rfl rfl <| en <| x_cond rfl (fun h1 => ?_) (fun h1 => ?_)
    ·try simp only [nm, ne_eq] at h1
     refine sr rfl <| aI rfl <| aB rfl <| en <| x_ret <| then_r <| ret_tmp2 (v := .int _ _) (v2 := .bool _) rfl rfl rfl ?_
     rw [num_nil (by rw [hr]; assumption)]
     first | exact ⟨rfl, HC⟩ | (rw [neg_wrap (by omega) (by omega)]; exact ⟨rfl, HC⟩) | (rw [Int.zero_sub, Int.neg_neg]; exact ⟨rfl, HC⟩)
    ·try simp only [nm, ne_eq] at h1
     have hrn : restV s ≠ [] := by rw [hr]; assumption
     refine x_skip <| then_n <| sr rfl <| aI rfl <| en <| sr rfl <| aI rfl <| en <| x_seq <| sr rfl <| aI rfl <| en <| x_block <| x_loop (ι := Nat × Nat) [2, 3, 5, 7, 8, 28, 29, 30, 31, 32, 33, 34, 35, 36, 37, 38, 39, 40, 41, 42, 43, 44, 45, 46, 47, 48, 49, 50, 51, 52, 53] (fun ⟨i, n⟩ => [(5, .int .u64 (n : Int)), (7, .int .i64 (i : Int))]) (fun ⟨i, n⟩ W => (i ≤ (s).length ∧ n ≤ 9223372036854775808 ∧ numN 0 (s) = numN (-(n : Int)) ((s).drop i)) ∧ (Chg [] w W)) (fun ⟨i, n⟩ => (s).length - i) (0, 0) ?_ ?_ ?_
     · exact ⟨rfl, rfl, trivial⟩
     ·refine ⟨?_, HC⟩
      exact ⟨Nat.zero_le _, Nat.zero_le _, rfl⟩
     intro ⟨i, n⟩ G12 w11 ⟨⟨hi, hn, hnm⟩, HC⟩
     change wp _ _ _ _ _ (upds (over _ _ G12) [(5, .int .u64 (n : Int)), (7, .int .i64 (i : Int))]) _ _
     refine x_seq <| sr rfl <| mI rfl <| mS rfl <| Wp rfl <| st_slen (ct := #[9]) T.u9 rfl <| Wp rfl <| st_lss rfl rfl <| en <| x_cond rfl (fun h2 => ?_) (fun h2 => ?_)
     ·try simp only [nm, ne_eq] at h2
      refine x_skip <| then_n <| x_seq <| x_block <| x_seq <| sr rfl <| mS rfl <| mI rfl <| Wp rfl <| st_sidx T.u9 rfl rfl (by omega) (by omega) <| Wp rfl <| st_call (ags := [_]) rfl rfl T.ent45 rfl (RDigit_spec _ _) ?_
      rintro _ w13 ⟨rfl, c14⟩
      replace HC := HC.then c14
      refine Wp rfl <| st_not rfl <| en <| x_cond rfl (fun h3 => ?_) (fun h3 => ?_)
      ·try simp only [nm, ne_eq] at h3
       refine sr rfl <| aI rfl <| aB rfl <| en <| x_ret <| then_r <| block_r <| then_r <| then_r <| block_r <| then_r <| ret_tmp2 (v := .int _ _) (v2 := .bool _) rfl rfl rfl ?_
       rw [num_none (by rw [hr, hnm, numN_step (by omega), if_pos (.inl (by first | assumption | simp_all))])]
       first | exact ⟨rfl, HC⟩ | (rw [neg_wrap (by omega) (by omega)]; exact ⟨rfl, HC⟩) | (rw [Int.zero_sub, Int.neg_neg]; exact ⟨rfl, HC⟩)
      ·try simp only [nm, ne_eq] at h3
       have hdg : digB (byte (s) i) = true := by first | assumption | simp_all
       obtain ⟨hd0, hd9⟩ := dig_in hdg
       have hdv : dgV (byte (s) i) = ((byte (s) i).toNat : Int) - 48 := rfl
       have hwd : IntKind.u8.wrap (((byte (s) i).toNat : Int) - 48) = ((byte (s) i).toNat : Int) - 48 := wrapu8_id (by omega) (by omega)
       refine x_skip <| then_n <| sr rfl <| mS rfl <| mI rfl <| Wp rfl <| st_sidx T.u9 rfl rfl (by omega) (by omega) <| Wp rfl <| st_sub rfl rfl <| Wp rfl <| st_convInt T.u5 T.u66 rfl <| aI rfl <| en <| x_seq <| x_seq ?_
       rw [show IntKind.u8.wrap (((byte (s) ((i : Nat) : Int).toNat).toNat : Int) - 48) = ((byte (s) i).toNat : Int) - 48 from hwd]
       rw [wrapu64_id (by omega) (by omega)]
       refine x_region rfl <| mI rfl <| mI rfl <| mI rfl <| Wp rfl <| st_subk rfl rfl (by exact wrapu64_id (by first | omega | assumption) (by first | omega | assumption)) <| Wp rfl <| st_quok rfl rfl (by decide) (by exact quou64 (by first | omega | assumption) (by first | omega | assumption) (by first | omega | assumption)) <| Wp rfl <| st_gtr rfl rfl <| en <| x_cond rfl (fun h4 => ?_) (fun h4 => ?_)
       ·try simp only [nm, ne_eq] at h4
        refine sr rfl <| aI rfl <| aB rfl <| en <| x_ret <| then_r <| block_r <| then_r <| then_r <| block_r <| then_r <| ret_tmp2 (v := .int _ _) (v2 := .bool _) rfl rfl rfl ?_
        rw [num_none (by rw [hr, hnm, numN_step (by omega), if_pos (.inr (by rw [tq10 hd9]; omega))])]
        first | exact ⟨rfl, HC⟩ | (rw [neg_wrap (by omega) (by omega)]; exact ⟨rfl, HC⟩) | (rw [Int.zero_sub, Int.neg_neg]; exact ⟨rfl, HC⟩)
       ·try simp only [nm, ne_eq] at h4
        refine x_skip <| then_n <| x_region rfl <| mI rfl <| Wp rfl <| st_mulk rfl rfl (by exact wrapu64_id (by first | omega | assumption) (by first | omega | assumption)) <| mI rfl <| Wp rfl <| st_addk rfl rfl (by exact wrapu64_id (by first | omega | assumption) (by first | omega | assumption)) <| aI rfl <| wops_nil <| block_n <| then_n <| x_region rfl <| mI rfl <| Wp rfl <| st_addn rfl rfl (by constructor <;> omega) <| aI rfl <| en <| ⟨(i + 1, n * 10 + (byte (s) i).toNat - 48), ?_, ?_, rfl, ⟨congrArg (Value.int .u64) (by omega), rfl, trivial⟩, ?_⟩
        ·refine ⟨?_, HC⟩
         exact ⟨by omega, by omega, by rw [hnm, numN_step (by omega), if_neg (by rintro (h | h); (rw [hdg] at h; cases h); (rw [tq10 hd9] at h; omega))]; congr 1; unfold dgV; omega⟩
        ·show (s).length - (i + 1) < (s).length - i; omega
        repeat (first | exact agree_upds agree_over rfl | refine agree_upd ?_ rfl | refine agree_upds ?_ rfl | refine agree_over_sub ?_ rfl)
     ·try simp only [nm, ne_eq] at h2
      have hev : numN 0 (restV s) = some (-(n : Int)) := by rw [hr, hnm, List.drop_of_length_le (by omega)]; rfl
      refine x_exit <| then_x <| then_x <| block_x <| then_n <| x_seq <| sr rfl <| mB rfl <| en <| x_cond (t := false) rfl (fun h5 => ?_) (fun h5 => ?_)
      · exact absurd h5 (by decide)
      refine x_skip <| then_n <| x_seq <| sr rfl <| mI rfl <| mI rfl <| Wp rfl <| st_eql rfl rfl <| en <| x_cond rfl (fun h6 => ?_) (fun h6 => ?_)
      ·try simp only [nm, ne_eq] at h6
       refine sr rfl <| aI rfl <| aB rfl <| en <| x_ret <| then_r <| ret_tmp2 (v := .int _ _) (v2 := .bool _) rfl rfl rfl ?_
       rw [num_top (by rw [hev]; congr 1; omega) ht]
       first | exact ⟨rfl, HC⟩ | (rw [neg_wrap (by omega) (by omega)]; exact ⟨rfl, HC⟩) | (rw [Int.zero_sub, Int.neg_neg]; exact ⟨rfl, HC⟩)
      ·try simp only [nm, ne_eq] at h6
       refine x_skip <| then_n <| sr rfl <| mI rfl <| Wp rfl <| st_convInt T.u66 T.u2 rfl <| aI rfl <| aB rfl <| en <| x_ret <| ret_tmp2 (v := .int _ _) (v2 := .bool _) rfl rfl rfl ?_
       rw [num_pos hev hrn ht (by omega)]
       first | exact ⟨rfl, HC⟩ | (rw [neg_wrap (by omega) (by omega)]; exact ⟨rfl, HC⟩) | (rw [Int.zero_sub, Int.neg_neg]; exact ⟨rfl, HC⟩)
 ·try simp only [nm, ne_eq] at g1
  have hsz : s = [] := by first | assumption | simp_all
  iterate 4 refine w_no 2 11 true ?_
  iterate 3 refine w_no 6 15 false ?_
  refine w_no 2 11 true <| pF rfl rfl <| en <| x_cond (t := false) rfl (fun h0 => ?_) (fun h0 => ?_)
  · exact absurd h0 (by decide)
  obtain ⟨hr, ht⟩ : restV s = s ∧ Lib.trimPrefix s [45] = s := rest_no (by first | exact .inl hsz | exact .inr ⟨h45, by assumption⟩)
  refine x_skip <| then_n <| x_seq <| sr rfl <| mS rfl <| Wp rfl <| st_seql rfl rfl <| en <| x_cond rfl (fun h1 => ?_) (fun h1 => ?_)
  ·try simp only [nm, ne_eq] at h1
   refine sr rfl <| aI rfl <| aB rfl <| en <| x_ret <| then_r <| ret_tmp2 (v := .int _ _) (v2 := .bool _) rfl rfl rfl ?_
   rw [num_nil (by rw [hr]; assumption)]
   first | exact ⟨rfl, HC⟩ | (rw [neg_wrap (by omega) (by omega)]; exact ⟨rfl, HC⟩) | (rw [Int.zero_sub, Int.neg_neg]; exact ⟨rfl, HC⟩)
  ·try simp only [nm, ne_eq] at h1
   have hrn : restV s ≠ [] := by rw [hr]; assumption
   refine x_skip <| then_n <| sr rfl <| aI rfl <| en <| sr rfl <| aI rfl <| en <| x_seq <| sr rfl <| aI rfl <| en <| x_block <| x_loop (ι := Nat × Nat) [2, 3, 5, 7, 8, 28, 29, 30, 31, 32, 33, 34, 35, 36, 37, 38, 39, 40, 41, 42, 43, 44, 45, 46, 47, 48, 49, 50, 51, 52, 53] (fun ⟨i, n⟩ => [(5, .int .u64 (n : Int)), (7, .int .i64 (i : Int))]) (fun ⟨i, n⟩ W => (i ≤ (s).length ∧ n ≤ 9223372036854775808 ∧ numN 0 (s) = numN (-(n : Int)) ((s).drop i)) ∧ (Chg [] w W)) (fun ⟨i, n⟩ => (s).length - i) (0, 0) ?_ ?_ ?_
   · exact ⟨rfl, rfl, trivial⟩
   ·refine ⟨?_, HC⟩
    exact ⟨Nat.zero_le _, Nat.zero_le _, rfl⟩
   intro ⟨i, n⟩ G16 w15 ⟨⟨hi, hn, hnm⟩, HC⟩
   change wp _ _ _ _ _ (upds (over _ _ G16) [(5, .int .u64 (n : Int)), (7, .int .i64 (i : Int))]) _ _
   refine x_seq <| sr rfl <| mI rfl <| mS rfl <| Wp rfl <| st_slen (ct := #[9]) T.u9 rfl <| Wp rfl <| st_lss rfl rfl <| en <| x_cond rfl (fun h2 => ?_) (fun h2 => ?_)
   ·try simp only [nm, ne_eq] at h2
    refine x_skip <| then_n <| x_seq <| x_block <| x_seq <| sr rfl <| mS rfl <| mI rfl <| Wp rfl <| st_sidx T.u9 rfl rfl (by omega) (by omega) <| Wp rfl <| st_call (ags := [_]) rfl rfl T.ent45 rfl (RDigit_spec _ _) ?_
    rintro _ w17 ⟨rfl, c18⟩
    replace HC := HC.then c18
    refine Wp rfl <| st_not rfl <| en <| x_cond rfl (fun h3 => ?_) (fun h3 => ?_)
    ·try simp only [nm, ne_eq] at h3
     refine sr rfl <| aI rfl <| aB rfl <| en <| x_ret <| then_r <| block_r <| then_r <| then_r <| block_r <| then_r <| ret_tmp2 (v := .int _ _) (v2 := .bool _) rfl rfl rfl ?_
     rw [num_none (by rw [hr, hnm, numN_step (by omega), if_pos (.inl (by first | assumption | simp_all))])]
     first | exact ⟨rfl, HC⟩ | (rw [neg_wrap (by omega) (by omega)]; exact ⟨rfl, HC⟩) | (rw [Int.zero_sub, Int.neg_neg]; exact ⟨rfl, HC⟩)
    ·try simp only [nm, ne_eq] at h3
     have hdg : digB (byte (s) i) = true := by first | assumption | simp_all
     obtain ⟨hd0, hd9⟩ := dig_in hdg
     have hdv : dgV (byte (s) i) = ((byte (s) i).toNat : Int) - 48 := rfl
     have hwd : IntKind.u8.wrap (((byte (s) i).toNat : Int) - 48) = ((byte (s) i).toNat : Int) - 48 := wrapu8_id (by omega) (by omega)
     refine x_skip <| then_n <| sr rfl <| mS rfl <| mI rfl <| Wp rfl <| st_sidx T.u9 rfl rfl (by omega) (by omega) <| Wp rfl <| st_sub rfl rfl <| Wp rfl <| st_convInt T.u5 T.u66 rfl <| aI rfl <| en <| x_seq <| x_seq ?_
     rw [show IntKind.u8.wrap (((byte (s) ((i : Nat) : Int).toNat).toNat : Int) - 48) = ((byte (s) i).toNat : Int) - 48 from hwd]
     rw [wrapu64_id (by omega) (by omega)]
     refine x_region rfl <| mI rfl <| mI rfl <| mI rfl <| Wp rfl <| st_subk rfl rfl (by exact wrapu64_id (by first | omega | assumption) (by first | omega | assumption)) <| Wp rfl <| st_quok rfl rfl (by decide) (by exact quou64 (by first | omega | assumption) (by first | omega | assumption) (by first | omega | assumption)) <| Wp rfl <| st_gtr rfl rfl <| en <| x_cond rfl (fun h4 => ?_) (fun h4 => ?_)
     ·try simp only [nm, ne_eq] at h4
      refine sr rfl <| aI rfl <| aB rfl <| en <| x_ret <| then_r <| block_r <| then_r <| then_r <| block_r <| then_r <| ret_tmp2 (v := .int _ _) (v2 := .bool _) rfl rfl rfl ?_
      rw [num_none (by rw [hr, hnm, numN_step (by omega), if_pos (.inr (by rw [tq10 hd9]; omega))])]
      first | exact ⟨rfl, HC⟩ | (rw [neg_wrap (by omega) (by omega)]; exact ⟨rfl, HC⟩) | (rw [Int.zero_sub, Int.neg_neg]; exact ⟨rfl, HC⟩)
     ·try simp only [nm, ne_eq] at h4
      refine x_skip <| then_n <| x_region rfl <| mI rfl <| Wp rfl <| st_mulk rfl rfl (by exact wrapu64_id (by first | omega | assumption) (by first | omega | assumption)) <| mI rfl <| Wp rfl <| st_addk rfl rfl (by exact wrapu64_id (by first | omega | assumption) (by first | omega | assumption)) <| aI rfl <| wops_nil <| block_n <| then_n <| x_region rfl <| mI rfl <| Wp rfl <| st_addn rfl rfl (by constructor <;> omega) <| aI rfl <| en <| ⟨(i + 1, n * 10 + (byte (s) i).toNat - 48), ?_, ?_, rfl, ⟨congrArg (Value.int .u64) (by omega), rfl, trivial⟩, ?_⟩
      ·refine ⟨?_, HC⟩
       exact ⟨by omega, by omega, by rw [hnm, numN_step (by omega), if_neg (by rintro (h | h); (rw [hdg] at h; cases h); (rw [tq10 hd9] at h; omega))]; congr 1; unfold dgV; omega⟩
      ·show (s).length - (i + 1) < (s).length - i; omega
      repeat (first | exact agree_upds agree_over rfl | refine agree_upd ?_ rfl | refine agree_upds ?_ rfl | refine agree_over_sub ?_ rfl)
   ·try simp only [nm, ne_eq] at h2
    have hev : numN 0 (restV s) = some (-(n : Int)) := by rw [hr, hnm, List.drop_of_length_le (by omega)]; rfl
    refine x_exit <| then_x <| then_x <| block_x <| then_n <| x_seq <| sr rfl <| mB rfl <| en <| x_cond (t := false) rfl (fun h5 => ?_) (fun h5 => ?_)
    · exact absurd h5 (by decide)
    refine x_skip <| then_n <| x_seq <| sr rfl <| mI rfl <| mI rfl <| Wp rfl <| st_eql rfl rfl <| en <| x_cond rfl (fun h6 => ?_) (fun h6 => ?_)
    ·try simp only [nm, ne_eq] at h6
     refine sr rfl <| aI rfl <| aB rfl <| en <| x_ret <| then_r <| ret_tmp2 (v := .int _ _) (v2 := .bool _) rfl rfl rfl ?_
     rw [num_top (by rw [hev]; congr 1; omega) ht]
     first | exact ⟨rfl, HC⟩ | (rw [neg_wrap (by omega) (by omega)]; exact ⟨rfl, HC⟩) | (rw [Int.zero_sub, Int.neg_neg]; exact ⟨rfl, HC⟩)
    ·try simp only [nm, ne_eq] at h6
     refine x_skip <| then_n <| sr rfl <| mI rfl <| Wp rfl <| st_convInt T.u66 T.u2 rfl <| aI rfl <| aB rfl <| en <| x_ret <| ret_tmp2 (v := .int _ _) (v2 := .bool _) rfl rfl rfl ?_
     rw [num_pos hev hrn ht (by omega)]
     first | exact ⟨rfl, HC⟩ | (rw [neg_wrap (by omega) (by omega)]; exact ⟨rfl, HC⟩) | (rw [Int.zero_sub, Int.neg_neg]; exact ⟨rfl, HC⟩)

end Go.Proofs.YtpelmhoocepenaaGreatDoor.K
