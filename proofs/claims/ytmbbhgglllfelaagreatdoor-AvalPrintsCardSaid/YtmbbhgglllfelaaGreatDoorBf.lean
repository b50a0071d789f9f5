/- Walks: the document's own answers. -/
import Derived.Test.YtmbbhgglllfelaaGreatDoorBe
import Derived.Test.YtmbbhgglllfelaaGreatDoorKitQ
set_option linter.unusedVariables false
set_option linter.unusedSimpArgs false
set_option autoImplicit false
set_option maxRecDepth 20000
namespace Go.Proofs.YtmbbhgglllfelaaGreatDoor.K
open Go Go.Proofs Go.RowKit

theorem take_same {α : Type} {a b : List α} {i : Nat} {x y : α} (h : a.take i = b.take i) (hx : a[i]? = some x) (hy : b[i]? = some y) (he : x = y) : a.take (i + 1) = b.take (i + 1) := by
  rw [List.take_add_one, List.take_add_one, h, hx, hy, he]
def rdV (c : UInt8) (b : Int) : Int := if b ≤ digV c then -1 else digV c
theorem digV_tab (c : UInt8) : digV c = if 48 ≤ c.toNat ∧ c.toNat ≤ 57 then (c.toNat : Int) - 48 else if 97 ≤ c.toNat ∧ c.toNat ≤ 102 then (c.toNat : Int) - 87 else if 65 ≤ c.toNat ∧ c.toNat ≤ 70 then (c.toNat : Int) - 55 else -1 := by
  have h : ((List.range 256).all fun n => decide (digV (UInt8.ofNat n) = if 48 ≤ n ∧ n ≤ 57 then (n : Int) - 48 else if 97 ≤ n ∧ n ≤ 102 then (n : Int) - 87 else if 65 ≤ n ∧ n ≤ 70 then (n : Int) - 55 else -1)) = true := by kernel_rfl
  have h2 := List.all_eq_true.1 h c.toNat (List.mem_range.2 c.toNat_lt)
  simpa using of_decide_eq_true h2
theorem rdV_ok {c : UInt8} {b : Int} (h : ¬ rdV c b < 0) : rdV c b = digV c ∧ 0 ≤ digV c ∧ digV c < b := by
  unfold rdV at *
  split at h
  · exact absurd (by omega) h
  · rename_i h2; rw [if_neg h2]; omega
theorem rdV_no {c : UInt8} {b : Int} (h : rdV c b < 0) : digV c < 0 ∨ b ≤ digV c := by
  unfold rdV at *
  split at h
  · right; assumption
  · left; exact h
def opV (s : Bytes) : Bytes := (opsL.find? (Lib.hasPrefix s)).getD []
theorem pre_cut {s o : Bytes} {i : Nat} (hi : i ≤ s.length) : Lib.hasPrefix (s.drop i) o = true ↔ i + o.length ≤ s.length ∧ (s.take (i + o.length)).drop i = o := by
  rw [← Lib.hasPrefix_of_take, Bool.and_eq_true, decide_eq_true_eq, beq_iff_eq, List.length_drop, List.drop_take, show i + o.length - i = o.length by omega]
  constructor <;> rintro ⟨h1, h2⟩ <;> exact ⟨by omega, h2⟩
theorem find_drop {α : Type} {q : α → Bool} {l : List α} {i : Nat} {x : α} (h : l[i]? = some x) : (l.drop i).find? q = if q x = true then some x else (l.drop (i + 1)).find? q := by
  obtain ⟨hi, he⟩ := List.getElem?_eq_some_iff.1 h
  rw [List.drop_eq_getElem_cons hi, he, List.find?_cons]
  cases q x <;> simp




theorem r_begins (c : UInt8) (w : World) : CallR Tryz.prog 35 #[.int .u8 (c.toNat : Int)] w fun v w' => v = .bool (begB c) ∧ Chg [] w w' := by
 refine callR_of_wp (args := [_]) Tryz.func35 rfl (Nat.le_of_ble_eq_true rfl) ?_
 have HC : Chg [] w w := .refl _
 refine sr rfl <| aB rfl <| en <| sr rfl <| mI rfl <| Wp rfl <| st_geq rfl rfl <| mB rfl <| w_split (d := 5) rfl (fun g1 => ?_) (fun g1 => ?_)
 ·try simp only [nm, ne_eq] at g1
  refine w_yes 2 5 true <| st_move (v := .int _ _) rfl <| w_yes 2 5 true <| st_leq rfl rfl <| pT rfl rfl <| mB rfl <| w_split (d := 9) rfl (fun g2 => ?_) (fun g2 => ?_)
  ·try simp only [nm, ne_eq] at g2
   iterate 3 refine w_no 6 9 false ?_
   refine w_no 9 12 true <| w_no 9 12 true <| w_no 6 9 false <| pT rfl rfl <| mB rfl <| w_no 14 17 false <| w_no 14 17 false <| pT rfl rfl <| aB rfl <| en <| x_ret <| ret_tmp (v := .bool _) rfl rfl ?_
   have hc := c.toNat_lt
   refine ⟨congrArg Value.bool ?_, HC⟩
   rw [Bool.eq_iff_iff]
   (try simp only [upB, loB, digB, alphaB, begB, wordB, blankB, wrap_u8, Bool.or_eq_true, Bool.and_eq_true, Bool.or_eq_false_iff, Bool.and_eq_false_imp, decide_eq_true_eq, decide_eq_false_iff_not] at *)
   (try simp only [true_iff, false_iff, iff_true, iff_false, Bool.false_eq_true])
   omega
  ·try simp only [nm, ne_eq] at g2
   refine w_yes 6 9 false <| st_move (v := .int _ _) rfl <| w_yes 6 9 false <| st_geq rfl rfl <| w_yes 6 9 false <| st_move (v := .bool _) rfl <| w_split (d := 12) rfl (fun g3 => ?_) (fun g3 => ?_)
   ·try simp only [nm, ne_eq] at g3
    refine w_yes 9 12 true <| st_move (v := .int _ _) rfl <| w_yes 9 12 true <| st_leq rfl rfl <| w_yes 6 9 false <| st_pick (b := true) (v := .bool _) rfl rfl <| pF rfl rfl <| mB rfl <| w_split (d := 17) rfl (fun g4 => ?_) (fun g4 => ?_)
    ·try simp only [nm, ne_eq] at g4
     refine w_no 14 17 false <| w_no 14 17 false <| pT rfl rfl <| aB rfl <| en <| x_ret <| ret_tmp (v := .bool _) rfl rfl ?_
     have hc := c.toNat_lt
     refine ⟨congrArg Value.bool ?_, HC⟩
     rw [Bool.eq_iff_iff]
     (try simp only [upB, loB, digB, alphaB, begB, wordB, blankB, wrap_u8, Bool.or_eq_true, Bool.and_eq_true, Bool.or_eq_false_iff, Bool.and_eq_false_imp, decide_eq_true_eq, decide_eq_false_iff_not] at *)
     (try simp only [true_iff, false_iff, iff_true, iff_false, Bool.false_eq_true])
     omega
    ·try simp only [nm, ne_eq] at g4
     refine w_yes 14 17 false <| st_move (v := .int _ _) rfl <| w_yes 14 17 false <| st_eql rfl rfl <| pF rfl rfl <| aB rfl <| en <| x_ret <| ret_tmp (v := .bool _) rfl rfl ?_
     have hc := c.toNat_lt
     refine ⟨congrArg Value.bool ?_, HC⟩
     rw [Bool.eq_iff_iff]
     (try simp only [upB, loB, digB, alphaB, begB, wordB, blankB, wrap_u8, Bool.or_eq_true, Bool.and_eq_true, Bool.or_eq_false_iff, Bool.and_eq_false_imp, decide_eq_true_eq, decide_eq_false_iff_not] at *)
     (try simp only [true_iff, false_iff, iff_true, iff_false, Bool.false_eq_true])
     omega
   ·try simp only [nm, ne_eq] at g3
    refine w_no 9 12 true <| w_no 9 12 true <| w_yes 6 9 false <| st_pick (b := false) (v := .bool _) rfl rfl <| pF rfl rfl <| mB rfl <| w_yes 14 17 false <| st_move (v := .int _ _) rfl <| w_yes 14 17 false <| st_eql rfl rfl <| pF rfl rfl <| aB rfl <| en <| x_ret <| ret_tmp (v := .bool _) rfl rfl ?_
    have hc := c.toNat_lt
    refine ⟨congrArg Value.bool ?_, HC⟩
    rw [Bool.eq_iff_iff]
    (try simp only [upB, loB, digB, alphaB, begB, wordB, blankB, wrap_u8, Bool.or_eq_true, Bool.and_eq_true, Bool.or_eq_false_iff, Bool.and_eq_false_imp, decide_eq_true_eq, decide_eq_false_iff_not] at *)
    (try simp only [true_iff, false_iff, iff_true, iff_false, Bool.false_eq_true])
    omega
 ·try simp only [nm, ne_eq] at g1
  refine w_no 2 5 true <| w_no 2 5 true <| pF rfl rfl <| mB rfl <| w_yes 6 9 false <| st_move (v := .int _ _) rfl <| w_yes 6 9 false <| st_geq rfl rfl <| w_yes 6 9 false <| st_move (v := .bool _) rfl <| w_split (d := 12) rfl (fun g5 => ?_) (fun g5 => ?_)
  ·try simp only [nm, ne_eq] at g5
   refine w_yes 9 12 true <| st_move (v := .int _ _) rfl <| w_yes 9 12 true <| st_leq rfl rfl <| w_yes 6 9 false <| st_pick (b := true) (v := .bool _) rfl rfl <| pF rfl rfl <| mB rfl <| w_split (d := 17) rfl (fun g6 => ?_) (fun g6 => ?_)
   ·try simp only [nm, ne_eq] at g6
    refine w_no 14 17 false <| w_no 14 17 false <| pT rfl rfl <| aB rfl <| en <| x_ret <| ret_tmp (v := .bool _) rfl rfl ?_
    have hc := c.toNat_lt
    refine ⟨congrArg Value.bool ?_, HC⟩
    rw [Bool.eq_iff_iff]
    (try simp only [upB, loB, digB, alphaB, begB, wordB, blankB, wrap_u8, Bool.or_eq_true, Bool.and_eq_true, Bool.or_eq_false_iff, Bool.and_eq_false_imp, decide_eq_true_eq, decide_eq_false_iff_not] at *)
    (try simp only [true_iff, false_iff, iff_true, iff_false, Bool.false_eq_true])
    omega
   ·try simp only [nm, ne_eq] at g6
    refine w_yes 14 17 false <| st_move (v := .int _ _) rfl <| w_yes 14 17 false <| st_eql rfl rfl <| pF rfl rfl <| aB rfl <| en <| x_ret <| ret_tmp (v := .bool _) rfl rfl ?_
    have hc := c.toNat_lt
    refine ⟨congrArg Value.bool ?_, HC⟩
    rw [Bool.eq_iff_iff]
    (try simp only [upB, loB, digB, alphaB, begB, wordB, blankB, wrap_u8, Bool.or_eq_true, Bool.and_eq_true, Bool.or_eq_false_iff, Bool.and_eq_false_imp, decide_eq_true_eq, decide_eq_false_iff_not] at *)
    (try simp only [true_iff, false_iff, iff_true, iff_false, Bool.false_eq_true])
    omega
  ·try simp only [nm, ne_eq] at g5
   refine w_no 9 12 true <| w_no 9 12 true <| w_yes 6 9 false <| st_pick (b := false) (v := .bool _) rfl rfl <| pF rfl rfl <| mB rfl <| w_yes 14 17 false <| st_move (v := .int _ _) rfl <| w_yes 14 17 false <| st_eql rfl rfl <| pF rfl rfl <| aB rfl <| en <| x_ret <| ret_tmp (v := .bool _) rfl rfl ?_
   have hc := c.toNat_lt
   refine ⟨congrArg Value.bool ?_, HC⟩
   rw [Bool.eq_iff_iff]
   (try simp only [upB, loB, digB, alphaB, begB, wordB, blankB, wrap_u8, Bool.or_eq_true, Bool.and_eq_true, Bool.or_eq_false_iff, Bool.and_eq_false_imp, decide_eq_true_eq, decide_eq_false_iff_not] at *)
   (try simp only [true_iff, false_iff, iff_true, iff_false, Bool.false_eq_true])
   omega

theorem r_digitb (c : UInt8) (w : World) : CallR Tryz.prog 36 #[.int .u8 (c.toNat : Int)] w fun v w' => v = .bool (digB c) ∧ Chg [] w w' := by
 refine callR_of_wp (args := [_]) Tryz.func36 rfl (Nat.le_of_ble_eq_true rfl) ?_
 have HC : Chg [] w w := .refl _
 refine sr rfl <| aB rfl <| en <| sr rfl <| mI rfl <| Wp rfl <| st_geq rfl rfl <| mB rfl <| w_split (d := 5) rfl (fun g1 => ?_) (fun g1 => ?_)
 ·try simp only [nm, ne_eq] at g1
  refine w_yes 2 5 true <| st_move (v := .int _ _) rfl <| w_yes 2 5 true <| st_leq rfl rfl <| pT rfl rfl <| aB rfl <| en <| x_ret <| ret_tmp (v := .bool _) rfl rfl ?_
  have hc := c.toNat_lt
  refine ⟨congrArg Value.bool ?_, HC⟩
  rw [Bool.eq_iff_iff]
  (try simp only [upB, loB, digB, alphaB, begB, wordB, blankB, wrap_u8, Bool.or_eq_true, Bool.and_eq_true, Bool.or_eq_false_iff, Bool.and_eq_false_imp, decide_eq_true_eq, decide_eq_false_iff_not] at *)
  (try simp only [true_iff, false_iff, iff_true, iff_false, Bool.false_eq_true])
  omega
 ·try simp only [nm, ne_eq] at g1
  refine w_no 2 5 true <| w_no 2 5 true <| pF rfl rfl <| aB rfl <| en <| x_ret <| ret_tmp (v := .bool _) rfl rfl ?_
  have hc := c.toNat_lt
  refine ⟨congrArg Value.bool ?_, HC⟩
  rw [Bool.eq_iff_iff]
  (try simp only [upB, loB, digB, alphaB, begB, wordB, blankB, wrap_u8, Bool.or_eq_true, Bool.and_eq_true, Bool.or_eq_false_iff, Bool.and_eq_false_imp, decide_eq_true_eq, decide_eq_false_iff_not] at *)
  (try simp only [true_iff, false_iff, iff_true, iff_false, Bool.false_eq_true])
  omega

theorem r_digit (c : UInt8) (b : Int) (w : World) (hb : 0 < b) : CallR Tryz.prog 54 #[.int .u8 (c.toNat : Int), .int .i64 b] w fun v w' => v = .int .i64 (rdV c b) ∧ Chg [] w w' := by
 refine callR_of_wp (args := [_, _]) Tryz.func54 rfl (Nat.le_of_ble_eq_true rfl) ?_
 have HC : Chg [] w w := .refl _
 have hc := c.toNat_lt
 refine sr rfl <| aI rfl <| en <| sr rfl <| aI rfl <| en <| x_seq <| x_block <| sr rfl <| mI rfl <| Wp rfl <| st_geq rfl rfl <| mB rfl <| w_split (d := 9) rfl (fun g1 => ?_) (fun g1 => ?_)
 ·try simp only [nm, ne_eq] at g1
  refine w_yes 2 9 true <| st_move (v := .int _ _) rfl <| w_yes 2 9 true <| st_leq rfl rfl <| pT rfl rfl <| aB rfl <| en <| x_cond rfl (fun h0 => ?_) (fun h0 => ?_)
  ·try simp only [nm, ne_eq] at h0
   refine x_region rfl <| mI rfl <| Wp rfl <| st_subk rfl rfl (by exact wrapu8_id (by first | omega | assumption) (by first | omega | assumption)) <| Wp rfl <| st_convk T.u5 T.u3 rfl (by exact wrap64_id (by first | omega | assumption) (by first | omega | assumption)) <| aI rfl <| wops_nil <| block_n <| then_n <| x_seq <| sr rfl <| mI rfl <| mI rfl <| Wp rfl <| st_geq rfl rfl <| en <| x_cond rfl (fun h3 => ?_) (fun h3 => ?_)
   ·try simp only [nm, ne_eq] at h3
    refine sr rfl <| aI rfl <| en <| x_ret <| then_r <| ret_tmp (v := .int _ _) rfl rfl <| ⟨congrArg (Value.int .i64) ?_, HC⟩
    unfold rdV
    rw [digV_tab]
    repeat' split
    all_goals omega
   ·try simp only [nm, ne_eq] at h3
    refine x_skip <| then_n <| sr rfl <| mI rfl <| aI rfl <| en <| x_ret <| ret_tmp (v := .int _ _) rfl rfl <| ⟨congrArg (Value.int .i64) ?_, HC⟩
    unfold rdV
    rw [digV_tab]
    repeat' split
    all_goals omega
  ·try simp only [nm, ne_eq] at h0
   refine sr rfl <| mI rfl <| Wp rfl <| st_geq rfl rfl <| mB rfl <| w_split (d := 19) rfl (fun g2 => ?_) (fun g2 => ?_)
   ·try simp only [nm, ne_eq] at g2
    refine w_yes 2 19 true <| st_move (v := .int _ _) rfl <| w_yes 2 19 true <| st_leq rfl rfl <| pT rfl rfl <| aB rfl <| en <| x_cond rfl (fun h1 => ?_) (fun h1 => ?_)
    ·try simp only [nm, ne_eq] at h1
     refine x_region rfl <| mI rfl <| Wp rfl <| st_subk rfl rfl (by exact wrapu8_id (by first | omega | assumption) (by first | omega | assumption)) <| Wp rfl <| st_convk T.u5 T.u3 rfl (by exact wrap64_id (by first | omega | assumption) (by first | omega | assumption)) <| Wp rfl <| st_addn rfl rfl (by constructor <;> omega) <| aI rfl <| wops_nil <| block_n <| then_n <| x_seq <| sr rfl <| mI rfl <| mI rfl <| Wp rfl <| st_geq rfl rfl <| en <| x_cond rfl (fun h3 => ?_) (fun h3 => ?_)
     ·try simp only [nm, ne_eq] at h3
      refine sr rfl <| aI rfl <| en <| x_ret <| then_r <| ret_tmp (v := .int _ _) rfl rfl <| ⟨congrArg (Value.int .i64) ?_, HC⟩
      unfold rdV
      rw [digV_tab]
      repeat' split
      all_goals omega
     ·try simp only [nm, ne_eq] at h3
      refine x_skip <| then_n <| sr rfl <| mI rfl <| aI rfl <| en <| x_ret <| ret_tmp (v := .int _ _) rfl rfl <| ⟨congrArg (Value.int .i64) ?_, HC⟩
      unfold rdV
      rw [digV_tab]
      repeat' split
      all_goals omega
    ·try simp only [nm, ne_eq] at h1
     refine sr rfl <| mI rfl <| Wp rfl <| st_geq rfl rfl <| mB rfl <| w_split (d := 30) rfl (fun g3 => ?_) (fun g3 => ?_)
     ·try simp only [nm, ne_eq] at g3
      refine w_yes 2 30 true <| st_move (v := .int _ _) rfl <| w_yes 2 30 true <| st_leq rfl rfl <| pT rfl rfl <| aB rfl <| en <| x_cond rfl (fun h2 => ?_) (fun h2 => ?_)
      ·try simp only [nm, ne_eq] at h2
       refine x_region rfl <| mI rfl <| Wp rfl <| st_subk rfl rfl (by exact wrapu8_id (by first | omega | assumption) (by first | omega | assumption)) <| Wp rfl <| st_convk T.u5 T.u3 rfl (by exact wrap64_id (by first | omega | assumption) (by first | omega | assumption)) <| Wp rfl <| st_addn rfl rfl (by constructor <;> omega) <| aI rfl <| wops_nil <| block_n <| then_n <| x_seq <| sr rfl <| mI rfl <| mI rfl <| Wp rfl <| st_geq rfl rfl <| en <| x_cond rfl (fun h3 => ?_) (fun h3 => ?_)
       ·try simp only [nm, ne_eq] at h3
        refine sr rfl <| aI rfl <| en <| x_ret <| then_r <| ret_tmp (v := .int _ _) rfl rfl <| ⟨congrArg (Value.int .i64) ?_, HC⟩
        unfold rdV
        rw [digV_tab]
        repeat' split
        all_goals omega
       ·try simp only [nm, ne_eq] at h3
        refine x_skip <| then_n <| sr rfl <| mI rfl <| aI rfl <| en <| x_ret <| ret_tmp (v := .int _ _) rfl rfl <| ⟨congrArg (Value.int .i64) ?_, HC⟩
        unfold rdV
        rw [digV_tab]
        repeat' split
        all_goals omega
      ·try simp only [nm, ne_eq] at h2
       refine x_skip <| block_n <| then_n <| x_seq <| sr rfl <| mI rfl <| mI rfl <| Wp rfl <| st_geq rfl rfl <| en <| x_cond rfl (fun h3 => ?_) (fun h3 => ?_)
       ·try simp only [nm, ne_eq] at h3
        refine sr rfl <| aI rfl <| en <| x_ret <| then_r <| ret_tmp (v := .int _ _) rfl rfl <| ⟨congrArg (Value.int .i64) ?_, HC⟩
        unfold rdV
        rw [digV_tab]
        repeat' split
        all_goals omega
       ·try simp only [nm, ne_eq] at h3
        refine x_skip <| then_n <| sr rfl <| mI rfl <| aI rfl <| en <| x_ret <| ret_tmp (v := .int _ _) rfl rfl <| ⟨congrArg (Value.int .i64) ?_, HC⟩
        unfold rdV
        rw [digV_tab]
        repeat' split
        all_goals omega
     ·try simp only [nm, ne_eq] at g3
      refine w_no 2 30 true <| w_no 2 30 true <| pF rfl rfl <| aB rfl <| en <| x_cond (t := false) rfl (fun h2 => ?_) (fun h2 => ?_)
      · exact absurd h2 (by decide)
      refine x_skip <| block_n <| then_n <| x_seq <| sr rfl <| mI rfl <| mI rfl <| Wp rfl <| st_geq rfl rfl <| en <| x_cond rfl (fun h3 => ?_) (fun h3 => ?_)
      ·try simp only [nm, ne_eq] at h3
       refine sr rfl <| aI rfl <| en <| x_ret <| then_r <| ret_tmp (v := .int _ _) rfl rfl <| ⟨congrArg (Value.int .i64) ?_, HC⟩
       unfold rdV
       rw [digV_tab]
       repeat' split
       all_goals omega
      ·try simp only [nm, ne_eq] at h3
       refine x_skip <| then_n <| sr rfl <| mI rfl <| aI rfl <| en <| x_ret <| ret_tmp (v := .int _ _) rfl rfl <| ⟨congrArg (Value.int .i64) ?_, HC⟩
       unfold rdV
       rw [digV_tab]
       repeat' split
       all_goals omega
   ·try simp only [nm, ne_eq] at g2
    refine w_no 2 19 true <| w_no 2 19 true <| pF rfl rfl <| aB rfl <| en <| x_cond (t := false) rfl (fun h1 => ?_) (fun h1 => ?_)
    · exact absurd h1 (by decide)
    refine sr rfl <| mI rfl <| Wp rfl <| st_geq rfl rfl <| mB rfl <| w_split (d := 30) rfl (fun g4 => ?_) (fun g4 => ?_)
    ·try simp only [nm, ne_eq] at g4
     refine w_yes 2 30 true <| st_move (v := .int _ _) rfl <| w_yes 2 30 true <| st_leq rfl rfl <| pT rfl rfl <| aB rfl <| en <| x_cond rfl (fun h2 => ?_) (fun h2 => ?_)
     ·try simp only [nm, ne_eq] at h2
      refine x_region rfl <| mI rfl <| Wp rfl <| st_subk rfl rfl (by exact wrapu8_id (by first | omega | assumption) (by first | omega | assumption)) <| Wp rfl <| st_convk T.u5 T.u3 rfl (by exact wrap64_id (by first | omega | assumption) (by first | omega | assumption)) <| Wp rfl <| st_addn rfl rfl (by constructor <;> omega) <| aI rfl <| wops_nil <| block_n <| then_n <| x_seq <| sr rfl <| mI rfl <| mI rfl <| Wp rfl <| st_geq rfl rfl <| en <| x_cond rfl (fun h3 => ?_) (fun h3 => ?_)
      ·try simp only [nm, ne_eq] at h3
       refine sr rfl <| aI rfl <| en <| x_ret <| then_r <| ret_tmp (v := .int _ _) rfl rfl <| ⟨congrArg (Value.int .i64) ?_, HC⟩
       unfold rdV
       rw [digV_tab]
       repeat' split
       all_goals omega
      ·try simp only [nm, ne_eq] at h3
       refine x_skip <| then_n <| sr rfl <| mI rfl <| aI rfl <| en <| x_ret <| ret_tmp (v := .int _ _) rfl rfl <| ⟨congrArg (Value.int .i64) ?_, HC⟩
       unfold rdV
       rw [digV_tab]
       repeat' split
       all_goals omega
     ·try simp only [nm, ne_eq] at h2
      refine x_skip <| block_n <| then_n <| x_seq <| sr rfl <| mI rfl <| mI rfl <| Wp rfl <| st_geq rfl rfl <| en <| x_cond rfl (fun h3 => ?_) (fun h3 => ?_)
      ·try simp only [nm, ne_eq] at h3
       refine sr rfl <| aI rfl <| en <| x_ret <| then_r <| ret_tmp (v := .int _ _) rfl rfl <| ⟨congrArg (Value.int .i64) ?_, HC⟩
       unfold rdV
       rw [digV_tab]
       repeat' split
       all_goals omega
      ·try simp only [nm, ne_eq] at h3
       refine x_skip <| then_n <| sr rfl <| mI rfl <| aI rfl <| en <| x_ret <| ret_tmp (v := .int _ _) rfl rfl <| ⟨congrArg (Value.int .i64) ?_, HC⟩
       unfold rdV
       rw [digV_tab]
       repeat' split
       all_goals omega
    ·try simp only [nm, ne_eq] at g4
     refine w_no 2 30 true <| w_no 2 30 true <| pF rfl rfl <| aB rfl <| en <| x_cond (t := false) rfl (fun h2 => ?_) (fun h2 => ?_)
     · exact absurd h2 (by decide)
     refine x_skip <| block_n <| then_n <| x_seq <| sr rfl <| mI rfl <| mI rfl <| Wp rfl <| st_geq rfl rfl <| en <| x_cond rfl (fun h3 => ?_) (fun h3 => ?_)
     ·try simp only [nm, ne_eq] at h3
      refine sr rfl <| aI rfl <| en <| x_ret <| then_r <| ret_tmp (v := .int _ _) rfl rfl <| ⟨congrArg (Value.int .i64) ?_, HC⟩
      unfold rdV
      rw [digV_tab]
      repeat' split
      all_goals omega
     ·try simp only [nm, ne_eq] at h3
      refine x_skip <| then_n <| sr rfl <| mI rfl <| aI rfl <| en <| x_ret <| ret_tmp (v := .int _ _) rfl rfl <| ⟨congrArg (Value.int .i64) ?_, HC⟩
      unfold rdV
      rw [digV_tab]
      repeat' split
      all_goals omega
 ·try simp only [nm, ne_eq] at g1
  refine w_no 2 9 true <| w_no 2 9 true <| pF rfl rfl <| aB rfl <| en <| x_cond (t := false) rfl (fun h0 => ?_) (fun h0 => ?_)
  · exact absurd h0 (by decide)
  refine sr rfl <| mI rfl <| Wp rfl <| st_geq rfl rfl <| mB rfl <| w_split (d := 19) rfl (fun g5 => ?_) (fun g5 => ?_)
  ·try simp only [nm, ne_eq] at g5
   refine w_yes 2 19 true <| st_move (v := .int _ _) rfl <| w_yes 2 19 true <| st_leq rfl rfl <| pT rfl rfl <| aB rfl <| en <| x_cond rfl (fun h1 => ?_) (fun h1 => ?_)
   ·try simp only [nm, ne_eq] at h1
    refine x_region rfl <| mI rfl <| Wp rfl <| st_subk rfl rfl (by exact wrapu8_id (by first | omega | assumption) (by first | omega | assumption)) <| Wp rfl <| st_convk T.u5 T.u3 rfl (by exact wrap64_id (by first | omega | assumption) (by first | omega | assumption)) <| Wp rfl <| st_addn rfl rfl (by constructor <;> omega) <| aI rfl <| wops_nil <| block_n <| then_n <| x_seq <| sr rfl <| mI rfl <| mI rfl <| Wp rfl <| st_geq rfl rfl <| en <| x_cond rfl (fun h3 => ?_) (fun h3 => ?_)
    ·try simp only [nm, ne_eq] at h3
     refine sr rfl <| aI rfl <| en <| x_ret <| then_r <| ret_tmp (v := .int _ _) rfl rfl <| ⟨congrArg (Value.int .i64) ?_, HC⟩
     unfold rdV
     rw [digV_tab]
     repeat' split
     all_goals omega
    ·try simp only [nm, ne_eq] at h3
     refine x_skip <| then_n <| sr rfl <| mI rfl <| aI rfl <| en <| x_ret <| ret_tmp (v := .int _ _) rfl rfl <| ⟨congrArg (Value.int .i64) ?_, HC⟩
     unfold rdV
     rw [digV_tab]
     repeat' split
     all_goals omega
   ·try simp only [nm, ne_eq] at h1
    refine sr rfl <| mI rfl <| Wp rfl <| st_geq rfl rfl <| mB rfl <| w_split (d := 30) rfl (fun g6 => ?_) (fun g6 => ?_)
    ·try simp only [nm, ne_eq] at g6
     refine w_yes 2 30 true <| st_move (v := .int _ _) rfl <| w_yes 2 30 true <| st_leq rfl rfl <| pT rfl rfl <| aB rfl <| en <| x_cond rfl (fun h2 => ?_) (fun h2 => ?_)
     ·try simp only [nm, ne_eq] at h2
      refine x_region rfl <| mI rfl <| Wp rfl <| st_subk rfl rfl (by exact wrapu8_id (by first | omega | assumption) (by first | omega | assumption)) <| Wp rfl <| st_convk T.u5 T.u3 rfl (by exact wrap64_id (by first | omega | assumption) (by first | omega | assumption)) <| Wp rfl <| st_addn rfl rfl (by constructor <;> omega) <| aI rfl <| wops_nil <| block_n <| then_n <| x_seq <| sr rfl <| mI rfl <| mI rfl <| Wp rfl <| st_geq rfl rfl <| en <| x_cond rfl (fun h3 => ?_) (fun h3 => ?_)
      ·try simp only [nm, ne_eq] at h3
       refine sr rfl <| aI rfl <| en <| x_ret <| then_r <| ret_tmp (v := .int _ _) rfl rfl <| ⟨congrArg (Value.int .i64) ?_, HC⟩
       unfold rdV
       rw [digV_tab]
       repeat' split
       all_goals omega
      ·try simp only [nm, ne_eq] at h3
       refine x_skip <| then_n <| sr rfl <| mI rfl <| aI rfl <| en <| x_ret <| ret_tmp (v := .int _ _) rfl rfl <| ⟨congrArg (Value.int .i64) ?_, HC⟩
       unfold rdV
       rw [digV_tab]
       repeat' split
       all_goals omega
     ·try simp only [nm, ne_eq] at h2
      refine x_skip <| block_n <| then_n <| x_seq <| sr rfl <| mI rfl <| mI rfl <| Wp rfl <| st_geq rfl rfl <| en <| x_cond rfl (fun h3 => ?_) (fun h3 => ?_)
      ·try simp only [nm, ne_eq] at h3
       refine sr rfl <| aI rfl <| en <| x_ret <| then_r <| ret_tmp (v := .int _ _) rfl rfl <| ⟨congrArg (Value.int .i64) ?_, HC⟩
       unfold rdV
       rw [digV_tab]
       repeat' split
       all_goals omega
      ·try simp only [nm, ne_eq] at h3
       refine x_skip <| then_n <| sr rfl <| mI rfl <| aI rfl <| en <| x_ret <| ret_tmp (v := .int _ _) rfl rfl <| ⟨congrArg (Value.int .i64) ?_, HC⟩
       unfold rdV
       rw [digV_tab]
       repeat' split
       all_goals omega
    ·try simp only [nm, ne_eq] at g6
     refine w_no 2 30 true <| w_no 2 30 true <| pF rfl rfl <| aB rfl <| en <| x_cond (t := false) rfl (fun h2 => ?_) (fun h2 => ?_)
     · exact absurd h2 (by decide)
     refine x_skip <| block_n <| then_n <| x_seq <| sr rfl <| mI rfl <| mI rfl <| Wp rfl <| st_geq rfl rfl <| en <| x_cond rfl (fun h3 => ?_) (fun h3 => ?_)
     ·try simp only [nm, ne_eq] at h3
      refine sr rfl <| aI rfl <| en <| x_ret <| then_r <| ret_tmp (v := .int _ _) rfl rfl <| ⟨congrArg (Value.int .i64) ?_, HC⟩
      unfold rdV
      rw [digV_tab]
      repeat' split
      all_goals omega
     ·try simp only [nm, ne_eq] at h3
      refine x_skip <| then_n <| sr rfl <| mI rfl <| aI rfl <| en <| x_ret <| ret_tmp (v := .int _ _) rfl rfl <| ⟨congrArg (Value.int .i64) ?_, HC⟩
      unfold rdV
      rw [digV_tab]
      repeat' split
      all_goals omega
  ·try simp only [nm, ne_eq] at g5
   refine w_no 2 19 true <| w_no 2 19 true <| pF rfl rfl <| aB rfl <| en <| x_cond (t := false) rfl (fun h1 => ?_) (fun h1 => ?_)
   · exact absurd h1 (by decide)
   refine sr rfl <| mI rfl <| Wp rfl <| st_geq rfl rfl <| mB rfl <| w_split (d := 30) rfl (fun g7 => ?_) (fun g7 => ?_)
   ·try simp only [nm, ne_eq] at g7
    refine w_yes 2 30 true <| st_move (v := .int _ _) rfl <| w_yes 2 30 true <| st_leq rfl rfl <| pT rfl rfl <| aB rfl <| en <| x_cond rfl (fun h2 => ?_) (fun h2 => ?_)
    ·try simp only [nm, ne_eq] at h2
     refine x_region rfl <| mI rfl <| Wp rfl <| st_subk rfl rfl (by exact wrapu8_id (by first | omega | assumption) (by first | omega | assumption)) <| Wp rfl <| st_convk T.u5 T.u3 rfl (by exact wrap64_id (by first | omega | assumption) (by first | omega | assumption)) <| Wp rfl <| st_addn rfl rfl (by constructor <;> omega) <| aI rfl <| wops_nil <| block_n <| then_n <| x_seq <| sr rfl <| mI rfl <| mI rfl <| Wp rfl <| st_geq rfl rfl <| en <| x_cond rfl (fun h3 => ?_) (fun h3 => ?_)
     ·try simp only [nm, ne_eq] at h3
      refine sr rfl <| aI rfl <| en <| x_ret <| then_r <| ret_tmp (v := .int _ _) rfl rfl <| ⟨congrArg (Value.int .i64) ?_, HC⟩
      unfold rdV
      rw [digV_tab]
      repeat' split
      all_goals omega
     ·try simp only [nm, ne_eq] at h3
      refine x_skip <| then_n <| sr rfl <| mI rfl <| aI rfl <| en <| x_ret <| ret_tmp (v := .int _ _) rfl rfl <| ⟨congrArg (Value.int .i64) ?_, HC⟩
      unfold rdV
      rw [digV_tab]
      repeat' split
      all_goals omega
    ·try simp only [nm, ne_eq] at h2
     refine x_skip <| block_n <| then_n <| x_seq <| sr rfl <| mI rfl <| mI rfl <| Wp rfl <| st_geq rfl rfl <| en <| x_cond rfl (fun h3 => ?_) (fun h3 => ?_)
     ·try simp only [nm, ne_eq] at h3
      refine sr rfl <| aI rfl <| en <| x_ret <| then_r <| ret_tmp (v := .int _ _) rfl rfl <| ⟨congrArg (Value.int .i64) ?_, HC⟩
      unfold rdV
      rw [digV_tab]
      repeat' split
      all_goals omega
     ·try simp only [nm, ne_eq] at h3
      refine x_skip <| then_n <| sr rfl <| mI rfl <| aI rfl <| en <| x_ret <| ret_tmp (v := .int _ _) rfl rfl <| ⟨congrArg (Value.int .i64) ?_, HC⟩
      unfold rdV
      rw [digV_tab]
      repeat' split
      all_goals omega
   ·try simp only [nm, ne_eq] at g7
    refine w_no 2 30 true <| w_no 2 30 true <| pF rfl rfl <| aB rfl <| en <| x_cond (t := false) rfl (fun h2 => ?_) (fun h2 => ?_)
    · exact absurd h2 (by decide)
    refine x_skip <| block_n <| then_n <| x_seq <| sr rfl <| mI rfl <| mI rfl <| Wp rfl <| st_geq rfl rfl <| en <| x_cond rfl (fun h3 => ?_) (fun h3 => ?_)
    ·try simp only [nm, ne_eq] at h3
     refine sr rfl <| aI rfl <| en <| x_ret <| then_r <| ret_tmp (v := .int _ _) rfl rfl <| ⟨congrArg (Value.int .i64) ?_, HC⟩
     unfold rdV
     rw [digV_tab]
     repeat' split
     all_goals omega
    ·try simp only [nm, ne_eq] at h3
     refine x_skip <| then_n <| sr rfl <| mI rfl <| aI rfl <| en <| x_ret <| ret_tmp (v := .int _ _) rfl rfl <| ⟨congrArg (Value.int .i64) ?_, HC⟩
     unfold rdV
     rw [digV_tab]
     repeat' split
     all_goals omega

theorem constB_16 {s : Bytes} (h : 1 < s.length) (h0 : byte s 0 = 48) (h1 : byte s 1 = 120 ∨ byte s 1 = 88) : constB s = (16, s.drop 2) := by
  match s, h with
  | a :: b :: s, _ =>
    simp only [byte, List.getD_cons_zero, List.getD_cons_succ] at h0 h1
    subst h0
    rcases h1 with rfl | rfl <;> simp [constB, Lib.hasPrefix, List.isPrefixOf]
theorem constB_8 {s : Bytes} (h : 1 < s.length) (h0 : byte s 0 = 48) (h1 : ¬ byte s 1 = 120) (h2 : ¬ byte s 1 = 88) : constB s = (8, s.drop 1) := by
  match s, h with
  | a :: b :: s, _ =>
    simp only [byte, List.getD_cons_zero, List.getD_cons_succ] at h0 h1 h2
    subst h0
    simp [constB, Lib.hasPrefix, List.isPrefixOf, Ne.symm (a := b) h1, Ne.symm (a := b) h2, eq_comm (a := (120 : UInt8)), eq_comm (a := (88 : UInt8)), h1, h2]
theorem constB_10 {s : Bytes} (h : ¬ (1 < s.length ∧ byte s 0 = 48)) : constB s = (10, s) := by
  match s with
  | [] => simp [constB, Lib.hasPrefix, List.isPrefixOf]
  | [a] => simp [constB, Lib.hasPrefix, List.isPrefixOf]
  | a :: b :: s =>
    have h0 : ¬ a = 48 := fun e => h ⟨by simp, by simp [byte, e]⟩
    simp [constB, Lib.hasPrefix, List.isPrefixOf, eq_comm (a := (48 : UInt8)), h0]
theorem nat48 {c : UInt8} {k : Nat} (hk : k < 256) (h : (c.toNat : Int) = k) : c = UInt8.ofNat k := by
  apply UInt8.toNat_inj.1
  rw [UInt8.toNat_ofNat_of_lt' (by omega)]; omega
theorem constV_nil {s : Bytes} {b : Int} (h : constB s = (b, [])) : constV s = (0, false) := by rw [constV_some h (n := 0) rfl]; rfl

theorem RConstant_spec (s : Bytes) (w : World) (hs : s.length ≤ 9223372036854775807) : CallR Tryz.prog 37 #[S s] w fun v w' => v = .tuple ⟨[.int .i64 (constV s).1, .bool (constV s).2]⟩ ∧ Chg [] w w' := by
 refine callR_of_wp (args := [_]) Tryz.func37 rfl (Nat.le_of_ble_eq_true rfl) ?_
 have HC : Chg [] w w := .refl _
 refine sr rfl <| aI rfl <| aB rfl <| en <| sr rfl <| aI rfl <| en <| sr rfl <| mS rfl <| aS rfl <| en <| x_seq <| sr rfl <| mS rfl <| Wp rfl <| st_slen (ct := #[9]) T.u9 rfl <| Wp rfl <| st_gtr rfl rfl <| mB rfl <| w_split (d := 13) rfl (fun g1 => ?_) (fun g1 => ?_)
 ·try simp only [nm, ne_eq] at g1
  refine w_yes 3 13 true <| st_move (v := S _) rfl <| w_yes 3 13 true <| st_sidx T.u9 rfl rfl (by omega) (by omega) <| w_yes 3 13 true <| st_eql rfl rfl <| pT rfl rfl <| en <| x_cond rfl (fun h0 => ?_) (fun h0 => ?_)
  ·try simp only [nm, ne_eq] at h0
   refine sr rfl <| aI rfl <| en <| sr rfl <| mS rfl <| Wp rfl <| st_sslo (i := 1) T.u9 rfl ⟨_, rfl⟩ (by omega) <| aS rfl <| en <| sr rfl <| mS rfl <| Wp rfl <| st_sidx T.u9 rfl rfl (by omega) (by omega) <| Wp rfl <| st_eql rfl rfl <| mB rfl <| w_split (d := 23) rfl (fun g2 => ?_) (fun g2 => ?_)
   ·try simp only [nm, ne_eq] at g2
    iterate 3 refine w_no 3 23 false ?_
    refine pT rfl rfl <| en <| x_cond (t := true) rfl (fun h1 => ?_) (fun h1 => ?_)
    rotate_left
    · exact absurd h1 (by decide)
    have hcb : constB s = (16, (s.drop 2)) := by exact constB_16 (by omega) (nat48 (k := 48) (by omega) (by assumption)) (by first | exact .inl (nat48 (k := 120) (by omega) (by assumption)) | exact .inr (nat48 (k := 88) (by omega) (by assumption)))
    have hdl : ((s.drop 2)).length ≤ 9223372036854775807 := by first | exact hs | (simp; omega)
    refine sr rfl <| aI rfl <| en <| x_region rfl <| mS rfl <| Wp rfl <| st_sslo (i := 2) T.u9 rfl ⟨_, rfl⟩ (by omega) <| aS rfl <| en <| x_seq <| sr rfl <| mS rfl <| Wp rfl <| st_seql rfl rfl <| en <| x_cond rfl (fun h2 => ?_) (fun h2 => ?_)
    ·try simp only [nm, ne_eq] at h2
     refine sr rfl <| aI rfl <| aB rfl <| en <| x_ret <| then_r <| ret_tmp2 (v := .int _ _) (v2 := .bool _) rfl rfl rfl <| ⟨?_, HC⟩
     rw [constV_nil (by rw [hcb]; exact congrArg (Prod.mk _) h2)]
    ·try simp only [nm, ne_eq] at h2
     refine x_skip <| then_n <| sr rfl <| aI rfl <| en <| x_seq <| sr rfl <| aI rfl <| en <| x_block <| x_loop (ι := Nat × Int) [2, 3, 6, 7, 8, 32, 33, 34, 35, 36, 37, 38, 39, 40, 41, 42, 43, 44, 45, 46, 47, 48, 49, 50, 51, 52, 53, 54, 55, 56, 57, 58, 59, 60, 61] (fun ⟨i, n⟩ => [(7, .int .i64 (i : Int)), (6, .int .u64 n)]) (fun ⟨i, n⟩ W => (i ≤ ((s.drop 2)).length ∧ 0 ≤ n ∧ n ≤ 9223372036854775807 ∧ readN 16 n (((s.drop 2)).drop i) = readN 16 0 ((s.drop 2))) ∧ (Chg [] w W)) (fun ⟨i, n⟩ => ((s.drop 2)).length - i) (0, 0) ?_ ?_ ?_
     · exact ⟨rfl, rfl, trivial⟩
     ·refine ⟨?_, HC⟩
      exact ⟨Nat.zero_le _, by omega, by omega, rfl⟩
     intro ⟨i, n⟩ G4 w3 ⟨⟨hi, hn0, hn1, hr⟩, HC⟩
     change wp _ _ _ _ _ (upds (over _ _ G4) [(7, .int .i64 (i : Int)), (6, .int .u64 n)]) _ _
     refine x_seq <| sr rfl <| mI rfl <| mS rfl <| Wp rfl <| st_slen (ct := #[9]) T.u9 rfl <| Wp rfl <| st_lss rfl rfl <| en <| x_cond rfl (fun h3 => ?_) (fun h3 => ?_)
     ·try simp only [nm, ne_eq] at h3
      refine x_skip <| then_n <| x_seq <| x_block <| sr rfl <| mS rfl <| mI rfl <| Wp rfl <| st_sidx T.u9 rfl rfl (by omega) (by omega) <| mI rfl <| Wp rfl <| st_call (ags := [_, _]) rfl rfl T.ent54 rfl (r_digit (byte ((s.drop 2)) i) 16 _ (by omega)) ?_
      rintro _ w5 ⟨rfl, c6⟩
      replace HC := HC.then c6
      refine aI rfl <| en <| x_seq <| x_seq ?_
      have hdv := digV_lt (byte ((s.drop 2)) i)
      refine x_region rfl <| mI rfl <| Wp rfl <| st_lss rfl rfl <| mB rfl <| w_split (d := 45) rfl (fun g7 => ?_) (fun g7 => ?_)
      ·try simp only [nm, ne_eq] at g7
       iterate 8 refine w_no 2 45 false ?_
       refine pT rfl rfl <| en <| x_cond (t := true) rfl (fun h4 => ?_) (fun h4 => ?_)
       rotate_left
       · exact absurd h4 (by decide)
       refine sr rfl <| aI rfl <| aB rfl <| en <| x_ret <| then_r <| block_r <| then_r <| then_r <| block_r <| then_r <| ret_tmp2 (v := .int _ _) (v2 := .bool _) rfl rfl rfl <| ⟨?_, HC⟩
       rw [constV_none hcb (by rw [← hr]; exact readN_no (by omega) (by first | (have := rdV_no (c := byte ((s.drop 2)) i) (b := 16) (by omega); omega) | (rw [Int.tdiv_eq_ediv_of_nonneg (by omega)]; omega)))]
      ·try simp only [nm, ne_eq] at g7
       have hrd := rdV_ok (c := byte ((s.drop 2)) i) (b := 16) (by omega)
       refine w_yes 2 45 false <| st_move (v := .int _ _) rfl <| w_yes 2 45 false <| st_move (v := .int _ _) rfl <| w_yes 2 45 false <| st_convk T.u3 T.u87 rfl (by exact wrapu64_id (by first | omega | assumption) (by first | omega | assumption)) <| w_yes 2 45 false <| st_subk rfl rfl (by exact wrapu64_id (by first | omega | assumption) (by first | omega | assumption)) <| w_yes 2 45 false <| st_move (v := .int _ _) rfl <| w_yes 2 45 false <| st_convk T.u3 T.u87 rfl (by exact wrapu64_id (by omega) (by omega)) <| w_yes 2 45 false <| st_quok rfl rfl (by decide) (by exact quou64 (by first | omega | assumption) (by first | omega | assumption) (by first | omega | assumption)) <| w_yes 2 45 false <| st_gtr rfl rfl <| pF rfl rfl <| en <| x_cond rfl (fun h4 => ?_) (fun h4 => ?_)
       ·try simp only [nm, ne_eq] at h4
        refine sr rfl <| aI rfl <| aB rfl <| en <| x_ret <| then_r <| block_r <| then_r <| then_r <| block_r <| then_r <| ret_tmp2 (v := .int _ _) (v2 := .bool _) rfl rfl rfl <| ⟨?_, HC⟩
        rw [constV_none hcb (by rw [← hr]; exact readN_no (by omega) (by first | (have := rdV_no (c := byte ((s.drop 2)) i) (b := 16) (by omega); omega) | (rw [Int.tdiv_eq_ediv_of_nonneg (by omega)]; omega)))]
       ·try simp only [nm, ne_eq] at h4
        refine x_skip <| then_n <| x_region rfl <| mI rfl <| mI rfl <| Wp rfl <| st_convk T.u3 T.u87 rfl (by exact wrapu64_id (by omega) (by omega)) <| Wp rfl <| st_mulk rfl rfl (by exact wrapu64_id (by first | omega | assumption) (by first | omega | assumption)) <| mI rfl <| Wp rfl <| st_convk T.u3 T.u87 rfl (by exact wrapu64_id (by first | omega | assumption) (by first | omega | assumption)) <| Wp rfl <| st_addk rfl rfl (by exact wrapu64_id (by first | omega | assumption) (by first | omega | assumption)) <| aI rfl <| wops_nil <| block_n <| then_n <| x_region rfl <| mI rfl <| Wp rfl <| st_addn rfl rfl (by constructor <;> omega) <| aI rfl <| en <| ⟨(i + 1, n * 16 + rdV (byte ((s.drop 2)) i) 16), ?_, ?_, rfl, ⟨rfl, rfl, trivial⟩, ?_⟩
        ·refine ⟨?_, HC⟩
         exact ⟨by omega, by omega, by omega, by rw [← hr, hrd.1]; exact (readN_at (by omega) (by rw [Int.tdiv_eq_ediv_of_nonneg (by omega)]; omega)).symm⟩
        ·show ((s.drop 2)).length - (i + 1) < ((s.drop 2)).length - i; omega
        repeat (first | exact agree_upds agree_over rfl | refine agree_upd ?_ rfl | refine agree_upds ?_ rfl | refine agree_over_sub ?_ rfl)
     ·try simp only [nm, ne_eq] at h3
      refine x_exit <| then_x <| then_x <| block_x <| then_n <| sr rfl <| mI rfl <| Wp rfl <| st_convk T.u87 T.u2 rfl (by exact wrap64_id (by first | omega | assumption) (by first | omega | assumption)) <| aI rfl <| aB rfl <| en <| x_ret <| ret_tmp2 (v := .int _ _) (v2 := .bool _) rfl rfl rfl <| ⟨?_, HC⟩
      rw [constV_some hcb (hr.symm.trans (readN_end (by omega)))]; rw [decide_eq_false (p := ((s.drop 2)) = []) h2]; rfl
   ·try simp only [nm, ne_eq] at g2
    refine w_yes 3 23 false <| st_move (v := S _) rfl <| w_yes 3 23 false <| st_sidx T.u9 rfl rfl (by omega) (by omega) <| w_yes 3 23 false <| st_eql rfl rfl <| pF rfl rfl <| en <| x_cond rfl (fun h1 => ?_) (fun h1 => ?_)
    ·try simp only [nm, ne_eq] at h1
     have hcb : constB s = (16, (s.drop 2)) := by exact constB_16 (by omega) (nat48 (k := 48) (by omega) (by assumption)) (by first | exact .inl (nat48 (k := 120) (by omega) (by assumption)) | exact .inr (nat48 (k := 88) (by omega) (by assumption)))
     have hdl : ((s.drop 2)).length ≤ 9223372036854775807 := by first | exact hs | (simp; omega)
     refine sr rfl <| aI rfl <| en <| x_region rfl <| mS rfl <| Wp rfl <| st_sslo (i := 2) T.u9 rfl ⟨_, rfl⟩ (by omega) <| aS rfl <| en <| x_seq <| sr rfl <| mS rfl <| Wp rfl <| st_seql rfl rfl <| en <| x_cond rfl (fun h2 => ?_) (fun h2 => ?_)
     ·try simp only [nm, ne_eq] at h2
      refine sr rfl <| aI rfl <| aB rfl <| en <| x_ret <| then_r <| ret_tmp2 (v := .int _ _) (v2 := .bool _) rfl rfl rfl <| ⟨?_, HC⟩
      rw [constV_nil (by rw [hcb]; exact congrArg (Prod.mk _) h2)]
     ·try simp only [nm, ne_eq] at h2
      refine x_skip <| then_n <| sr rfl <| aI rfl <| en <| x_seq <| sr rfl <| aI rfl <| en <| x_block <| x_loop (ι := Nat × Int) [2, 3, 6, 7, 8, 32, 33, 34, 35, 36, 37, 38, 39, 40, 41, 42, 43, 44, 45, 46, 47, 48, 49, 50, 51, 52, 53, 54, 55, 56, 57, 58, 59, 60, 61] (fun ⟨i, n⟩ => [(7, .int .i64 (i : Int)), (6, .int .u64 n)]) (fun ⟨i, n⟩ W => (i ≤ ((s.drop 2)).length ∧ 0 ≤ n ∧ n ≤ 9223372036854775807 ∧ readN 16 n (((s.drop 2)).drop i) = readN 16 0 ((s.drop 2))) ∧ (Chg [] w W)) (fun ⟨i, n⟩ => ((s.drop 2)).length - i) (0, 0) ?_ ?_ ?_
      · exact ⟨rfl, rfl, trivial⟩
      ·refine ⟨?_, HC⟩
       exact ⟨Nat.zero_le _, by omega, by omega, rfl⟩
      intro ⟨i, n⟩ G9 w8 ⟨⟨hi, hn0, hn1, hr⟩, HC⟩
      change wp _ _ _ _ _ (upds (over _ _ G9) [(7, .int .i64 (i : Int)), (6, .int .u64 n)]) _ _
      refine x_seq <| sr rfl <| mI rfl <| mS rfl <| Wp rfl <| st_slen (ct := #[9]) T.u9 rfl <| Wp rfl <| st_lss rfl rfl <| en <| x_cond rfl (fun h3 => ?_) (fun h3 => ?_)
      ·try simp only [nm, ne_eq] at h3
       refine x_skip <| then_n <| x_seq <| x_block <| sr rfl <| mS rfl <| mI rfl <| Wp rfl <| st_sidx T.u9 rfl rfl (by omega) (by omega) <| mI rfl <| Wp rfl <| st_call (ags := [_, _]) rfl rfl T.ent54 rfl (r_digit (byte ((s.drop 2)) i) 16 _ (by omega)) ?_
       rintro _ w10 ⟨rfl, c11⟩
       replace HC := HC.then c11
       refine aI rfl <| en <| x_seq <| x_seq ?_
       have hdv := digV_lt (byte ((s.drop 2)) i)
       refine x_region rfl <| mI rfl <| Wp rfl <| st_lss rfl rfl <| mB rfl <| w_split (d := 45) rfl (fun g12 => ?_) (fun g12 => ?_)
       ·try simp only [nm, ne_eq] at g12
        iterate 8 refine w_no 2 45 false ?_
        refine pT rfl rfl <| en <| x_cond (t := true) rfl (fun h4 => ?_) (fun h4 => ?_)
        rotate_left
        · exact absurd h4 (by decide)
        refine sr rfl <| aI rfl <| aB rfl <| en <| x_ret <| then_r <| block_r <| then_r <| then_r <| block_r <| then_r <| ret_tmp2 (v := .int _ _) (v2 := .bool _) rfl rfl rfl <| ⟨?_, HC⟩
        rw [constV_none hcb (by rw [← hr]; exact readN_no (by omega) (by first | (have := rdV_no (c := byte ((s.drop 2)) i) (b := 16) (by omega); omega) | (rw [Int.tdiv_eq_ediv_of_nonneg (by omega)]; omega)))]
       ·try simp only [nm, ne_eq] at g12
        have hrd := rdV_ok (c := byte ((s.drop 2)) i) (b := 16) (by omega)
        refine w_yes 2 45 false <| st_move (v := .int _ _) rfl <| w_yes 2 45 false <| st_move (v := .int _ _) rfl <| w_yes 2 45 false <| st_convk T.u3 T.u87 rfl (by exact wrapu64_id (by first | omega | assumption) (by first | omega | assumption)) <| w_yes 2 45 false <| st_subk rfl rfl (by exact wrapu64_id (by first | omega | assumption) (by first | omega | assumption)) <| w_yes 2 45 false <| st_move (v := .int _ _) rfl <| w_yes 2 45 false <| st_convk T.u3 T.u87 rfl (by exact wrapu64_id (by omega) (by omega)) <| w_yes 2 45 false <| st_quok rfl rfl (by decide) (by exact quou64 (by first | omega | assumption) (by first | omega | assumption) (by first | omega | assumption)) <| w_yes 2 45 false <| st_gtr rfl rfl <| pF rfl rfl <| en <| x_cond rfl (fun h4 => ?_) (fun h4 => ?_)
        ·try simp only [nm, ne_eq] at h4
         refine sr rfl <| aI rfl <| aB rfl <| en <| x_ret <| then_r <| block_r <| then_r <| then_r <| block_r <| then_r <| ret_tmp2 (v := .int _ _) (v2 := .bool _) rfl rfl rfl <| ⟨?_, HC⟩
         rw [constV_none hcb (by rw [← hr]; exact readN_no (by omega) (by first | (have := rdV_no (c := byte ((s.drop 2)) i) (b := 16) (by omega); omega) | (rw [Int.tdiv_eq_ediv_of_nonneg (by omega)]; omega)))]
        ·try simp only [nm, ne_eq] at h4
         refine x_skip <| then_n <| x_region rfl <| mI rfl <| mI rfl <| Wp rfl <| st_convk T.u3 T.u87 rfl (by exact wrapu64_id (by omega) (by omega)) <| Wp rfl <| st_mulk rfl rfl (by exact wrapu64_id (by first | omega | assumption) (by first | omega | assumption)) <| mI rfl <| Wp rfl <| st_convk T.u3 T.u87 rfl (by exact wrapu64_id (by first | omega | assumption) (by first | omega | assumption)) <| Wp rfl <| st_addk rfl rfl (by exact wrapu64_id (by first | omega | assumption) (by first | omega | assumption)) <| aI rfl <| wops_nil <| block_n <| then_n <| x_region rfl <| mI rfl <| Wp rfl <| st_addn rfl rfl (by constructor <;> omega) <| aI rfl <| en <| ⟨(i + 1, n * 16 + rdV (byte ((s.drop 2)) i) 16), ?_, ?_, rfl, ⟨rfl, rfl, trivial⟩, ?_⟩
         ·refine ⟨?_, HC⟩
          exact ⟨by omega, by omega, by omega, by rw [← hr, hrd.1]; exact (readN_at (by omega) (by rw [Int.tdiv_eq_ediv_of_nonneg (by omega)]; omega)).symm⟩
         ·show ((s.drop 2)).length - (i + 1) < ((s.drop 2)).length - i; omega
         repeat (first | exact agree_upds agree_over rfl | refine agree_upd ?_ rfl | refine agree_upds ?_ rfl | refine agree_over_sub ?_ rfl)
      ·try simp only [nm, ne_eq] at h3
       refine x_exit <| then_x <| then_x <| block_x <| then_n <| sr rfl <| mI rfl <| Wp rfl <| st_convk T.u87 T.u2 rfl (by exact wrap64_id (by first | omega | assumption) (by first | omega | assumption)) <| aI rfl <| aB rfl <| en <| x_ret <| ret_tmp2 (v := .int _ _) (v2 := .bool _) rfl rfl rfl <| ⟨?_, HC⟩
       rw [constV_some hcb (hr.symm.trans (readN_end (by omega)))]; rw [decide_eq_false (p := ((s.drop 2)) = []) h2]; rfl
    ·try simp only [nm, ne_eq] at h1
     have hcb : constB s = (8, (s.drop 1)) := by exact constB_8 (by omega) (nat48 (k := 48) (by omega) (by assumption)) (fun e => by have : ¬ ((byte s 1).toNat : Int) = 120 := (by assumption); rw [e] at this; exact this rfl) (fun e => by have : ¬ ((byte s 1).toNat : Int) = 88 := (by assumption); rw [e] at this; exact this rfl)
     have hdl : ((s.drop 1)).length ≤ 9223372036854775807 := by first | exact hs | (simp; omega)
     refine x_skip <| then_n <| x_seq <| sr rfl <| mS rfl <| Wp rfl <| st_seql rfl rfl <| en <| x_cond rfl (fun h2 => ?_) (fun h2 => ?_)
     ·try simp only [nm, ne_eq] at h2
      refine sr rfl <| aI rfl <| aB rfl <| en <| x_ret <| then_r <| ret_tmp2 (v := .int _ _) (v2 := .bool _) rfl rfl rfl <| ⟨?_, HC⟩
      rw [constV_nil (by rw [hcb]; exact congrArg (Prod.mk _) h2)]
     ·try simp only [nm, ne_eq] at h2
      refine x_skip <| then_n <| sr rfl <| aI rfl <| en <| x_seq <| sr rfl <| aI rfl <| en <| x_block <| x_loop (ι := Nat × Int) [2, 3, 6, 7, 8, 32, 33, 34, 35, 36, 37, 38, 39, 40, 41, 42, 43, 44, 45, 46, 47, 48, 49, 50, 51, 52, 53, 54, 55, 56, 57, 58, 59, 60, 61] (fun ⟨i, n⟩ => [(7, .int .i64 (i : Int)), (6, .int .u64 n)]) (fun ⟨i, n⟩ W => (i ≤ ((s.drop 1)).length ∧ 0 ≤ n ∧ n ≤ 9223372036854775807 ∧ readN 8 n (((s.drop 1)).drop i) = readN 8 0 ((s.drop 1))) ∧ (Chg [] w W)) (fun ⟨i, n⟩ => ((s.drop 1)).length - i) (0, 0) ?_ ?_ ?_
      · exact ⟨rfl, rfl, trivial⟩
      ·refine ⟨?_, HC⟩
       exact ⟨Nat.zero_le _, by omega, by omega, rfl⟩
      intro ⟨i, n⟩ G14 w13 ⟨⟨hi, hn0, hn1, hr⟩, HC⟩
      change wp _ _ _ _ _ (upds (over _ _ G14) [(7, .int .i64 (i : Int)), (6, .int .u64 n)]) _ _
      refine x_seq <| sr rfl <| mI rfl <| mS rfl <| Wp rfl <| st_slen (ct := #[9]) T.u9 rfl <| Wp rfl <| st_lss rfl rfl <| en <| x_cond rfl (fun h3 => ?_) (fun h3 => ?_)
      ·try simp only [nm, ne_eq] at h3
       refine x_skip <| then_n <| x_seq <| x_block <| sr rfl <| mS rfl <| mI rfl <| Wp rfl <| st_sidx T.u9 rfl rfl (by omega) (by omega) <| mI rfl <| Wp rfl <| st_call (ags := [_, _]) rfl rfl T.ent54 rfl (r_digit (byte ((s.drop 1)) i) 8 _ (by omega)) ?_
       rintro _ w15 ⟨rfl, c16⟩
       replace HC := HC.then c16
       refine aI rfl <| en <| x_seq <| x_seq ?_
       have hdv := digV_lt (byte ((s.drop 1)) i)
       refine x_region rfl <| mI rfl <| Wp rfl <| st_lss rfl rfl <| mB rfl <| w_split (d := 45) rfl (fun g17 => ?_) (fun g17 => ?_)
       ·try simp only [nm, ne_eq] at g17
        iterate 8 refine w_no 2 45 false ?_
        refine pT rfl rfl <| en <| x_cond (t := true) rfl (fun h4 => ?_) (fun h4 => ?_)
        rotate_left
        · exact absurd h4 (by decide)
        refine sr rfl <| aI rfl <| aB rfl <| en <| x_ret <| then_r <| block_r <| then_r <| then_r <| block_r <| then_r <| ret_tmp2 (v := .int _ _) (v2 := .bool _) rfl rfl rfl <| ⟨?_, HC⟩
        rw [constV_none hcb (by rw [← hr]; exact readN_no (by omega) (by first | (have := rdV_no (c := byte ((s.drop 1)) i) (b := 8) (by omega); omega) | (rw [Int.tdiv_eq_ediv_of_nonneg (by omega)]; omega)))]
       ·try simp only [nm, ne_eq] at g17
        have hrd := rdV_ok (c := byte ((s.drop 1)) i) (b := 8) (by omega)
        refine w_yes 2 45 false <| st_move (v := .int _ _) rfl <| w_yes 2 45 false <| st_move (v := .int _ _) rfl <| w_yes 2 45 false <| st_convk T.u3 T.u87 rfl (by exact wrapu64_id (by first | omega | assumption) (by first | omega | assumption)) <| w_yes 2 45 false <| st_subk rfl rfl (by exact wrapu64_id (by first | omega | assumption) (by first | omega | assumption)) <| w_yes 2 45 false <| st_move (v := .int _ _) rfl <| w_yes 2 45 false <| st_convk T.u3 T.u87 rfl (by exact wrapu64_id (by omega) (by omega)) <| w_yes 2 45 false <| st_quok rfl rfl (by decide) (by exact quou64 (by first | omega | assumption) (by first | omega | assumption) (by first | omega | assumption)) <| w_yes 2 45 false <| st_gtr rfl rfl <| pF rfl rfl <| en <| x_cond rfl (fun h4 => ?_) (fun h4 => ?_)
        ·try simp only [nm, ne_eq] at h4
         refine sr rfl <| aI rfl <| aB rfl <| en <| x_ret <| then_r <| block_r <| then_r <| then_r <| block_r <| then_r <| ret_tmp2 (v := .int _ _) (v2 := .bool _) rfl rfl rfl <| ⟨?_, HC⟩
         rw [constV_none hcb (by rw [← hr]; exact readN_no (by omega) (by first | (have := rdV_no (c := byte ((s.drop 1)) i) (b := 8) (by omega); omega) | (rw [Int.tdiv_eq_ediv_of_nonneg (by omega)]; omega)))]
        ·try simp only [nm, ne_eq] at h4
         refine x_skip <| then_n <| x_region rfl <| mI rfl <| mI rfl <| Wp rfl <| st_convk T.u3 T.u87 rfl (by exact wrapu64_id (by omega) (by omega)) <| Wp rfl <| st_mulk rfl rfl (by exact wrapu64_id (by first | omega | assumption) (by first | omega | assumption)) <| mI rfl <| Wp rfl <| st_convk T.u3 T.u87 rfl (by exact wrapu64_id (by first | omega | assumption) (by first | omega | assumption)) <| Wp rfl <| st_addk rfl rfl (by exact wrapu64_id (by first | omega | assumption) (by first | omega | assumption)) <| aI rfl <| wops_nil <| block_n <| then_n <| x_region rfl <| mI rfl <| Wp rfl <| st_addn rfl rfl (by constructor <;> omega) <| aI rfl <| en <| ⟨(i + 1, n * 8 + rdV (byte ((s.drop 1)) i) 8), ?_, ?_, rfl, ⟨rfl, rfl, trivial⟩, ?_⟩
         ·refine ⟨?_, HC⟩
          exact ⟨by omega, by omega, by omega, by rw [← hr, hrd.1]; exact (readN_at (by omega) (by rw [Int.tdiv_eq_ediv_of_nonneg (by omega)]; omega)).symm⟩
         ·show ((s.drop 1)).length - (i + 1) < ((s.drop 1)).length - i; omega
         repeat (first | exact agree_upds agree_over rfl | refine agree_upd ?_ rfl | refine agree_upds ?_ rfl | refine agree_over_sub ?_ rfl)
      ·try simp only [nm, ne_eq] at h3
       refine x_exit <| then_x <| then_x <| block_x <| then_n <| sr rfl <| mI rfl <| Wp rfl <| st_convk T.u87 T.u2 rfl (by exact wrap64_id (by first | omega | assumption) (by first | omega | assumption)) <| aI rfl <| aB rfl <| en <| x_ret <| ret_tmp2 (v := .int _ _) (v2 := .bool _) rfl rfl rfl <| ⟨?_, HC⟩
       rw [constV_some hcb (hr.symm.trans (readN_end (by omega)))]; rw [decide_eq_false (p := ((s.drop 1)) = []) h2]; rfl
  ·try simp only [nm, ne_eq] at h0
   have hcb : constB s = (10, s) := by exact constB_10 (fun ⟨a1, a2⟩ => by first | omega | (have : ¬ ((byte s 0).toNat : Int) = 48 := (by assumption); rw [a2] at this; exact this rfl))
   have hdl : (s).length ≤ 9223372036854775807 := by first | exact hs | (simp; omega)
   refine x_skip <| then_n <| x_seq <| sr rfl <| mS rfl <| Wp rfl <| st_seql rfl rfl <| en <| x_cond rfl (fun h2 => ?_) (fun h2 => ?_)
   ·try simp only [nm, ne_eq] at h2
    refine sr rfl <| aI rfl <| aB rfl <| en <| x_ret <| then_r <| ret_tmp2 (v := .int _ _) (v2 := .bool _) rfl rfl rfl <| ⟨?_, HC⟩
    rw [constV_nil (by rw [hcb]; exact congrArg (Prod.mk _) h2)]
   ·try simp only [nm, ne_eq] at h2
    refine x_skip <| then_n <| sr rfl <| aI rfl <| en <| x_seq <| sr rfl <| aI rfl <| en <| x_block <| x_loop (ι := Nat × Int) [2, 3, 6, 7, 8, 32, 33, 34, 35, 36, 37, 38, 39, 40, 41, 42, 43, 44, 45, 46, 47, 48, 49, 50, 51, 52, 53, 54, 55, 56, 57, 58, 59, 60, 61] (fun ⟨i, n⟩ => [(7, .int .i64 (i : Int)), (6, .int .u64 n)]) (fun ⟨i, n⟩ W => (i ≤ (s).length ∧ 0 ≤ n ∧ n ≤ 9223372036854775807 ∧ readN 10 n ((s).drop i) = readN 10 0 (s)) ∧ (Chg [] w W)) (fun ⟨i, n⟩ => (s).length - i) (0, 0) ?_ ?_ ?_
    · exact ⟨rfl, rfl, trivial⟩
    ·refine ⟨?_, HC⟩
     exact ⟨Nat.zero_le _, by omega, by omega, rfl⟩
    intro ⟨i, n⟩ G19 w18 ⟨⟨hi, hn0, hn1, hr⟩, HC⟩
    change wp _ _ _ _ _ (upds (over _ _ G19) [(7, .int .i64 (i : Int)), (6, .int .u64 n)]) _ _
    refine x_seq <| sr rfl <| mI rfl <| mS rfl <| Wp rfl <| st_slen (ct := #[9]) T.u9 rfl <| Wp rfl <| st_lss rfl rfl <| en <| x_cond rfl (fun h3 => ?_) (fun h3 => ?_)
    ·try simp only [nm, ne_eq] at h3
     refine x_skip <| then_n <| x_seq <| x_block <| sr rfl <| mS rfl <| mI rfl <| Wp rfl <| st_sidx T.u9 rfl rfl (by omega) (by omega) <| mI rfl <| Wp rfl <| st_call (ags := [_, _]) rfl rfl T.ent54 rfl (r_digit (byte (s) i) 10 _ (by omega)) ?_
     rintro _ w20 ⟨rfl, c21⟩
     replace HC := HC.then c21
     refine aI rfl <| en <| x_seq <| x_seq ?_
     have hdv := digV_lt (byte (s) i)
     refine x_region rfl <| mI rfl <| Wp rfl <| st_lss rfl rfl <| mB rfl <| w_split (d := 45) rfl (fun g22 => ?_) (fun g22 => ?_)
     ·try simp only [nm, ne_eq] at g22
      iterate 8 refine w_no 2 45 false ?_
      refine pT rfl rfl <| en <| x_cond (t := true) rfl (fun h4 => ?_) (fun h4 => ?_)
      rotate_left
      · exact absurd h4 (by decide)
      refine sr rfl <| aI rfl <| aB rfl <| en <| x_ret <| then_r <| block_r <| then_r <| then_r <| block_r <| then_r <| ret_tmp2 (v := .int _ _) (v2 := .bool _) rfl rfl rfl <| ⟨?_, HC⟩
      rw [constV_none hcb (by rw [← hr]; exact readN_no (by omega) (by first | (have := rdV_no (c := byte (s) i) (b := 10) (by omega); omega) | (rw [Int.tdiv_eq_ediv_of_nonneg (by omega)]; omega)))]
     ·try simp only [nm, ne_eq] at g22
      have hrd := rdV_ok (c := byte (s) i) (b := 10) (by omega)
      refine w_yes 2 45 false <| st_move (v := .int _ _) rfl <| w_yes 2 45 false <| st_move (v := .int _ _) rfl <| w_yes 2 45 false <| st_convk T.u3 T.u87 rfl (by exact wrapu64_id (by first | omega | assumption) (by first | omega | assumption)) <| w_yes 2 45 false <| st_subk rfl rfl (by exact wrapu64_id (by first | omega | assumption) (by first | omega | assumption)) <| w_yes 2 45 false <| st_move (v := .int _ _) rfl <| w_yes 2 45 false <| st_convk T.u3 T.u87 rfl (by exact wrapu64_id (by omega) (by omega)) <| w_yes 2 45 false <| st_quok rfl rfl (by decide) (by exact quou64 (by first | omega | assumption) (by first | omega | assumption) (by first | omega | assumption)) <| w_yes 2 45 false <| st_gtr rfl rfl <| pF rfl rfl <| en <| x_cond rfl (fun h4 => ?_) (fun h4 => ?_)
      ·try simp only [nm, ne_eq] at h4
       refine sr rfl <| aI rfl <| aB rfl <| en <| x_ret <| then_r <| block_r <| then_r <| then_r <| block_r <| then_r <| ret_tmp2 (v := .int _ _) (v2 := .bool _) rfl rfl rfl <| ⟨?_, HC⟩
       rw [constV_none hcb (by rw [← hr]; exact readN_no (by omega) (by first | (have := rdV_no (c := byte (s) i) (b := 10) (by omega); omega) | (rw [Int.tdiv_eq_ediv_of_nonneg (by omega)]; omega)))]
      ·try simp only [nm, ne_eq] at h4
       refine x_skip <| then_n <| x_region rfl <| mI rfl <| mI rfl <| Wp rfl <| st_convk T.u3 T.u87 rfl (by exact wrapu64_id (by omega) (by omega)) <| Wp rfl <| st_mulk rfl rfl (by exact wrapu64_id (by first | omega | assumption) (by first | omega | assumption)) <| mI rfl <| Wp rfl <| st_convk T.u3 T.u87 rfl (by exact wrapu64_id (by first | omega | assumption) (by first | omega | assumption)) <| Wp rfl <| st_addk rfl rfl (by exact wrapu64_id (by first | omega | assumption) (by first | omega | assumption)) <| aI rfl <| wops_nil <| block_n <| then_n <| x_region rfl <| mI rfl <| Wp rfl <| st_addn rfl rfl (by constructor <;> omega) <| aI rfl <| en <| ⟨(i + 1, n * 10 + rdV (byte (s) i) 10), ?_, ?_, rfl, ⟨rfl, rfl, trivial⟩, ?_⟩
       ·refine ⟨?_, HC⟩
        exact ⟨by omega, by omega, by omega, by rw [← hr, hrd.1]; exact (readN_at (by omega) (by rw [Int.tdiv_eq_ediv_of_nonneg (by omega)]; omega)).symm⟩
       ·show (s).length - (i + 1) < (s).length - i; omega
       repeat (first | exact agree_upds agree_over rfl | refine agree_upd ?_ rfl | refine agree_upds ?_ rfl | refine agree_over_sub ?_ rfl)
    ·try simp only [nm, ne_eq] at h3
     refine x_exit <| then_x <| then_x <| block_x <| then_n <| sr rfl <| mI rfl <| Wp rfl <| st_convk T.u87 T.u2 rfl (by exact wrap64_id (by first | omega | assumption) (by first | omega | assumption)) <| aI rfl <| aB rfl <| en <| x_ret <| ret_tmp2 (v := .int _ _) (v2 := .bool _) rfl rfl rfl <| ⟨?_, HC⟩
     rw [constV_some hcb (hr.symm.trans (readN_end (by omega)))]; rw [decide_eq_false (p := (s) = []) h2]; rfl
 ·try simp only [nm, ne_eq] at g1
  iterate 3 refine w_no 3 13 true ?_
  refine pF rfl rfl <| en <| x_cond (t := false) rfl (fun h0 => ?_) (fun h0 => ?_)
  · exact absurd h0 (by decide)
  have hcb : constB s = (10, s) := by exact constB_10 (fun ⟨a1, a2⟩ => by first | omega | (have : ¬ ((byte s 0).toNat : Int) = 48 := (by assumption); rw [a2] at this; exact this rfl))
  have hdl : (s).length ≤ 9223372036854775807 := by first | exact hs | (simp; omega)
  refine x_skip <| then_n <| x_seq <| sr rfl <| mS rfl <| Wp rfl <| st_seql rfl rfl <| en <| x_cond rfl (fun h2 => ?_) (fun h2 => ?_)
  ·try simp only [nm, ne_eq] at h2
   refine sr rfl <| aI rfl <| aB rfl <| en <| x_ret <| then_r <| ret_tmp2 (v := .int _ _) (v2 := .bool _) rfl rfl rfl <| ⟨?_, HC⟩
   rw [constV_nil (by rw [hcb]; exact congrArg (Prod.mk _) h2)]
  ·try simp only [nm, ne_eq] at h2
   refine x_skip <| then_n <| sr rfl <| aI rfl <| en <| x_seq <| sr rfl <| aI rfl <| en <| x_block <| x_loop (ι := Nat × Int) [2, 3, 6, 7, 8, 32, 33, 34, 35, 36, 37, 38, 39, 40, 41, 42, 43, 44, 45, 46, 47, 48, 49, 50, 51, 52, 53, 54, 55, 56, 57, 58, 59, 60, 61] (fun ⟨i, n⟩ => [(7, .int .i64 (i : Int)), (6, .int .u64 n)]) (fun ⟨i, n⟩ W => (i ≤ (s).length ∧ 0 ≤ n ∧ n ≤ 9223372036854775807 ∧ readN 10 n ((s).drop i) = readN 10 0 (s)) ∧ (Chg [] w W)) (fun ⟨i, n⟩ => (s).length - i) (0, 0) ?_ ?_ ?_
   · exact ⟨rfl, rfl, trivial⟩
   ·refine ⟨?_, HC⟩
    exact ⟨Nat.zero_le _, by omega, by omega, rfl⟩
   intro ⟨i, n⟩ G24 w23 ⟨⟨hi, hn0, hn1, hr⟩, HC⟩
   change wp _ _ _ _ _ (upds (over _ _ G24) [(7, .int .i64 (i : Int)), (6, .int .u64 n)]) _ _
   refine x_seq <| sr rfl <| mI rfl <| mS rfl <| Wp rfl <| st_slen (ct := #[9]) T.u9 rfl <| Wp rfl <| st_lss rfl rfl <| en <| x_cond rfl (fun h3 => ?_) (fun h3 => ?_)
   ·try simp only [nm, ne_eq] at h3
    refine x_skip <| then_n <| x_seq <| x_block <| sr rfl <| mS rfl <| mI rfl <| Wp rfl <| st_sidx T.u9 rfl rfl (by omega) (by omega) <| mI rfl <| Wp rfl <| st_call (ags := [_, _]) rfl rfl T.ent54 rfl (r_digit (byte (s) i) 10 _ (by omega)) ?_
    rintro _ w25 ⟨rfl, c26⟩
    replace HC := HC.then c26
    refine aI rfl <| en <| x_seq <| x_seq ?_
    have hdv := digV_lt (byte (s) i)
    refine x_region rfl <| mI rfl <| Wp rfl <| st_lss rfl rfl <| mB rfl <| w_split (d := 45) rfl (fun g27 => ?_) (fun g27 => ?_)
    ·try simp only [nm, ne_eq] at g27
     iterate 8 refine w_no 2 45 false ?_
     refine pT rfl rfl <| en <| x_cond (t := true) rfl (fun h4 => ?_) (fun h4 => ?_)
     rotate_left
     · exact absurd h4 (by decide)
     refine sr rfl <| aI rfl <| aB rfl <| en <| x_ret <| then_r <| block_r <| then_r <| then_r <| block_r <| then_r <| ret_tmp2 (v := .int _ _) (v2 := .bool _) rfl rfl rfl <| ⟨?_, HC⟩
     rw [constV_none hcb (by rw [← hr]; exact readN_no (by omega) (by first | (have := rdV_no (c := byte (s) i) (b := 10) (by omega); omega) | (rw [Int.tdiv_eq_ediv_of_nonneg (by omega)]; omega)))]
    ·try simp only [nm, ne_eq] at g27
     have hrd := rdV_ok (c := byte (s) i) (b := 10) (by omega)
     refine w_yes 2 45 false <| st_move (v := .int _ _) rfl <| w_yes 2 45 false <| st_move (v := .int _ _) rfl <| w_yes 2 45 false <| st_convk T.u3 T.u87 rfl (by exact wrapu64_id (by first | omega | assumption) (by first | omega | assumption)) <| w_yes 2 45 false <| st_subk rfl rfl (by exact wrapu64_id (by first | omega | assumption) (by first | omega | assumption)) <| w_yes 2 45 false <| st_move (v := .int _ _) rfl <| w_yes 2 45 false <| st_convk T.u3 T.u87 rfl (by exact wrapu64_id (by omega) (by omega)) <| w_yes 2 45 false <| st_quok rfl rfl (by decide) (by exact quou64 (by first | omega | assumption) (by first | omega | assumption) (by first | omega | assumption)) <| w_yes 2 45 false <| st_gtr rfl rfl <| pF rfl rfl <| en <| x_cond rfl (fun h4 => ?_) (fun h4 => ?_)
     ·try simp only [nm, ne_eq] at h4
      refine sr rfl <| aI rfl <| aB rfl <| en <| x_ret <| then_r <| block_r <| then_r <| then_r <| block_r <| then_r <| ret_tmp2 (v := .int _ _) (v2 := .bool _) rfl rfl rfl <| ⟨?_, HC⟩
      rw [constV_none hcb (by rw [← hr]; exact readN_no (by omega) (by first | (have := rdV_no (c := byte (s) i) (b := 10) (by omega); omega) | (rw [Int.tdiv_eq_ediv_of_nonneg (by omega)]; omega)))]
     ·try simp only [nm, ne_eq] at h4
      refine x_skip <| then_n <| x_region rfl <| mI rfl <| mI rfl <| Wp rfl <| st_convk T.u3 T.u87 rfl (by exact wrapu64_id (by omega) (by omega)) <| Wp rfl <| st_mulk rfl rfl (by exact wrapu64_id (by first | omega | assumption) (by first | omega | assumption)) <| mI rfl <| Wp rfl <| st_convk T.u3 T.u87 rfl (by exact wrapu64_id (by first | omega | assumption) (by first | omega | assumption)) <| Wp rfl <| st_addk rfl rfl (by exact wrapu64_id (by first | omega | assumption) (by first | omega | assumption)) <| aI rfl <| wops_nil <| block_n <| then_n <| x_region rfl <| mI rfl <| Wp rfl <| st_addn rfl rfl (by constructor <;> omega) <| aI rfl <| en <| ⟨(i + 1, n * 10 + rdV (byte (s) i) 10), ?_, ?_, rfl, ⟨rfl, rfl, trivial⟩, ?_⟩
      ·refine ⟨?_, HC⟩
       exact ⟨by omega, by omega, by omega, by rw [← hr, hrd.1]; exact (readN_at (by omega) (by rw [Int.tdiv_eq_ediv_of_nonneg (by omega)]; omega)).symm⟩
      ·show (s).length - (i + 1) < (s).length - i; omega
      repeat (first | exact agree_upds agree_over rfl | refine agree_upd ?_ rfl | refine agree_upds ?_ rfl | refine agree_over_sub ?_ rfl)
   ·try simp only [nm, ne_eq] at h3
    refine x_exit <| then_x <| then_x <| block_x <| then_n <| sr rfl <| mI rfl <| Wp rfl <| st_convk T.u87 T.u2 rfl (by exact wrap64_id (by first | omega | assumption) (by first | omega | assumption)) <| aI rfl <| aB rfl <| en <| x_ret <| ret_tmp2 (v := .int _ _) (v2 := .bool _) rfl rfl rfl <| ⟨?_, HC⟩
    rw [constV_some hcb (hr.symm.trans (readN_end (by omega)))]; rw [decide_eq_false (p := (s) = []) h2]; rfl

end Go.Proofs.YtmbbhgglllfelaaGreatDoor.K
