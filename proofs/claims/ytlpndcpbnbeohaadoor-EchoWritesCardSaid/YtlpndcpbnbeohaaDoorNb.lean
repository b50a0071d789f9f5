/- The document: numbers, counts. -/
import Derived.Test.YtlpndcpbnbeohaaDoorNa
set_option linter.unusedVariables false
set_option linter.unusedSimpArgs false
set_option autoImplicit false
set_option maxRecDepth 20000
namespace Go.Proofs.YtlpndcpbnbeohaaDoor.K
open Go Go.Proofs Go.RowKit

def rdV (c : UInt8) (b : Int) : Int := if b ≤ digV c then -1 else digV c
theorem digV_tab (c : UInt8) : digV c = if 48 ≤ c.toNat ∧ c.toNat ≤ 57 then (c.toNat : Int) - 48 else if 97 ≤ c.toNat ∧ c.toNat ≤ 102 then (c.toNat : Int) - 87 else if 65 ≤ c.toNat ∧ c.toNat ≤ 70 then (c.toNat : Int) - 55 else -1 := by
  have h : ((List.range 256).all fun n => decide (digV (UInt8.ofNat n) = if 48 ≤ n ∧ n ≤ 57 then (n : Int) - 48 else if 97 ≤ n ∧ n ≤ 102 then (n : Int) - 87 else if 65 ≤ n ∧ n ≤ 70 then (n : Int) - 55 else -1)) = true := by kernel_rfl
  have h2 := List.all_eq_true.1 h c.toNat (List.mem_range.2 c.toNat_lt)
  simpa using of_decide_eq_true h2
theorem rdV_ok {c : UInt8} {b : Int} (h : ¬ rdV c b < 0) : rdV c b = digV c ∧ 0 ≤ digV c ∧ digV c < b := by
  unfold rdV at *
  split at h
  · exact absurd (by omega) h
  · rename_i h2; rw [if_neg h2]; omega
theorem rdV_no {c : UInt8} {b : Int} (h : rdV c b < 0) : digV c < 0 ∨ b ≤ digV c := by
  unfold rdV at *
  split at h
  · right; assumption
  · left; exact h

theorem r_digit (c : UInt8) (b : Int) (w : World) (hb : 0 < b) : CallR Tryd.prog 80 #[.int .u8 (c.toNat : Int), .int .i64 b] w fun v w' => v = .int .i64 (rdV c b) ∧ Chg [] w w' := by
 refine callR_of_wp (args := [_, _]) Tryd.func80 rfl (Nat.le_of_ble_eq_true rfl) ?_
 have HC : Chg [] w w := .refl _
 have hc := c.toNat_lt
 refine sr rfl <| aI rfl <| en <| sr rfl <| aI rfl <| en <| x_seq <| x_block <| sr rfl <| mI rfl <| Wp rfl <| st_geq rfl rfl <| mB rfl <| w_split (d := 9) rfl (fun g1 => ?_) (fun g1 => ?_)
 ·try simp only [nm, ne_eq] at g1
  refine w_yes 2 9 true <| st_move (v := .int _ _) rfl <| w_yes 2 9 true <| st_leq rfl rfl <| pT rfl rfl <| aB rfl <| en <| x_cond rfl (fun h0 => ?_) (fun h0 => ?_)
  ·try simp only [nm, ne_eq] at h0
   refine x_region rfl <| mI rfl <| Wp rfl <| st_subk rfl rfl (by exact wrapu8_id (by first | omega | assumption) (by first | omega | assumption)) <| Wp rfl <| st_convk T.u5 T.u3 rfl (by exact wrap64_id (by first | omega | assumption) (by first | omega | assumption)) <| aI rfl <| wops_nil <| block_n <| then_n <| x_seq <| sr rfl <| mI rfl <| mI rfl <| Wp rfl <| st_geq rfl rfl <| en <| x_cond rfl (fun h3 => ?_) (fun h3 => ?_)
   ·try simp only [nm, ne_eq] at h3
    refine sr rfl <| aI rfl <| en <| x_ret <| then_r <| ret_tmp (v := .int _ _) rfl rfl <| ⟨congrArg (Value.int .i64) ?_, HC⟩
    unfold rdV
    rw [digV_tab]
    repeat' split
    all_goals omega
   ·try simp only [nm, ne_eq] at h3
    refine x_skip <| then_n <| sr rfl <| mI rfl <| aI rfl <| en <| x_ret <| ret_tmp (v := .int _ _) rfl rfl <| ⟨congrArg (Value.int .i64) ?_, HC⟩
    unfold rdV
    rw [digV_tab]
    repeat' split
    all_goals omega
  ·try simp only [nm, ne_eq] at h0
   refine sr rfl <| mI rfl <| Wp rfl <| st_geq rfl rfl <| mB rfl <| w_split (d := 19) rfl (fun g2 => ?_) (fun g2 => ?_)
   ·try simp only [nm, ne_eq] at g2
    refine w_yes 2 19 true <| st_move (v := .int _ _) rfl <| w_yes 2 19 true <| st_leq rfl rfl <| pT rfl rfl <| aB rfl <| en <| x_cond rfl (fun h1 => ?_) (fun h1 => ?_)
    ·try simp only [nm, ne_eq] at h1
     refine x_region rfl <| mI rfl <| Wp rfl <| st_subk rfl rfl (by exact wrapu8_id (by first | omega | assumption) (by first | omega | assumption)) <| Wp rfl <| st_convk T.u5 T.u3 rfl (by exact wrap64_id (by first | omega | assumption) (by first | omega | assumption)) <| Wp rfl <| st_addn rfl rfl (by constructor <;> omega) <| aI rfl <| wops_nil <| block_n <| then_n <| x_seq <| sr rfl <| mI rfl <| mI rfl <| Wp rfl <| st_geq rfl rfl <| en <| x_cond rfl (fun h3 => ?_) (fun h3 => ?_)
     ·try simp only [nm, ne_eq] at h3
      refine sr rfl <| aI rfl <| en <| x_ret <| then_r <| ret_tmp (v := .int _ _) rfl rfl <| ⟨congrArg (Value.int .i64) ?_, HC⟩
      unfold rdV
      rw [digV_tab]
      repeat' split
      all_goals omega
     ·try simp only [nm, ne_eq] at h3
      refine x_skip <| then_n <| sr rfl <| mI rfl <| aI rfl <| en <| x_ret <| ret_tmp (v := .int _ _) rfl rfl <| ⟨congrArg (Value.int .i64) ?_, HC⟩
      unfold rdV
      rw [digV_tab]
      repeat' split
      all_goals omega
    ·try simp only [nm, ne_eq] at h1
     refine sr rfl <| mI rfl <| Wp rfl <| st_geq rfl rfl <| mB rfl <| w_split (d := 30) rfl (fun g3 => ?_) (fun g3 => ?_)
     ·try simp only [nm, ne_eq] at g3
      refine w_yes 2 30 true <| st_move (v := .int _ _) rfl <| w_yes 2 30 true <| st_leq rfl rfl <| pT rfl rfl <| aB rfl <| en <| x_cond rfl (fun h2 => ?_) (fun h2 => ?_)
      ·try simp only [nm, ne_eq] at h2
       refine x_region rfl <| mI rfl <| Wp rfl <| st_subk rfl rfl (by exact wrapu8_id (by first | omega | assumption) (by first | omega | assumption)) <| Wp rfl <| st_convk T.u5 T.u3 rfl (by exact wrap64_id (by first | omega | assumption) (by first | omega | assumption)) <| Wp rfl <| st_addn rfl rfl (by constructor <;> omega) <| aI rfl <| wops_nil <| block_n <| then_n <| x_seq <| sr rfl <| mI rfl <| mI rfl <| Wp rfl <| st_geq rfl rfl <| en <| x_cond rfl (fun h3 => ?_) (fun h3 => ?_)
       ·try simp only [nm, ne_eq] at h3
        refine sr rfl <| aI rfl <| en <| x_ret <| then_r <| ret_tmp (v := .int _ _) rfl rfl <| ⟨congrArg (Value.int .i64) ?_, HC⟩
        unfold rdV
        rw [digV_tab]
        repeat' split
        all_goals omega
       ·try simp only [nm, ne_eq] at h3
        refine x_skip <| then_n <| sr rfl <| mI rfl <| aI rfl <| en <| x_ret <| ret_tmp (v := .int _ _) rfl rfl <| ⟨congrArg (Value.int .i64) ?_, HC⟩
        unfold rdV
        rw [digV_tab]
        repeat' split
        all_goals omega
      ·try simp only [nm, ne_eq] at h2
       refine x_skip <| block_n <| then_n <| x_seq <| sr rfl <| mI rfl <| mI rfl <| Wp rfl <| st_geq rfl rfl <| en <| x_cond rfl (fun h3 => ?_) (fun h3 => ?_)
       ·try simp only [nm, ne_eq] at h3
        refine sr rfl <| aI rfl <| en <| x_ret <| then_r <| ret_tmp (v := .int _ _) rfl rfl <| ⟨congrArg (Value.int .i64) ?_, HC⟩
        unfold rdV
        rw [digV_tab]
        repeat' split
        all_goals omega
       ·try simp only [nm, ne_eq] at h3
        refine x_skip <| then_n <| sr rfl <| mI rfl <| aI rfl <| en <| x_ret <| ret_tmp (v := .int _ _) rfl rfl <| ⟨congrArg (Value.int .i64) ?_, HC⟩
        unfold rdV
        rw [digV_tab]
        repeat' split
        all_goals omega
     ·try simp only [nm, ne_eq] at g3
      refine w_no 2 30 true <| w_no 2 30 true <| pF rfl rfl <| aB rfl <| en <| x_cond (t := false) rfl (fun h2 => ?_) (fun h2 => ?_)
      · exact absurd h2 (by decide)
      refine x_skip <| block_n <| then_n <| x_seq <| sr rfl <| mI rfl <| mI rfl <| Wp rfl <| st_geq rfl rfl <| en <| x_cond rfl (fun h3 => ?_) (fun h3 => ?_)
      ·try simp only [nm, ne_eq] at h3
       refine sr rfl <| aI rfl <| en <| x_ret <| then_r <| ret_tmp (v := .int _ _) rfl rfl <| ⟨congrArg (Value.int .i64) ?_, HC⟩
       unfold rdV
       rw [digV_tab]
       repeat' split
       all_goals omega
      ·try simp only [nm, ne_eq] at h3
       refine x_skip <| then_n <| sr rfl <| mI rfl <| aI rfl <| en <| x_ret <| ret_tmp (v := .int _ _) rfl rfl <| ⟨congrArg (Value.int .i64) ?_, HC⟩
       unfold rdV
       rw [digV_tab]
       repeat' split
       all_goals omega
   ·try simp only [nm, ne_eq] at g2
    refine w_no 2 19 true <| w_no 2 19 true <| pF rfl rfl <| aB rfl <| en <| x_cond (t := false) rfl (fun h1 => ?_) (fun h1 => ?_)
    · exact absurd h1 (by decide)
    refine sr rfl <| mI rfl <| Wp rfl <| st_geq rfl rfl <| mB rfl <| w_split (d := 30) rfl (fun g4 => ?_) (fun g4 => ?_)
    ·try simp only [nm, ne_eq] at g4
     refine w_yes 2 30 true <| st_move (v := .int _ _) rfl <| w_yes 2 30 true <| st_leq rfl rfl <| pT rfl rfl <| aB rfl <| en <| x_cond rfl (fun h2 => ?_) (fun h2 => ?_)
     ·try simp only [nm, ne_eq] at h2
      refine x_region rfl <| mI rfl <| Wp rfl <| st_subk rfl rfl (by exact wrapu8_id (by first | omega | assumption) (by first | omega | assumption)) <| Wp rfl <| st_convk T.u5 T.u3 rfl (by exact wrap64_id (by first | omega | assumption) (by first | omega | assumption)) <| Wp rfl <| st_addn rfl rfl (by constructor <;> omega) <| aI rfl <| wops_nil <| block_n <| then_n <| x_seq <| sr rfl <| mI rfl <| mI rfl <| Wp rfl <| st_geq rfl rfl <| en <| x_cond rfl (fun h3 => ?_) (fun h3 => ?_)
      ·try simp only [nm, ne_eq] at h3
       refine sr rfl <| aI rfl <| en <| x_ret <| then_r <| ret_tmp (v := .int _ _) rfl rfl <| ⟨congrArg (Value.int .i64) ?_, HC⟩
       unfold rdV
       rw [digV_tab]
       repeat' split
       all_goals omega
      ·try simp only [nm, ne_eq] at h3
       refine x_skip <| then_n <| sr rfl <| mI rfl <| aI rfl <| en <| x_ret <| ret_tmp (v := .int _ _) rfl rfl <| ⟨congrArg (Value.int .i64) ?_, HC⟩
       unfold rdV
       rw [digV_tab]
       repeat' split
       all_goals omega
     ·try simp only [nm, ne_eq] at h2
      refine x_skip <| block_n <| then_n <| x_seq <| sr rfl <| mI rfl <| mI rfl <| Wp rfl <| st_geq rfl rfl <| en <| x_cond rfl (fun h3 => ?_) (fun h3 => ?_)
      ·try simp only [nm, ne_eq] at h3
       refine sr rfl <| aI rfl <| en <| x_ret <| then_r <| ret_tmp (v := .int _ _) rfl rfl <| ⟨congrArg (Value.int .i64) ?_, HC⟩
       unfold rdV
       rw [digV_tab]
       repeat' split
       all_goals omega
      ·try simp only [nm, ne_eq] at h3
       refine x_skip <| then_n <| sr rfl <| mI rfl <| aI rfl <| en <| x_ret <| ret_tmp (v := .int _ _) rfl rfl <| ⟨congrArg (Value.int .i64) ?_, HC⟩
       unfold rdV
       rw [digV_tab]
       repeat' split
       all_goals omega
    ·try simp only [nm, ne_eq] at g4
     refine w_no 2 30 true <| w_no 2 30 true <| pF rfl rfl <| aB rfl <| en <| x_cond (t := false) rfl (fun h2 => ?_) (fun h2 => ?_)
     · exact absurd h2 (by decide)
     refine x_skip <| block_n <| then_n <| x_seq <| sr rfl <| mI rfl <| mI rfl <| Wp rfl <| st_geq rfl rfl <| en <| x_cond rfl (fun h3 => ?_) (fun h3 => ?_)
     ·try simp only [nm, ne_eq] at h3
      refine sr rfl <| aI rfl <| en <| x_ret <| then_r <| ret_tmp (v := .int _ _) rfl rfl <| ⟨congrArg (Value.int .i64) ?_, HC⟩
      unfold rdV
      rw [digV_tab]
      repeat' split
      all_goals omega
     ·try simp only [nm, ne_eq] at h3
      refine x_skip <| then_n <| sr rfl <| mI rfl <| aI rfl <| en <| x_ret <| ret_tmp (v := .int _ _) rfl rfl <| ⟨congrArg (Value.int .i64) ?_, HC⟩
      unfold rdV
      rw [digV_tab]
      repeat' split
      all_goals omega
 ·try simp only [nm, ne_eq] at g1
  refine w_no 2 9 true <| w_no 2 9 true <| pF rfl rfl <| aB rfl <| en <| x_cond (t := false) rfl (fun h0 => ?_) (fun h0 => ?_)
  · exact absurd h0 (by decide)
  refine sr rfl <| mI rfl <| Wp rfl <| st_geq rfl rfl <| mB rfl <| w_split (d := 19) rfl (fun g5 => ?_) (fun g5 => ?_)
  ·try simp only [nm, ne_eq] at g5
   refine w_yes 2 19 true <| st_move (v := .int _ _) rfl <| w_yes 2 19 true <| st_leq rfl rfl <| pT rfl rfl <| aB rfl <| en <| x_cond rfl (fun h1 => ?_) (fun h1 => ?_)
   ·try simp only [nm, ne_eq] at h1
    refine x_region rfl <| mI rfl <| Wp rfl <| st_subk rfl rfl (by exact wrapu8_id (by first | omega | assumption) (by first | omega | assumption)) <| Wp rfl <| st_convk T.u5 T.u3 rfl (by exact wrap64_id (by first | omega | assumption) (by first | omega | assumption)) <| Wp rfl <| st_addn rfl rfl (by constructor <;> omega) <| aI rfl <| wops_nil <| block_n <| then_n <| x_seq <| sr rfl <| mI rfl <| mI rfl <| Wp rfl <| st_geq rfl rfl <| en <| x_cond rfl (fun h3 => ?_) (fun h3 => ?_)
    ·try simp only [nm, ne_eq] at h3
     refine sr rfl <| aI rfl <| en <| x_ret <| then_r <| ret_tmp (v := .int _ _) rfl rfl <| ⟨congrArg (Value.int .i64) ?_, HC⟩
     unfold rdV
     rw [digV_tab]
     repeat' split
     all_goals omega
    ·try simp only [nm, ne_eq] at h3
     refine x_skip <| then_n <| sr rfl <| mI rfl <| aI rfl <| en <| x_ret <| ret_tmp (v := .int _ _) rfl rfl <| ⟨congrArg (Value.int .i64) ?_, HC⟩
     unfold rdV
     rw [digV_tab]
     repeat' split
     all_goals omega
   ·try simp only [nm, ne_eq] at h1
    refine sr rfl <| mI rfl <| Wp rfl <| st_geq rfl rfl <| mB rfl <| w_split (d := 30) rfl (fun g6 => ?_) (fun g6 => ?_)
    ·try simp only [nm, ne_eq] at g6
     refine w_yes 2 30 true <| st_move (v := .int _ _) rfl <| w_yes 2 30 true <| st_leq rfl rfl <| pT rfl rfl <| aB rfl <| en <| x_cond rfl (fun h2 => ?_) (fun h2 => ?_)
     ·try simp only [nm, ne_eq] at h2
      refine x_region rfl <| mI rfl <| Wp rfl <| st_subk rfl rfl (by exact wrapu8_id (by first | omega | assumption) (by first | omega | assumption)) <| Wp rfl <| st_convk T.u5 T.u3 rfl (by exact wrap64_id (by first | omega | assumption) (by first | omega | assumption)) <| Wp rfl <| st_addn rfl rfl (by constructor <;> omega) <| aI rfl <| wops_nil <| block_n <| then_n <| x_seq <| sr rfl <| mI rfl <| mI rfl <| Wp rfl <| st_geq rfl rfl <| en <| x_cond rfl (fun h3 => ?_) (fun h3 => ?_)
      ·try simp only [nm, ne_eq] at h3
       refine sr rfl <| aI rfl <| en <| x_ret <| then_r <| ret_tmp (v := .int _ _) rfl rfl <| ⟨congrArg (Value.int .i64) ?_, HC⟩
       unfold rdV
       rw [digV_tab]
       repeat' split
       all_goals omega
      ·try simp only [nm, ne_eq] at h3
       refine x_skip <| then_n <| sr rfl <| mI rfl <| aI rfl <| en <| x_ret <| ret_tmp (v := .int _ _) rfl rfl <| ⟨congrArg (Value.int .i64) ?_, HC⟩
       unfold rdV
       rw [digV_tab]
       repeat' split
       all_goals omega
     ·try simp only [nm, ne_eq] at h2
      refine x_skip <| block_n <| then_n <| x_seq <| sr rfl <| mI rfl <| mI rfl <| Wp rfl <| st_geq rfl rfl <| en <| x_cond rfl (fun h3 => ?_) (fun h3 => ?_)
      ·try simp only [nm, ne_eq] at h3
       refine sr rfl <| aI rfl <| en <| x_ret <| then_r <| ret_tmp (v := .int _ _) rfl rfl <| ⟨congrArg (Value.int .i64) ?_, HC⟩
       unfold rdV
       rw [digV_tab]
       repeat' split
       all_goals omega
      ·try simp only [nm, ne_eq] at h3
       refine x_skip <| then_n <| sr rfl <| mI rfl <| aI rfl <| en <| x_ret <| ret_tmp (v := .int _ _) rfl rfl <| ⟨congrArg (Value.int .i64) ?_, HC⟩
       unfold rdV
       rw [digV_tab]
       repeat' split
       all_goals omega
    ·try simp only [nm, ne_eq] at g6
     refine w_no 2 30 true <| w_no 2 30 true <| pF rfl rfl <| aB rfl <| en <| x_cond (t := false) rfl (fun h2 => ?_) (fun h2 => ?_)
     · exact absurd h2 (by decide)
     refine x_skip <| block_n <| then_n <| x_seq <| sr rfl <| mI rfl <| mI rfl <| Wp rfl <| st_geq rfl rfl <| en <| x_cond rfl (fun h3 => ?_) (fun h3 => ?_)
     ·try simp only [nm, ne_eq] at h3
      refine sr rfl <| aI rfl <| en <| x_ret <| then_r <| ret_tmp (v := .int _ _) rfl rfl <| ⟨congrArg (Value.int .i64) ?_, HC⟩
      unfold rdV
      rw [digV_tab]
      repeat' split
      all_goals omega
     ·try simp only [nm, ne_eq] at h3
      refine x_skip <| then_n <| sr rfl <| mI rfl <| aI rfl <| en <| x_ret <| ret_tmp (v := .int _ _) rfl rfl <| ⟨congrArg (Value.int .i64) ?_, HC⟩
      unfold rdV
      rw [digV_tab]
      repeat' split
      all_goals omega
  ·try simp only [nm, ne_eq] at g5
   refine w_no 2 19 true <| w_no 2 19 true <| pF rfl rfl <| aB rfl <| en <| x_cond (t := false) rfl (fun h1 => ?_) (fun h1 => ?_)
   · exact absurd h1 (by decide)
   refine sr rfl <| mI rfl <| Wp rfl <| st_geq rfl rfl <| mB rfl <| w_split (d := 30) rfl (fun g7 => ?_) (fun g7 => ?_)
   ·try simp only [nm, ne_eq] at g7
    refine w_yes 2 30 true <| st_move (v := .int _ _) rfl <| w_yes 2 30 true <| st_leq rfl rfl <| pT rfl rfl <| aB rfl <| en <| x_cond rfl (fun h2 => ?_) (fun h2 => ?_)
    ·try simp only [nm, ne_eq] at h2
     refine x_region rfl <| mI rfl <| Wp rfl <| st_subk rfl rfl (by exact wrapu8_id (by first | omega | assumption) (by first | omega | assumption)) <| Wp rfl <| st_convk T.u5 T.u3 rfl (by exact wrap64_id (by first | omega | assumption) (by first | omega | assumption)) <| Wp rfl <| st_addn rfl rfl (by constructor <;> omega) <| aI rfl <| wops_nil <| block_n <| then_n <| x_seq <| sr rfl <| mI rfl <| mI rfl <| Wp rfl <| st_geq rfl rfl <| en <| x_cond rfl (fun h3 => ?_) (fun h3 => ?_)
     ·try simp only [nm, ne_eq] at h3
      refine sr rfl <| aI rfl <| en <| x_ret <| then_r <| ret_tmp (v := .int _ _) rfl rfl <| ⟨congrArg (Value.int .i64) ?_, HC⟩
      unfold rdV
      rw [digV_tab]
      repeat' split
      all_goals omega
     ·try simp only [nm, ne_eq] at h3
      refine x_skip <| then_n <| sr rfl <| mI rfl <| aI rfl <| en <| x_ret <| ret_tmp (v := .int _ _) rfl rfl <| ⟨congrArg (Value.int .i64) ?_, HC⟩
      unfold rdV
      rw [digV_tab]
      repeat' split
      all_goals omega
    ·try simp only [nm, ne_eq] at h2
     refine x_skip <| block_n <| then_n <| x_seq <| sr rfl <| mI rfl <| mI rfl <| Wp rfl <| st_geq rfl rfl <| en <| x_cond rfl (fun h3 => ?_) (fun h3 => ?_)
     ·try simp only [nm, ne_eq] at h3
      refine sr rfl <| aI rfl <| en <| x_ret <| then_r <| ret_tmp (v := .int _ _) rfl rfl <| ⟨congrArg (Value.int .i64) ?_, HC⟩
      unfold rdV
      rw [digV_tab]
      repeat' split
      all_goals omega
     ·try simp only [nm, ne_eq] at h3
      refine x_skip <| then_n <| sr rfl <| mI rfl <| aI rfl <| en <| x_ret <| ret_tmp (v := .int _ _) rfl rfl <| ⟨congrArg (Value.int .i64) ?_, HC⟩
      unfold rdV
      rw [digV_tab]
      repeat' split
      all_goals omega
   ·try simp only [nm, ne_eq] at g7
    refine w_no 2 30 true <| w_no 2 30 true <| pF rfl rfl <| aB rfl <| en <| x_cond (t := false) rfl (fun h2 => ?_) (fun h2 => ?_)
    · exact absurd h2 (by decide)
    refine x_skip <| block_n <| then_n <| x_seq <| sr rfl <| mI rfl <| mI rfl <| Wp rfl <| st_geq rfl rfl <| en <| x_cond rfl (fun h3 => ?_) (fun h3 => ?_)
    ·try simp only [nm, ne_eq] at h3
     refine sr rfl <| aI rfl <| en <| x_ret <| then_r <| ret_tmp (v := .int _ _) rfl rfl <| ⟨congrArg (Value.int .i64) ?_, HC⟩
     unfold rdV
     rw [digV_tab]
     repeat' split
     all_goals omega
    ·try simp only [nm, ne_eq] at h3
     refine x_skip <| then_n <| sr rfl <| mI rfl <| aI rfl <| en <| x_ret <| ret_tmp (v := .int _ _) rfl rfl <| ⟨congrArg (Value.int .i64) ?_, HC⟩
     unfold rdV
     rw [digV_tab]
     repeat' split
     all_goals omega

theorem constB_16 {s : Bytes} (h : 1 < s.length) (h0 : byte s 0 = 48) (h1 : byte s 1 = 120 ∨ byte s 1 = 88) : constB s = (16, s.drop 2) := by
  match s, h with
  | a :: b :: s, _ =>
    simp only [byte, List.getD_cons_zero, List.getD_cons_succ] at h0 h1
    subst h0
    rcases h1 with rfl | rfl <;> simp [constB, Lib.hasPrefix, List.isPrefixOf]
theorem constB_8 {s : Bytes} (h : 1 < s.length) (h0 : byte s 0 = 48) (h1 : ¬ byte s 1 = 120) (h2 : ¬ byte s 1 = 88) : constB s = (8, s.drop 1) := by
  match s, h with
  | a :: b :: s, _ =>
    simp only [byte, List.getD_cons_zero, List.getD_cons_succ] at h0 h1 h2
    subst h0
    simp [constB, Lib.hasPrefix, List.isPrefixOf, Ne.symm (a := b) h1, Ne.symm (a := b) h2, eq_comm (a := (120 : UInt8)), eq_comm (a := (88 : UInt8)), h1, h2]
theorem constB_10 {s : Bytes} (h : ¬ (1 < s.length ∧ byte s 0 = 48)) : constB s = (10, s) := by
  match s with
  | [] => simp [constB, Lib.hasPrefix, List.isPrefixOf]
  | [a] => simp [constB, Lib.hasPrefix, List.isPrefixOf]
  | a :: b :: s =>
    have h0 : ¬ a = 48 := fun e => h ⟨by simp, by simp [byte, e]⟩
    simp [constB, Lib.hasPrefix, List.isPrefixOf, eq_comm (a := (48 : UInt8)), h0]
theorem nat48 {c : UInt8} {k : Nat} (hk : k < 256) (h : (c.toNat : Int) = k) : c = UInt8.ofNat k := by
  apply UInt8.toNat_inj.1
  rw [UInt8.toNat_ofNat_of_lt' (by omega)]; omega
theorem constV_nil {s : Bytes} {b : Int} (h : constB s = (b, [])) : constV s = (0, false) := by rw [constV_some h (n := 0) rfl]; rfl

theorem RConstant_spec (s : Bytes) (w : World) (hs : s.length ≤ 9223372036854775807) : CallR Tryd.prog 72 #[S s] w fun v w' => v = .tuple ⟨[.int .i64 (constV s).1, .bool (constV s).2]⟩ ∧ Chg [] w w' := by
 refine callR_of_wp (args := [_]) Tryd.func72 rfl (Nat.le_of_ble_eq_true rfl) ?_
 have HC : Chg [] w w := .refl _
 refine sr rfl <| aI rfl <| aB rfl <| en <| sr rfl <| aI rfl <| en <| sr rfl <| mS rfl <| aS rfl <| en <| x_seq <| sr rfl <| mS rfl <| Wp rfl <| st_slen (ct := #[9]) T.u9 rfl <| Wp rfl <| st_gtr rfl rfl <| mB rfl <| w_split (d := 13) rfl (fun g1 => ?_) (fun g1 => ?_)
 ·try simp only [nm, ne_eq] at g1
  refine w_yes 3 13 true <| st_move (v := S _) rfl <| w_yes 3 13 true <| st_sidx T.u9 rfl rfl (by omega) (by omega) <| w_yes 3 13 true <| st_eql rfl rfl <| pT rfl rfl <| en <| x_cond rfl (fun h0 => ?_) (fun h0 => ?_)
  ·try simp only [nm, ne_eq] at h0
   refine sr rfl <| aI rfl <| en <| sr rfl <| mS rfl <| Wp rfl <| st_sslo (i := 1) T.u9 rfl ⟨_, rfl⟩ (by omega) <| aS rfl <| en <| sr rfl <| mS rfl <| Wp rfl <| st_sidx T.u9 rfl rfl (by omega) (by omega) <| Wp rfl <| st_eql rfl rfl <| mB rfl <| w_split (d := 23) rfl (fun g2 => ?_) (fun g2 => ?_)
   ·try simp only [nm, ne_eq] at g2
    iterate 3 refine w_no 3 23 false ?_
    refine pT rfl rfl <| en <| x_cond (t := true) rfl (fun h1 => ?_) (fun h1 => ?_)
    rotate_left
    · exact absurd h1 (by decide)
    have hcb : constB s = (16, (s.drop 2)) := by exact constB_16 (by omega) (nat48 (k := 48) (by omega) (by assumption)) (by first | exact .inl (nat48 (k := 120) (by omega) (by assumption)) | exact .inr (nat48 (k := 88) (by omega) (by assumption)))
    have hdl : ((s.drop 2)).length ≤ 9223372036854775807 := by first | exact hs | (simp; omega)
    refine sr rfl <| aI rfl <| en <| x_region rfl <| mS rfl <| Wp rfl <| st_sslo (i := 2) T.u9 rfl ⟨_, rfl⟩ (by omega) <| aS rfl <| en <| x_seq <| sr rfl <| mS rfl <| Wp rfl <| st_seql rfl rfl <| en <| x_cond rfl (fun h2 => ?_) (fun h2 => ?_)
    ·try simp only [nm, ne_eq] at h2
     refine sr rfl <| aI rfl <| aB rfl <| en <| x_ret <| then_r <| ret_tmp2 (v := .int _ _) (v2 := .bool _) rfl rfl rfl <| ⟨?_, HC⟩
     rw [constV_nil (by rw [hcb]; exact congrArg (Prod.mk _) h2)]
    ·try simp only [nm, ne_eq] at h2
     refine x_skip <| then_n <| sr rfl <| aI rfl <| en <| x_seq <| sr rfl <| aI rfl <| en <| x_block <| x_loop (ι := Nat × Int) [2, 3, 6, 7, 8, 32, 33, 34, 35, 36, 37, 38, 39, 40, 41, 42, 43, 44, 45, 46, 47, 48, 49, 50, 51, 52, 53, 54, 55, 56, 57, 58, 59, 60, 61] (fun ⟨i, n⟩ => [(7, .int .i64 (i : Int)), (6, .int .u64 n)]) (fun ⟨i, n⟩ W => (i ≤ ((s.drop 2)).length ∧ 0 ≤ n ∧ n ≤ 9223372036854775807 ∧ readN 16 n (((s.drop 2)).drop i) = readN 16 0 ((s.drop 2))) ∧ (Chg [] w W)) (fun ⟨i, n⟩ => ((s.drop 2)).length - i) (0, 0) ?_ ?_ ?_
     · exact ⟨rfl, rfl, trivial⟩
     ·refine ⟨?_, HC⟩
      exact ⟨Nat.zero_le _, by omega, by omega, rfl⟩
     intro ⟨i, n⟩ G4 w3 ⟨⟨hi, hn0, hn1, hr⟩, HC⟩
     change wp _ _ _ _ _ (upds (over _ _ G4) [(7, .int .i64 (i : Int)), (6, .int .u64 n)]) _ _
     refine x_seq <| sr rfl <| mI rfl <| mS rfl <| Wp rfl <| st_slen (ct := #[9]) T.u9 rfl <| Wp rfl <| st_lss rfl rfl <| en <| x_cond rfl (fun h3 => ?_) (fun h3 => ?_)
     ·try simp only [nm, ne_eq] at h3
      refine x_skip <| then_n <| x_seq <| x_block <| sr rfl <| mS rfl <| mI rfl <| Wp rfl <| st_sidx T.u9 rfl rfl (by omega) (by omega) <| mI rfl <| Wp rfl <| st_call (ags := [_, _]) rfl rfl T.ent80 rfl (r_digit (byte ((s.drop 2)) i) 16 _ (by omega)) ?_
      rintro _ w5 ⟨rfl, c6⟩
      replace HC := HC.then c6
      refine aI rfl <| en <| x_seq <| x_seq ?_
      have hdv := digV_lt (byte ((s.drop 2)) i)
      refine x_region rfl <| mI rfl <| Wp rfl <| st_lss rfl rfl <| mB rfl <| w_split (d := 45) rfl (fun g7 => ?_) (fun g7 => ?_)
      ·try simp only [nm, ne_eq] at g7
       iterate 8 refine w_no 2 45 false ?_
       refine pT rfl rfl <| en <| x_cond (t := true) rfl (fun h4 => ?_) (fun h4 => ?_)
       rotate_left
       · exact absurd h4 (by decide)
       refine sr rfl <| aI rfl <| aB rfl <| en <| x_ret <| then_r <| block_r <| then_r <| then_r <| block_r <| then_r <| ret_tmp2 (v := .int _ _) (v2 := .bool _) rfl rfl rfl <| ⟨?_, HC⟩
       rw [constV_none hcb (by rw [← hr]; exact readN_no (by omega) (by first | (have := rdV_no (c := byte ((s.drop 2)) i) (b := 16) (by omega); omega) | (rw [Int.tdiv_eq_ediv_of_nonneg (by omega)]; omega)))]
      ·try simp only [nm, ne_eq] at g7
       have hrd := rdV_ok (c := byte ((s.drop 2)) i) (b := 16) (by omega)
       refine w_yes 2 45 false <| st_move (v := .int _ _) rfl <| w_yes 2 45 false <| st_move (v := .int _ _) rfl <| w_yes 2 45 false <| st_convk T.u3 T.u58 rfl (by exact wrapu64_id (by first | omega | assumption) (by first | omega | assumption)) <| w_yes 2 45 false <| st_subk rfl rfl (by exact wrapu64_id (by first | omega | assumption) (by first | omega | assumption)) <| w_yes 2 45 false <| st_move (v := .int _ _) rfl <| w_yes 2 45 false <| st_convk T.u3 T.u58 rfl (by exact wrapu64_id (by omega) (by omega)) <| w_yes 2 45 false <| st_quok rfl rfl (by decide) (by exact quou64 (by first | omega | assumption) (by first | omega | assumption) (by first | omega | assumption)) <| w_yes 2 45 false <| st_gtr rfl rfl <| pF rfl rfl <| en <| x_cond rfl (fun h4 => ?_) (fun h4 => ?_)
       ·try simp only [nm, ne_eq] at h4
        refine sr rfl <| aI rfl <| aB rfl <| en <| x_ret <| then_r <| block_r <| then_r <| then_r <| block_r <| then_r <| ret_tmp2 (v := .int _ _) (v2 := .bool _) rfl rfl rfl <| ⟨?_, HC⟩
        rw [constV_none hcb (by rw [← hr]; exact readN_no (by omega) (by first | (have := rdV_no (c := byte ((s.drop 2)) i) (b := 16) (by omega); omega) | (rw [Int.tdiv_eq_ediv_of_nonneg (by omega)]; omega)))]
       ·try simp only [nm, ne_eq] at h4
        refine x_skip <| then_n <| x_region rfl <| mI rfl <| mI rfl <| Wp rfl <| st_convk T.u3 T.u58 rfl (by exact wrapu64_id (by omega) (by omega)) <| Wp rfl <| st_mulk rfl rfl (by exact wrapu64_id (by first | omega | assumption) (by first | omega | assumption)) <| mI rfl <| Wp rfl <| st_convk T.u3 T.u58 rfl (by exact wrapu64_id (by first | omega | assumption) (by first | omega | assumption)) <| Wp rfl <| st_addk rfl rfl (by exact wrapu64_id (by first | omega | assumption) (by first | omega | assumption)) <| aI rfl <| wops_nil <| block_n <| then_n <| x_region rfl <| mI rfl <| Wp rfl <| st_addn rfl rfl (by constructor <;> omega) <| aI rfl <| en <| ⟨(i + 1, n * 16 + rdV (byte ((s.drop 2)) i) 16), ?_, ?_, rfl, ⟨rfl, rfl, trivial⟩, ?_⟩
        ·refine ⟨?_, HC⟩
         exact ⟨by omega, by omega, by omega, by rw [← hr, hrd.1]; exact (readN_at (by omega) (by rw [Int.tdiv_eq_ediv_of_nonneg (by omega)]; omega)).symm⟩
        ·show ((s.drop 2)).length - (i + 1) < ((s.drop 2)).length - i; omega
        repeat (first | exact agree_upds agree_over rfl | refine agree_upd ?_ rfl | refine agree_upds ?_ rfl | refine agree_over_sub ?_ rfl)
     ·try simp only [nm, ne_eq] at h3
      refine x_exit <| then_x <| then_x <| block_x <| then_n <| sr rfl <| mI rfl <| Wp rfl <| st_convk T.u58 T.u2 rfl (by exact wrap64_id (by first | omega | assumption) (by first | omega | assumption)) <| aI rfl <| aB rfl <| en <| x_ret <| ret_tmp2 (v := .int _ _) (v2 := .bool _) rfl rfl rfl <| ⟨?_, HC⟩
      rw [constV_some hcb (hr.symm.trans (readN_end (by omega)))]; rw [decide_eq_false (p := ((s.drop 2)) = []) h2]; rfl
   ·try simp only [nm, ne_eq] at g2
    refine w_yes 3 23 false <| st_move (v := S _) rfl <| w_yes 3 23 false <| st_sidx T.u9 rfl rfl (by omega) (by omega) <| w_yes 3 23 false <| st_eql rfl rfl <| pF rfl rfl <| en <| x_cond rfl (fun h1 => ?_) (fun h1 => ?_)
    ·try simp only [nm, ne_eq] at h1
     have hcb : constB s = (16, (s.drop 2)) := by exact constB_16 (by omega) (nat48 (k := 48) (by omega) (by assumption)) (by first | exact .inl (nat48 (k := 120) (by omega) (by assumption)) | exact .inr (nat48 (k := 88) (by omega) (by assumption)))
     have hdl : ((s.drop 2)).length ≤ 9223372036854775807 := by first | exact hs | (simp; omega)
     refine sr rfl <| aI rfl <| en <| x_region rfl <| mS rfl <| Wp rfl <| st_sslo (i := 2) T.u9 rfl ⟨_, rfl⟩ (by omega) <| aS rfl <| en <| x_seq <| sr rfl <| mS rfl <| Wp rfl <| st_seql rfl rfl <| en <| x_cond rfl (fun h2 => ?_) (fun h2 => ?_)
     ·try simp only [nm, ne_eq] at h2
      refine sr rfl <| aI rfl <| aB rfl <| en <| x_ret <| then_r <| ret_tmp2 (v := .int _ _) (v2 := .bool _) rfl rfl rfl <| ⟨?_, HC⟩
      rw [constV_nil (by rw [hcb]; exact congrArg (Prod.mk _) h2)]
     ·try simp only [nm, ne_eq] at h2
      refine x_skip <| then_n <| sr rfl <| aI rfl <| en <| x_seq <| sr rfl <| aI rfl <| en <| x_block <| x_loop (ι := Nat × Int) [2, 3, 6, 7, 8, 32, 33, 34, 35, 36, 37, 38, 39, 40, 41, 42, 43, 44, 45, 46, 47, 48, 49, 50, 51, 52, 53, 54, 55, 56, 57, 58, 59, 60, 61] (fun ⟨i, n⟩ => [(7, .int .i64 (i : Int)), (6, .int .u64 n)]) (fun ⟨i, n⟩ W => (i ≤ ((s.drop 2)).length ∧ 0 ≤ n ∧ n ≤ 9223372036854775807 ∧ readN 16 n (((s.drop 2)).drop i) = readN 16 0 ((s.drop 2))) ∧ (Chg [] w W)) (fun ⟨i, n⟩ => ((s.drop 2)).length - i) (0, 0) ?_ ?_ ?_
      · exact ⟨rfl, rfl, trivial⟩
      ·refine ⟨?_, HC⟩
       exact ⟨Nat.zero_le _, by omega, by omega, rfl⟩
      intro ⟨i, n⟩ G9 w8 ⟨⟨hi, hn0, hn1, hr⟩, HC⟩
      change wp _ _ _ _ _ (upds (over _ _ G9) [(7, .int .i64 (i : Int)), (6, .int .u64 n)]) _ _
      refine x_seq <| sr rfl <| mI rfl <| mS rfl <| Wp rfl <| st_slen (ct := #[9]) T.u9 rfl <| Wp rfl <| st_lss rfl rfl <| en <| x_cond rfl (fun h3 => ?_) (fun h3 => ?_)
      ·try simp only [nm, ne_eq] at h3
       refine x_skip <| then_n <| x_seq <| x_block <| sr rfl <| mS rfl <| mI rfl <| Wp rfl <| st_sidx T.u9 rfl rfl (by omega) (by omega) <| mI rfl <| Wp rfl <| st_call (ags := [_, _]) rfl rfl T.ent80 rfl (r_digit (byte ((s.drop 2)) i) 16 _ (by omega)) ?_
       rintro _ w10 ⟨rfl, c11⟩
       replace HC := HC.then c11
       refine aI rfl <| en <| x_seq <| x_seq ?_
       have hdv := digV_lt (byte ((s.drop 2)) i)
       refine x_region rfl <| mI rfl <| Wp rfl <| st_lss rfl rfl <| mB rfl <| w_split (d := 45) rfl (fun g12 => ?_) (fun g12 => ?_)
       ·try simp only [nm, ne_eq] at g12
        iterate 8 refine w_no 2 45 false ?_
        refine pT rfl rfl <| en <| x_cond (t := true) rfl (fun h4 => ?_) (fun h4 => ?_)
        rotate_left
        · exact absurd h4 (by decide)
        refine sr rfl <| aI rfl <| aB rfl <| en <| x_ret <| then_r <| block_r <| then_r <| then_r <| block_r <| then_r <| ret_tmp2 (v := .int _ _) (v2 := .bool _) rfl rfl rfl <| ⟨?_, HC⟩
        rw [constV_none hcb (by rw [← hr]; exact readN_no (by omega) (by first | (have := rdV_no (c := byte ((s.drop 2)) i) (b := 16) (by omega); omega) | (rw [Int.tdiv_eq_ediv_of_nonneg (by omega)]; omega)))]
       ·try simp only [nm, ne_eq] at g12
        have hrd := rdV_ok (c := byte ((s.drop 2)) i) (b := 16) (by omega)
        refine w_yes 2 45 false <| st_move (v := .int _ _) rfl <| w_yes 2 45 false <| st_move (v := .int _ _) rfl <| w_yes 2 45 false <| st_convk T.u3 T.u58 rfl (by exact wrapu64_id (by first | omega | assumption) (by first | omega | assumption)) <| w_yes 2 45 false <| st_subk rfl rfl (by exact wrapu64_id (by first | omega | assumption) (by first | omega | assumption)) <| w_yes 2 45 false <| st_move (v := .int _ _) rfl <| w_yes 2 45 false <| st_convk T.u3 T.u58 rfl (by exact wrapu64_id (by omega) (by omega)) <| w_yes 2 45 false <| st_quok rfl rfl (by decide) (by exact quou64 (by first | omega | assumption) (by first | omega | assumption) (by first | omega | assumption)) <| w_yes 2 45 false <| st_gtr rfl rfl <| pF rfl rfl <| en <| x_cond rfl (fun h4 => ?_) (fun h4 => ?_)
        ·try simp only [nm, ne_eq] at h4
         refine sr rfl <| aI rfl <| aB rfl <| en <| x_ret <| then_r <| block_r <| then_r <| then_r <| block_r <| then_r <| ret_tmp2 (v := .int _ _) (v2 := .bool _) rfl rfl rfl <| ⟨?_, HC⟩
         rw [constV_none hcb (by rw [← hr]; exact readN_no (by omega) (by first | (have := rdV_no (c := byte ((s.drop 2)) i) (b := 16) (by omega); omega) | (rw [Int.tdiv_eq_ediv_of_nonneg (by omega)]; omega)))]
        ·try simp only [nm, ne_eq] at h4
         refine x_skip <| then_n <| x_region rfl <| mI rfl <| mI rfl <| Wp rfl <| st_convk T.u3 T.u58 rfl (by exact wrapu64_id (by omega) (by omega)) <| Wp rfl <| st_mulk rfl rfl (by exact wrapu64_id (by first | omega | assumption) (by first | omega | assumption)) <| mI rfl <| Wp rfl <| st_convk T.u3 T.u58 rfl (by exact wrapu64_id (by first | omega | assumption) (by first | omega | assumption)) <| Wp rfl <| st_addk rfl rfl (by exact wrapu64_id (by first | omega | assumption) (by first | omega | assumption)) <| aI rfl <| wops_nil <| block_n <| then_n <| x_region rfl <| mI rfl <| Wp rfl <| st_addn rfl rfl (by constructor <;> omega) <| aI rfl <| en <| ⟨(i + 1, n * 16 + rdV (byte ((s.drop 2)) i) 16), ?_, ?_, rfl, ⟨rfl, rfl, trivial⟩, ?_⟩
         ·refine ⟨?_, HC⟩
          exact ⟨by omega, by omega, by omega, by rw [← hr, hrd.1]; exact (readN_at (by omega) (by rw [Int.tdiv_eq_ediv_of_nonneg (by omega)]; omega)).symm⟩
         ·show ((s.drop 2)).length - (i + 1) < ((s.drop 2)).length - i; omega
         repeat (first | exact agree_upds agree_over rfl | refine agree_upd ?_ rfl | refine agree_upds ?_ rfl | refine agree_over_sub ?_ rfl)
      ·try simp only [nm, ne_eq] at h3
       refine x_exit <| then_x <| then_x <| block_x <| then_n <| sr rfl <| mI rfl <| Wp rfl <| st_convk T.u58 T.u2 rfl (by exact wrap64_id (by first | omega | assumption) (by first | omega | assumption)) <| aI rfl <| aB rfl <| en <| x_ret <| ret_tmp2 (v := .int _ _) (v2 := .bool _) rfl rfl rfl <| ⟨?_, HC⟩
       rw [constV_some hcb (hr.symm.trans (readN_end (by omega)))]; rw [decide_eq_false (p := ((s.drop 2)) = []) h2]; rfl
    ·try simp only [nm, ne_eq] at h1
     have hcb : constB s = (8, (s.drop 1)) := by exact constB_8 (by omega) (nat48 (k := 48) (by omega) (by assumption)) (fun e => by have : ¬ ((byte s 1).toNat : Int) = 120 := (by assumption); rw [e] at this; exact this rfl) (fun e => by have : ¬ ((byte s 1).toNat : Int) = 88 := (by assumption); rw [e] at this; exact this rfl)
     have hdl : ((s.drop 1)).length ≤ 9223372036854775807 := by first | exact hs | (simp; omega)
     refine x_skip <| then_n <| x_seq <| sr rfl <| mS rfl <| Wp rfl <| st_seql rfl rfl <| en <| x_cond rfl (fun h2 => ?_) (fun h2 => ?_)
     ·try simp only [nm, ne_eq] at h2
      refine sr rfl <| aI rfl <| aB rfl <| en <| x_ret <| then_r <| ret_tmp2 (v := .int _ _) (v2 := .bool _) rfl rfl rfl <| ⟨?_, HC⟩
      rw [constV_nil (by rw [hcb]; exact congrArg (Prod.mk _) h2)]
     ·try simp only [nm, ne_eq] at h2
      refine x_skip <| then_n <| sr rfl <| aI rfl <| en <| x_seq <| sr rfl <| aI rfl <| en <| x_block <| x_loop (ι := Nat × Int) [2, 3, 6, 7, 8, 32, 33, 34, 35, 36, 37, 38, 39, 40, 41, 42, 43, 44, 45, 46, 47, 48, 49, 50, 51, 52, 53, 54, 55, 56, 57, 58, 59, 60, 61] (fun ⟨i, n⟩ => [(7, .int .i64 (i : Int)), (6, .int .u64 n)]) (fun ⟨i, n⟩ W => (i ≤ ((s.drop 1)).length ∧ 0 ≤ n ∧ n ≤ 9223372036854775807 ∧ readN 8 n (((s.drop 1)).drop i) = readN 8 0 ((s.drop 1))) ∧ (Chg [] w W)) (fun ⟨i, n⟩ => ((s.drop 1)).length - i) (0, 0) ?_ ?_ ?_
      · exact ⟨rfl, rfl, trivial⟩
      ·refine ⟨?_, HC⟩
       exact ⟨Nat.zero_le _, by omega, by omega, rfl⟩
      intro ⟨i, n⟩ G14 w13 ⟨⟨hi, hn0, hn1, hr⟩, HC⟩
      change wp _ _ _ _ _ (upds (over _ _ G14) [(7, .int .i64 (i : Int)), (6, .int .u64 n)]) _ _
      refine x_seq <| sr rfl <| mI rfl <| mS rfl <| Wp rfl <| st_slen (ct := #[9]) T.u9 rfl <| Wp rfl <| st_lss rfl rfl <| en <| x_cond rfl (fun h3 => ?_) (fun h3 => ?_)
      ·try simp only [nm, ne_eq] at h3
       refine x_skip <| then_n <| x_seq <| x_block <| sr rfl <| mS rfl <| mI rfl <| Wp rfl <| st_sidx T.u9 rfl rfl (by omega) (by omega) <| mI rfl <| Wp rfl <| st_call (ags := [_, _]) rfl rfl T.ent80 rfl (r_digit (byte ((s.drop 1)) i) 8 _ (by omega)) ?_
       rintro _ w15 ⟨rfl, c16⟩
       replace HC := HC.then c16
       refine aI rfl <| en <| x_seq <| x_seq ?_
       have hdv := digV_lt (byte ((s.drop 1)) i)
       refine x_region rfl <| mI rfl <| Wp rfl <| st_lss rfl rfl <| mB rfl <| w_split (d := 45) rfl (fun g17 => ?_) (fun g17 => ?_)
       ·try simp only [nm, ne_eq] at g17
        iterate 8 refine w_no 2 45 false ?_
        refine pT rfl rfl <| en <| x_cond (t := true) rfl (fun h4 => ?_) (fun h4 => ?_)
        rotate_left
        · exact absurd h4 (by decide)
        refine sr rfl <| aI rfl <| aB rfl <| en <| x_ret <| then_r <| block_r <| then_r <| then_r <| block_r <| then_r <| ret_tmp2 (v := .int _ _) (v2 := .bool _) rfl rfl rfl <| ⟨?_, HC⟩
        rw [constV_none hcb (by rw [← hr]; exact readN_no (by omega) (by first | (have := rdV_no (c := byte ((s.drop 1)) i) (b := 8) (by omega); omega) | (rw [Int.tdiv_eq_ediv_of_nonneg (by omega)]; omega)))]
       ·try simp only [nm, ne_eq] at g17
        have hrd := rdV_ok (c := byte ((s.drop 1)) i) (b := 8) (by omega)
        refine w_yes 2 45 false <| st_move (v := .int _ _) rfl <| w_yes 2 45 false <| st_move (v := .int _ _) rfl <| w_yes 2 45 false <| st_convk T.u3 T.u58 rfl (by exact wrapu64_id (by first | omega | assumption) (by first | omega | assumption)) <| w_yes 2 45 false <| st_subk rfl rfl (by exact wrapu64_id (by first | omega | assumption) (by first | omega | assumption)) <| w_yes 2 45 false <| st_move (v := .int _ _) rfl <| w_yes 2 45 false <| st_convk T.u3 T.u58 rfl (by exact wrapu64_id (by omega) (by omega)) <| w_yes 2 45 false <| st_quok rfl rfl (by decide) (by exact quou64 (by first | omega | assumption) (by first | omega | assumption) (by first | omega | assumption)) <| w_yes 2 45 false <| st_gtr rfl rfl <| pF rfl rfl <| en <| x_cond rfl (fun h4 => ?_) (fun h4 => ?_)
        ·try simp only [nm, ne_eq] at h4
         refine sr rfl <| aI rfl <| aB rfl <| en <| x_ret <| then_r <| block_r <| then_r <| then_r <| block_r <| then_r <| ret_tmp2 (v := .int _ _) (v2 := .bool _) rfl rfl rfl <| ⟨?_, HC⟩
         rw [constV_none hcb (by rw [← hr]; exact readN_no (by omega) (by first | (have := rdV_no (c := byte ((s.drop 1)) i) (b := 8) (by omega); omega) | (rw [Int.tdiv_eq_ediv_of_nonneg (by omega)]; omega)))]
        ·try simp only [nm, ne_eq] at h4
         refine x_skip <| then_n <| x_region rfl <| mI rfl <| mI rfl <| Wp rfl <| st_convk T.u3 T.u58 rfl (by exact wrapu64_id (by omega) (by omega)) <| Wp rfl <| st_mulk rfl rfl (by exact wrapu64_id (by first | omega | assumption) (by first | omega | assumption)) <| mI rfl <| Wp rfl <| st_convk T.u3 T.u58 rfl (by exact wrapu64_id (by first | omega | assumption) (by first | omega | assumption)) <| Wp rfl <| st_addk rfl rfl (by exact wrapu64_id (by first | omega | assumption) (by first | omega | assumption)) <| aI rfl <| wops_nil <| block_n <| then_n <| x_region rfl <| mI rfl <| Wp rfl <| st_addn rfl rfl (by constructor <;> omega) <| aI rfl <| en <| ⟨(i + 1, n * 8 + rdV (byte ((s.drop 1)) i) 8), ?_, ?_, rfl, ⟨rfl, rfl, trivial⟩, ?_⟩
         ·refine ⟨?_, HC⟩
          exact ⟨by omega, by omega, by omega, by rw [← hr, hrd.1]; exact (readN_at (by omega) (by rw [Int.tdiv_eq_ediv_of_nonneg (by omega)]; omega)).symm⟩
         ·show ((s.drop 1)).length - (i + 1) < ((s.drop 1)).length - i; omega
         repeat (first | exact agree_upds agree_over rfl | refine agree_upd ?_ rfl | refine agree_upds ?_ rfl | refine agree_over_sub ?_ rfl)
      ·try simp only [nm, ne_eq] at h3
       refine x_exit <| then_x <| then_x <| block_x <| then_n <| sr rfl <| mI rfl <| Wp rfl <| st_convk T.u58 T.u2 rfl (by exact wrap64_id (by first | omega | assumption) (by first | omega | assumption)) <| aI rfl <| aB rfl <| en <| x_ret <| ret_tmp2 (v := .int _ _) (v2 := .bool _) rfl rfl rfl <| ⟨?_, HC⟩
       rw [constV_some hcb (hr.symm.trans (readN_end (by omega)))]; rw [decide_eq_false (p := ((s.drop 1)) = []) h2]; rfl
  ·try simp only [nm, ne_eq] at h0
   have hcb : constB s = (10, s) := by exact constB_10 (fun ⟨a1, a2⟩ => by first | omega | (have : ¬ ((byte s 0).toNat : Int) = 48 := (by assumption); rw [a2] at this; exact this rfl))
   have hdl : (s).length ≤ 9223372036854775807 := by first | exact hs | (simp; omega)
   refine x_skip <| then_n <| x_seq <| sr rfl <| mS rfl <| Wp rfl <| st_seql rfl rfl <| en <| x_cond rfl (fun h2 => ?_) (fun h2 => ?_)
   ·try simp only [nm, ne_eq] at h2
    refine sr rfl <| aI rfl <| aB rfl <| en <| x_ret <| then_r <| ret_tmp2 (v := .int _ _) (v2 := .bool _) rfl rfl rfl <| ⟨?_, HC⟩
    rw [constV_nil (by rw [hcb]; exact congrArg (Prod.mk _) h2)]
   ·try simp only [nm, ne_eq] at h2
    refine x_skip <| then_n <| sr rfl <| aI rfl <| en <| x_seq <| sr rfl <| aI rfl <| en <| x_block <| x_loop (ι := Nat × Int) [2, 3, 6, 7, 8, 32, 33, 34, 35, 36, 37, 38, 39, 40, 41, 42, 43, 44, 45, 46, 47, 48, 49, 50, 51, 52, 53, 54, 55, 56, 57, 58, 59, 60, 61] (fun ⟨i, n⟩ => [(7, .int .i64 (i : Int)), (6, .int .u64 n)]) (fun ⟨i, n⟩ W => (i ≤ (s).length ∧ 0 ≤ n ∧ n ≤ 9223372036854775807 ∧ readN 10 n ((s).drop i) = readN 10 0 (s)) ∧ (Chg [] w W)) (fun ⟨i, n⟩ => (s).length - i) (0, 0) ?_ ?_ ?_
    · exact ⟨rfl, rfl, trivial⟩
    ·refine ⟨?_, HC⟩
     exact ⟨Nat.zero_le _, by omega, by omega, rfl⟩
    intro ⟨i, n⟩ G19 w18 ⟨⟨hi, hn0, hn1, hr⟩, HC⟩
    change wp _ _ _ _ _ (upds (over _ _ G19) [(7, .int .i64 (i : Int)), (6, .int .u64 n)]) _ _
    refine x_seq <| sr rfl <| mI rfl <| mS rfl <| Wp rfl <| st_slen (ct := #[9]) T.u9 rfl <| Wp rfl <| st_lss rfl rfl <| en <| x_cond rfl (fun h3 => ?_) (fun h3 => ?_)
    ·try simp only [nm, ne_eq] at h3
     refine x_skip <| then_n <| x_seq <| x_block <| sr rfl <| mS rfl <| mI rfl <| Wp rfl <| st_sidx T.u9 rfl rfl (by omega) (by omega) <| mI rfl <| Wp rfl <| st_call (ags := [_, _]) rfl rfl T.ent80 rfl (r_digit (byte (s) i) 10 _ (by omega)) ?_
     rintro _ w20 ⟨rfl, c21⟩
     replace HC := HC.then c21
     refine aI rfl <| en <| x_seq <| x_seq ?_
     have hdv := digV_lt (byte (s) i)
     refine x_region rfl <| mI rfl <| Wp rfl <| st_lss rfl rfl <| mB rfl <| w_split (d := 45) rfl (fun g22 => ?_) (fun g22 => ?_)
     ·try simp only [nm, ne_eq] at g22
      iterate 8 refine w_no 2 45 false ?_
      refine pT rfl rfl <| en <| x_cond (t := true) rfl (fun h4 => ?_) (fun h4 => ?_)
      rotate_left
      · exact absurd h4 (by decide)
      refine sr rfl <| aI rfl <| aB rfl <| en <| x_ret <| then_r <| block_r <| then_r <| then_r <| block_r <| then_r <| ret_tmp2 (v := .int _ _) (v2 := .bool _) rfl rfl rfl <| ⟨?_, HC⟩
      rw [constV_none hcb (by rw [← hr]; exact readN_no (by omega) (by first | (have := rdV_no (c := byte (s) i) (b := 10) (by omega); omega) | (rw [Int.tdiv_eq_ediv_of_nonneg (by omega)]; omega)))]
     ·try simp only [nm, ne_eq] at g22
      have hrd := rdV_ok (c := byte (s) i) (b := 10) (by omega)
      refine w_yes 2 45 false <| st_move (v := .int _ _) rfl <| w_yes 2 45 false <| st_move (v := .int _ _) rfl <| w_yes 2 45 false <| st_convk T.u3 T.u58 rfl (by exact wrapu64_id (by first | omega | assumption) (by first | omega | assumption)) <| w_yes 2 45 false <| st_subk rfl rfl (by exact wrapu64_id (by first | omega | assumption) (by first | omega | assumption)) <| w_yes 2 45 false <| st_move (v := .int _ _) rfl <| w_yes 2 45 false <| st_convk T.u3 T.u58 rfl (by exact wrapu64_id (by omega) (by omega)) <| w_yes 2 45 false <| st_quok rfl rfl (by decide) (by exact quou64 (by first | omega | assumption) (by first | omega | assumption) (by first | omega | assumption)) <| w_yes 2 45 false <| st_gtr rfl rfl <| pF rfl rfl <| en <| x_cond rfl (fun h4 => ?_) (fun h4 => ?_)
      ·try simp only [nm, ne_eq] at h4
       refine sr rfl <| aI rfl <| aB rfl <| en <| x_ret <| then_r <| block_r <| then_r <| then_r <| block_r <| then_r <| ret_tmp2 (v := .int _ _) (v2 := .bool _) rfl rfl rfl <| ⟨?_, HC⟩
       rw [constV_none hcb (by rw [← hr]; exact readN_no (by omega) (by first | (have := rdV_no (c := byte (s) i) (b := 10) (by omega); omega) | (rw [Int.tdiv_eq_ediv_of_nonneg (by omega)]; omega)))]
      ·try simp only [nm, ne_eq] at h4
       refine x_skip <| then_n <| x_region rfl <| mI rfl <| mI rfl <| Wp rfl <| st_convk T.u3 T.u58 rfl (by exact wrapu64_id (by omega) (by omega)) <| Wp rfl <| st_mulk rfl rfl (by exact wrapu64_id (by first | omega | assumption) (by first | omega | assumption)) <| mI rfl <| Wp rfl <| st_convk T.u3 T.u58 rfl (by exact wrapu64_id (by first | omega | assumption) (by first | omega | assumption)) <| Wp rfl <| st_addk rfl rfl (by exact wrapu64_id (by first | omega | assumption) (by first | omega | assumption)) <| aI rfl <| wops_nil <| block_n <| then_n <| x_region rfl <| mI rfl <| Wp rfl <| st_addn rfl rfl (by constructor <;> omega) <| aI rfl <| en <| ⟨(i + 1, n * 10 + rdV (byte (s) i) 10), ?_, ?_, rfl, ⟨rfl, rfl, trivial⟩, ?_⟩
       ·refine ⟨?_, HC⟩
        exact ⟨by omega, by omega, by omega, by rw [← hr, hrd.1]; exact (readN_at (by omega) (by rw [Int.tdiv_eq_ediv_of_nonneg (by omega)]; omega)).symm⟩
       ·show (s).length - (i + 1) < (s).length - i; omega
       repeat (first | exact agree_upds agree_over rfl | refine agree_upd ?_ rfl | refine agree_upds ?_ rfl | refine agree_over_sub ?_ rfl)
    ·try simp only [nm, ne_eq] at h3
     refine x_exit <| then_x <| then_x <| block_x <| then_n <| sr rfl <| mI rfl <| Wp rfl <| st_convk T.u58 T.u2 rfl (by exact wrap64_id (by first | omega | assumption) (by first | omega | assumption)) <| aI rfl <| aB rfl <| en <| x_ret <| ret_tmp2 (v := .int _ _) (v2 := .bool _) rfl rfl rfl <| ⟨?_, HC⟩
     rw [constV_some hcb (hr.symm.trans (readN_end (by omega)))]; rw [decide_eq_false (p := (s) = []) h2]; rfl
 ·try simp only [nm, ne_eq] at g1
  iterate 3 refine w_no 3 13 true ?_
  refine pF rfl rfl <| en <| x_cond (t := false) rfl (fun h0 => ?_) (fun h0 => ?_)
  · exact absurd h0 (by decide)
  have hcb : constB s = (10, s) := by exact constB_10 (fun ⟨a1, a2⟩ => by first | omega | (have : ¬ ((byte s 0).toNat : Int) = 48 := (by assumption); rw [a2] at this; exact this rfl))
  have hdl : (s).length ≤ 9223372036854775807 := by first | exact hs | (simp; omega)
  refine x_skip <| then_n <| x_seq <| sr rfl <| mS rfl <| Wp rfl <| st_seql rfl rfl <| en <| x_cond rfl (fun h2 => ?_) (fun h2 => ?_)
  ·try simp only [nm, ne_eq] at h2
   refine sr rfl <| aI rfl <| aB rfl <| en <| x_ret <| then_r <| ret_tmp2 (v := .int _ _) (v2 := .bool _) rfl rfl rfl <| ⟨?_, HC⟩
   rw [constV_nil (by rw [hcb]; exact congrArg (Prod.mk _) h2)]
  ·try simp only [nm, ne_eq] at h2
   refine x_skip <| then_n <| sr rfl <| aI rfl <| en <| x_seq <| sr rfl <| aI rfl <| en <| x_block <| x_loop (ι := Nat × Int) [2, 3, 6, 7, 8, 32, 33, 34, 35, 36, 37, 38, 39, 40, 41, 42, 43, 44, 45, 46, 47, 48, 49, 50, 51, 52, 53, 54, 55, 56, 57, 58, 59, 60, 61] (fun ⟨i, n⟩ => [(7, .int .i64 (i : Int)), (6, .int .u64 n)]) (fun ⟨i, n⟩ W => (i ≤ (s).length ∧ 0 ≤ n ∧ n ≤ 9223372036854775807 ∧ readN 10 n ((s).drop i) = readN 10 0 (s)) ∧ (Chg [] w W)) (fun ⟨i, n⟩ => (s).length - i) (0, 0) ?_ ?_ ?_
   · exact ⟨rfl, rfl, trivial⟩
   ·refine ⟨?_, HC⟩
    exact ⟨Nat.zero_le _, by omega, by omega, rfl⟩
   intro ⟨i, n⟩ G24 w23 ⟨⟨hi, hn0, hn1, hr⟩, HC⟩
   change wp _ _ _ _ _ (upds (over _ _ G24) [(7, .int .i64 (i : Int)), (6, .int .u64 n)]) _ _
   refine x_seq <| sr rfl <| mI rfl <| mS rfl <| Wp rfl <| st_slen (ct := #[9]) T.u9 rfl <| Wp rfl <| st_lss rfl rfl <| en <| x_cond rfl (fun h3 => ?_) (fun h3 => ?_)
   ·try simp only [nm, ne_eq] at h3
    refine x_skip <| then_n <| x_seq <| x_block <| sr rfl <| mS rfl <| mI rfl <| Wp rfl <| st_sidx T.u9 rfl rfl (by omega) (by omega) <| mI rfl <| Wp rfl <| st_call (ags := [_, _]) rfl rfl T.ent80 rfl (r_digit (byte (s) i) 10 _ (by omega)) ?_
    rintro _ w25 ⟨rfl, c26⟩
    replace HC := HC.then c26
    refine aI rfl <| en <| x_seq <| x_seq ?_
    have hdv := digV_lt (byte (s) i)
    refine x_region rfl <| mI rfl <| Wp rfl <| st_lss rfl rfl <| mB rfl <| w_split (d := 45) rfl (fun g27 => ?_) (fun g27 => ?_)
    ·try simp only [nm, ne_eq] at g27
     iterate 8 refine w_no 2 45 false ?_
     refine pT rfl rfl <| en <| x_cond (t := true) rfl (fun h4 => ?_) (fun h4 => ?_)
     rotate_left
     · exact absurd h4 (by decide)
     refine sr rfl <| aI rfl <| aB rfl <| en <| x_ret <| then_r <| block_r <| then_r <| then_r <| block_r <| then_r <| ret_tmp2 (v := .int _ _) (v2 := .bool _) rfl rfl rfl <| ⟨?_, HC⟩
     rw [constV_none hcb (by rw [← hr]; exact readN_no (by omega) (by first | (have := rdV_no (c := byte (s) i) (b := 10) (by omega); omega) | (rw [Int.tdiv_eq_ediv_of_nonneg (by omega)]; omega)))]
    ·try simp only [nm, ne_eq] at g27
     have hrd := rdV_ok (c := byte (s) i) (b := 10) (by omega)
     refine w_yes 2 45 false <| st_move (v := .int _ _) rfl <| w_yes 2 45 false <| st_move (v := .int _ _) rfl <| w_yes 2 45 false <| st_convk T.u3 T.u58 rfl (by exact wrapu64_id (by first | omega | assumption) (by first | omega | assumption)) <| w_yes 2 45 false <| st_subk rfl rfl (by exact wrapu64_id (by first | omega | assumption) (by first | omega | assumption)) <| w_yes 2 45 false <| st_move (v := .int _ _) rfl <| w_yes 2 45 false <| st_convk T.u3 T.u58 rfl (by exact wrapu64_id (by omega) (by omega)) <| w_yes 2 45 false <| st_quok rfl rfl (by decide) (by exact quou64 (by first | omega | assumption) (by first | omega | assumption) (by first | omega | assumption)) <| w_yes 2 45 false <| st_gtr rfl rfl <| pF rfl rfl <| en <| x_cond rfl (fun h4 => ?_) (fun h4 => ?_)
     ·try simp only [nm, ne_eq] at h4
      refine sr rfl <| aI rfl <| aB rfl <| en <| x_ret <| then_r <| block_r <| then_r <| then_r <| block_r <| then_r <| ret_tmp2 (v := .int _ _) (v2 := .bool _) rfl rfl rfl <| ⟨?_, HC⟩
      rw [constV_none hcb (by rw [← hr]; exact readN_no (by omega) (by first | (have := rdV_no (c := byte (s) i) (b := 10) (by omega); omega) | (rw [Int.tdiv_eq_ediv_of_nonneg (by omega)]; omega)))]
     ·try simp only [nm, ne_eq] at h4
      refine x_skip <| then_n <| x_region rfl <| mI rfl <| mI rfl <| Wp rfl <| st_convk T.u3 T.u58 rfl (by exact wrapu64_id (by omega) (by omega)) <| Wp rfl <| st_mulk rfl rfl (by exact wrapu64_id (by first | omega | assumption) (by first | omega | assumption)) <| mI rfl <| Wp rfl <| st_convk T.u3 T.u58 rfl (by exact wrapu64_id (by first | omega | assumption) (by first | omega | assumption)) <| Wp rfl <| st_addk rfl rfl (by exact wrapu64_id (by first | omega | assumption) (by first | omega | assumption)) <| aI rfl <| wops_nil <| block_n <| then_n <| x_region rfl <| mI rfl <| Wp rfl <| st_addn rfl rfl (by constructor <;> omega) <| aI rfl <| en <| ⟨(i + 1, n * 10 + rdV (byte (s) i) 10), ?_, ?_, rfl, ⟨rfl, rfl, trivial⟩, ?_⟩
      ·refine ⟨?_, HC⟩
       exact ⟨by omega, by omega, by omega, by rw [← hr, hrd.1]; exact (readN_at (by omega) (by rw [Int.tdiv_eq_ediv_of_nonneg (by omega)]; omega)).symm⟩
      ·show (s).length - (i + 1) < (s).length - i; omega
      repeat (first | exact agree_upds agree_over rfl | refine agree_upd ?_ rfl | refine agree_upds ?_ rfl | refine agree_over_sub ?_ rfl)
   ·try simp only [nm, ne_eq] at h3
    refine x_exit <| then_x <| then_x <| block_x <| then_n <| sr rfl <| mI rfl <| Wp rfl <| st_convk T.u58 T.u2 rfl (by exact wrap64_id (by first | omega | assumption) (by first | omega | assumption)) <| aI rfl <| aB rfl <| en <| x_ret <| ret_tmp2 (v := .int _ _) (v2 := .bool _) rfl rfl rfl <| ⟨?_, HC⟩
    rw [constV_some hcb (hr.symm.trans (readN_end (by omega)))]; rw [decide_eq_false (p := (s) = []) h2]; rfl

theorem RValue_spec (s : Bytes) (w : World) (hs : s.length ≤ 9223372036854775807) : CallR Tryd.prog 61 #[S s] w fun v w' => v = .tuple ⟨[.int .i64 (valV s).1, .int .i64 (valV s).2]⟩ ∧ Chg [] w w' := by
 refine callR_of_wp (args := [_]) Tryd.func61 rfl (Nat.le_of_ble_eq_true rfl) ?_
 have HC : Chg [] w w := .refl _
 refine sr rfl <| aI rfl <| aI rfl <| en <| x_seq <| sr rfl <| mS rfl <| Wp rfl <| st_seql rfl rfl <| en <| x_cond rfl (fun h0 => ?_) (fun h0 => ?_)
 ·try simp only [nm, ne_eq] at h0
  refine sr rfl <| aI rfl <| aI rfl <| en <| x_ret <| then_r <| ret_tmp2 (v := .int _ _) (v2 := .int _ _) rfl rfl rfl <| ⟨?_, HC⟩
  first | (simp [valV, *]; done) | (simp only [hd45, hd43, decide_eq_true_eq] at *; rw [valV_hd]; simp_all; done)
 ·try simp only [nm, ne_eq] at h0
  obtain ⟨c, s, rfl⟩ := List.exists_cons_of_ne_nil h0
  have hsl : s.length + 1 ≤ 9223372036854775807 := hs
  refine x_skip <| then_n <| sr rfl <| mS rfl <| Wp rfl <| st_sidx T.u9 rfl rfl (by decide) (by simp only [List.length_cons]; omega) <| Wp rfl <| st_eql rfl rfl <| aB rfl <| en <| x_seq <| sr rfl <| mB rfl <| mB rfl <| w_split (d := 13) rfl (fun g1 => ?_) (fun g1 => ?_)
  ·try simp only [nm, ne_eq] at g1
   iterate 3 refine w_no 1 13 false ?_
   refine pT rfl rfl <| en <| x_cond (t := true) rfl (fun h1 => ?_) (fun h1 => ?_)
   rotate_left
   · exact absurd h1 (by decide)
   refine x_region rfl <| mS rfl <| Wp rfl <| st_sslo (i := 1) T.u9 rfl ⟨_, rfl⟩ (by simp) <| aS rfl <| en <| sr rfl <| mS rfl <| Wp rfl <| st_call (ags := [_]) rfl rfl T.ent72 rfl (RConstant_spec s _ (by omega)) ?_
   rintro _ w2 ⟨rfl, c3⟩
   replace HC := HC.then c3
   refine mv (v := .tuple ⟨[_, _]⟩) rfl <| Wp rfl <| st_extract (vs := [_, _]) (v := .int _ _) rfl rfl <| Wp rfl <| st_extract (vs := [_, _]) (v := .bool _) rfl rfl <| aI rfl <| aB rfl <| en <| x_seq <| sr rfl <| mB rfl <| Wp rfl <| st_not rfl <| en <| x_cond rfl (fun h2 => ?_) (fun h2 => ?_)
   ·try simp only [nm, ne_eq] at h2
    refine sr rfl <| aI rfl <| aI rfl <| en <| x_ret <| then_r <| ret_tmp2 (v := .int _ _) (v2 := .int _ _) rfl rfl rfl <| ⟨?_, HC⟩
    first | (simp [valV, *]; done) | (simp only [hd45, hd43, decide_eq_true_eq] at *; rw [valV_hd]; simp_all; done)
   ·try simp only [nm, ne_eq] at h2
    refine x_skip <| then_n <| x_seq <| sr rfl <| mB rfl <| en <| x_cond rfl (fun h3 => ?_) (fun h3 => ?_)
    ·try simp only [nm, ne_eq] at h3
     refine sr rfl <| mI rfl <| Wp rfl <| st_neg rfl <| aI rfl <| aI rfl <| en <| x_ret <| then_r <| ret_tmp2 (v := .int _ _) (v2 := .int _ _) rfl rfl rfl <| ⟨?_, HC⟩
     first | (simp [valV, *]; done) | (simp only [hd45, hd43, decide_eq_true_eq] at *; rw [valV_hd]; simp_all; done)
    ·try simp only [nm, ne_eq] at h3
     refine x_skip <| then_n <| sr rfl <| mI rfl <| aI rfl <| aI rfl <| en <| x_ret <| ret_tmp2 (v := .int _ _) (v2 := .int _ _) rfl rfl rfl <| ⟨?_, HC⟩
     first | (simp [valV, *]; done) | (simp only [hd45, hd43, decide_eq_true_eq] at *; rw [valV_hd]; simp_all; done)
  ·try simp only [nm, ne_eq] at g1
   refine w_yes 1 13 false <| st_move (v := S _) rfl <| w_yes 1 13 false <| st_sidx T.u9 rfl rfl (by decide) (by simp only [List.length_cons]; omega) <| w_yes 1 13 false <| st_eql rfl rfl <| pF rfl rfl <| en <| x_cond rfl (fun h1 => ?_) (fun h1 => ?_)
   ·try simp only [nm, ne_eq] at h1
    refine x_region rfl <| mS rfl <| Wp rfl <| st_sslo (i := 1) T.u9 rfl ⟨_, rfl⟩ (by simp) <| aS rfl <| en <| sr rfl <| mS rfl <| Wp rfl <| st_call (ags := [_]) rfl rfl T.ent72 rfl (RConstant_spec s _ (by omega)) ?_
    rintro _ w4 ⟨rfl, c5⟩
    replace HC := HC.then c5
    refine mv (v := .tuple ⟨[_, _]⟩) rfl <| Wp rfl <| st_extract (vs := [_, _]) (v := .int _ _) rfl rfl <| Wp rfl <| st_extract (vs := [_, _]) (v := .bool _) rfl rfl <| aI rfl <| aB rfl <| en <| x_seq <| sr rfl <| mB rfl <| Wp rfl <| st_not rfl <| en <| x_cond rfl (fun h2 => ?_) (fun h2 => ?_)
    ·try simp only [nm, ne_eq] at h2
     refine sr rfl <| aI rfl <| aI rfl <| en <| x_ret <| then_r <| ret_tmp2 (v := .int _ _) (v2 := .int _ _) rfl rfl rfl <| ⟨?_, HC⟩
     first | (simp [valV, *]; done) | (simp only [hd45, hd43, decide_eq_true_eq] at *; rw [valV_hd]; simp_all; done)
    ·try simp only [nm, ne_eq] at h2
     refine x_skip <| then_n <| x_seq <| sr rfl <| mB rfl <| en <| x_cond rfl (fun h3 => ?_) (fun h3 => ?_)
     ·try simp only [nm, ne_eq] at h3
      refine sr rfl <| mI rfl <| Wp rfl <| st_neg rfl <| aI rfl <| aI rfl <| en <| x_ret <| then_r <| ret_tmp2 (v := .int _ _) (v2 := .int _ _) rfl rfl rfl <| ⟨?_, HC⟩
      first | (simp [valV, *]; done) | (simp only [hd45, hd43, decide_eq_true_eq] at *; rw [valV_hd]; simp_all; done)
     ·try simp only [nm, ne_eq] at h3
      refine x_skip <| then_n <| sr rfl <| mI rfl <| aI rfl <| aI rfl <| en <| x_ret <| ret_tmp2 (v := .int _ _) (v2 := .int _ _) rfl rfl rfl <| ⟨?_, HC⟩
      first | (simp [valV, *]; done) | (simp only [hd45, hd43, decide_eq_true_eq] at *; rw [valV_hd]; simp_all; done)
   ·try simp only [nm, ne_eq] at h1
    refine x_skip <| then_n <| sr rfl <| mS rfl <| Wp rfl <| st_call (ags := [_]) rfl rfl T.ent72 rfl (RConstant_spec (c :: s) _ (by simp only [List.length_cons]; omega)) ?_
    rintro _ w6 ⟨rfl, c7⟩
    replace HC := HC.then c7
    refine mv (v := .tuple ⟨[_, _]⟩) rfl <| Wp rfl <| st_extract (vs := [_, _]) (v := .int _ _) rfl rfl <| Wp rfl <| st_extract (vs := [_, _]) (v := .bool _) rfl rfl <| aI rfl <| aB rfl <| en <| x_seq <| sr rfl <| mB rfl <| Wp rfl <| st_not rfl <| en <| x_cond rfl (fun h2 => ?_) (fun h2 => ?_)
    ·try simp only [nm, ne_eq] at h2
     refine sr rfl <| aI rfl <| aI rfl <| en <| x_ret <| then_r <| ret_tmp2 (v := .int _ _) (v2 := .int _ _) rfl rfl rfl <| ⟨?_, HC⟩
     first | (simp [valV, *]; done) | (simp only [hd45, hd43, decide_eq_true_eq] at *; rw [valV_hd]; simp_all; done)
    ·try simp only [nm, ne_eq] at h2
     refine x_skip <| then_n <| x_seq <| sr rfl <| mB rfl <| en <| x_cond rfl (fun h3 => ?_) (fun h3 => ?_)
     ·try simp only [nm, ne_eq] at h3
      refine sr rfl <| mI rfl <| Wp rfl <| st_neg rfl <| aI rfl <| aI rfl <| en <| x_ret <| then_r <| ret_tmp2 (v := .int _ _) (v2 := .int _ _) rfl rfl rfl <| ⟨?_, HC⟩
      first | (simp [valV, *]; done) | (simp only [hd45, hd43, decide_eq_true_eq] at *; rw [valV_hd]; simp_all; done)
     ·try simp only [nm, ne_eq] at h3
      refine x_skip <| then_n <| sr rfl <| mI rfl <| aI rfl <| aI rfl <| en <| x_ret <| ret_tmp2 (v := .int _ _) (v2 := .int _ _) rfl rfl rfl <| ⟨?_, HC⟩
      first | (simp [valV, *]; done) | (simp only [hd45, hd43, decide_eq_true_eq] at *; rw [valV_hd]; simp_all; done)

theorem RDigit_spec (c : UInt8) (w : World) : CallR Tryd.prog 60 #[.int .u8 (c.toNat : Int)] w fun v w' => v = .bool (digB c) ∧ Chg [] w w' := by
 refine callR_of_wp (args := [_]) Tryd.func60 rfl (Nat.le_of_ble_eq_true rfl) ?_
 have HC : Chg [] w w := .refl _
 refine sr rfl <| aB rfl <| en <| sr rfl <| mI rfl <| Wp rfl <| st_geq rfl rfl <| mB rfl <| w_split (d := 5) rfl (fun g1 => ?_) (fun g1 => ?_)
 ·try simp only [nm, ne_eq] at g1
  refine w_yes 2 5 true <| st_move (v := .int _ _) rfl <| w_yes 2 5 true <| st_leq rfl rfl <| pT rfl rfl <| aB rfl <| en <| x_ret <| ret_tmp (v := .bool _) rfl rfl <| ⟨congrArg Value.bool ?_, HC⟩
  unfold digB; rw [Bool.eq_iff_iff, decide_eq_true_eq]
  simp only [decide_eq_true_eq, Bool.false_eq_true, false_iff, true_iff]
  omega
 ·try simp only [nm, ne_eq] at g1
  refine w_no 2 5 true <| w_no 2 5 true <| pF rfl rfl <| aB rfl <| en <| x_ret <| ret_tmp (v := .bool _) rfl rfl <| ⟨congrArg Value.bool ?_, HC⟩
  unfold digB; rw [Bool.eq_iff_iff, decide_eq_true_eq]
  simp only [decide_eq_true_eq, Bool.false_eq_true, false_iff, true_iff]
  omega

theorem val_err {s : Bytes} (h : ¬ (valV s).2 = 0) : (valV s).1 = 0 := by
  unfold valV at *
  repeat' split
  all_goals first | rfl | (simp_all; done)
def basZ (b m : Nat) : Bytes := if m = 0 then [] else basV b m
theorem bas_z {b n : Nat} (hb : 2 ≤ b) : basV b n = basZ b (n / b) ++ [digH (n % b)] := by
  unfold basZ
  by_cases h : n < b
  · rw [Nat.div_eq_of_lt h, if_pos rfl, Nat.mod_eq_of_lt h, basV, dif_pos (.inl h)]; rfl
  · rw [if_neg (by have := Nat.div_pos (show b ≤ n by omega) (by omega); omega)]
    rw [basV, dif_neg (by omega)]
theorem decB_snoc : ∀ (s : Bytes) (c : UInt8) (n : Nat), decB (s ++ [c]) n = decB s n * 10 + (c.toNat - 48)
  | [], _, _ => rfl
  | x :: s, c, n => by rw [List.cons_append, decN_cons, decN_cons, decB_snoc s c]
theorem dig_range {c : UInt8} (h : digB c = true) : 48 ≤ c.toNat ∧ c.toNat ≤ 57 := by unfold digB at h; exact of_decide_eq_true h
theorem take_at {s : Bytes} {k : Nat} (h : k < s.length) : s.take (k + 1) = s.take k ++ [byte s k] := by
  rw [List.take_add_one, List.getElem?_eq_getElem h]
  simp [byte, h]

theorem rarg_spec {b : Nat} {out : Bytes} {Aa : Option Addr} {ca : Nat} {args : List Bytes} {tk ee : Bool} {st : Int} {D : Nat → Prop} {w : World} (hb : Blk w b [.slice Aa args.length ca, .bool tk, S out, .int .i64 st, .bool ee] 48) (ha : Sl sE w D Aa args) (hca : args.length ≤ ca) (hDb : ¬ D b) : CallR Tryd.prog 46 #[.pointer (some ⟨b, 0, none⟩)] w fun v w' => v = S (hdS args) ∧ ∃ Aa' ca', Blk w' b [.slice Aa' args.tail.length ca', .bool true, S out, .int .i64 st, .bool ee] 48 ∧ Sl sE w' D Aa' args.tail ∧ args.tail.length ≤ ca' ∧ Chg [b] w w' := by
 refine callR_of_wp (args := [_]) Tryd.func46 rfl (Nat.le_of_ble_eq_true rfl) ?_
 have HC : Chg [b] w w := .refl _
 refine sr rfl <| aS rfl <| en <| sr rfl <| mP rfl <| nc rfl <| fa T.fld48_1 rfl <| Wp rfl <| st_store (v := .bool _) T.size4 rfl rfl rfl hb rfl (Nat.le_of_ble_eq_true rfl) (by simp [Value.oneCell', S]) rfl ?_
 intro w1 c2 hb3; simp only [setVs, setV] at hb3
 clear hb
 replace HC := HC.trans c2 (by intro x hx; simp only [List.mem_singleton] at hx; subst hx; exact .inl (by simp))
 replace ha := ha.tr c2 (by intro k hk hD; rw [List.mem_singleton.1 hk] at hD; exact hDb hD)
 refine en <| x_seq <| sr rfl <| mP rfl <| nc rfl <| fa T.fld48_0 rfl <| lL T.one22 rfl (hb3.cell rfl) <| Wp rfl <| st_len (ct := #[22]) (by rw [show ((#[22] : Array TypeId)[0]?).bind Tryd.prog.underlying = some (.slice 9) from T.u22]; rfl) rfl <| Wp rfl <| st_eql rfl rfl <| en <| x_cond rfl (fun h0 => ?_) (fun h0 => ?_)
 ·try simp only [nm, ne_eq] at h0
  obtain rfl : args = [] := List.length_eq_zero_iff.1 (by omega)
  refine sr rfl <| aS rfl <| en <| x_ret <| then_r <| ret_tmp (v := S _) rfl rfl ?_
  exact ⟨rfl, _, _, hb3, .inl rfl, Nat.zero_le _, HC⟩
 ·try simp only [nm, ne_eq] at h0
  obtain ⟨a, l, rfl⟩ : ∃ a l, args = a :: l := by cases args with | nil => simp at h0 | cons a l => exact ⟨a, l, rfl⟩
  refine x_skip <| then_n <| sr rfl <| mP rfl <| nc rfl <| fa T.fld48_0 rfl <| lL T.one22 rfl (hb3.cell rfl) ?_
  obtain ⟨lb8, _, vs7, hA4, hR6, hC5⟩ := ha.at (i := 0) (x := a) (rfl)
  obtain rfl : vs7 = [S a] := hR6
  refine Wp rfl <| st_indexAddr T.u22 T.size9 (congrArg (fun z => Value.slice z _ _) hA4) rfl (by decide) (by (simp only [List.length_cons]; omega)) <| lS T.one9 rfl (hC5.at (j := 0) rfl) <| aS rfl <| en <| sr rfl <| mP rfl <| mP rfl <| nc rfl <| fa T.fld48_0 rfl <| lL T.one22 rfl (hb3.cell rfl) <| Wp rfl <| st_slice (i := 1) (j := _) T.u22 T.size9 rfl ⟨_, rfl⟩ (by rfl) (by (simp only [List.length_cons]; omega)) (by exact hca) <| nc rfl <| fa T.fld48_0 rfl <| Wp rfl <| st_store (v := .slice _ _ _) T.size22 rfl rfl rfl hb3 rfl (Nat.le_of_ble_eq_true rfl) (by simp [Value.oneCell', S]) rfl ?_
  intro w9 c10 hb11; simp only [setVs, setV] at hb11
  clear hb3
  replace HC := HC.trans c10 (by intro x hx; simp only [List.mem_singleton] at hx; subst hx; exact .inl (by simp))
  replace ha := ha.tr c10 (by intro k hk hD; rw [List.mem_singleton.1 hk] at hD; exact hDb hD)
  refine en <| x_seq ?_
  have hl2 := sl_tail ha rfl hca
  refine x_region rfl <| mS rfl <| aS rfl <| en <| x_ret <| ret_tmp (v := S _) rfl rfl ?_
  exact ⟨rfl, _, _, hb11, hl2, by simp only [List.tail_cons, List.length_cons] at *; omega, HC⟩

theorem rnumber_spec {b : Nat} {x0 x1 x2 x4 : Value} {st : Int} {w : World} (s : Bytes) (hb : Blk w b [x0, x1, x2, .int .i64 st, x4] 48) (hs : s.length ≤ 100000000000000) : CallR Tryd.prog 49 #[.pointer (some ⟨b, 0, none⟩), S s] w fun v w' => v = .int .i64 (nmV s).1 ∧ Blk w' b [x0, x1, x2, .int .i64 (stV s st), x4] 48 ∧ Chg [b] w w' := by
 refine callR_of_wp (args := [_, _]) Tryd.func49 rfl (Nat.le_of_ble_eq_true rfl) ?_
 have HC : Chg [b] w w := .refl _
 refine sr rfl <| aI rfl <| en <| x_seq <| sr rfl <| mS rfl <| Wp rfl <| st_sneq rfl rfl <| mB rfl <| w_split (d := 9) rfl (fun g1 => ?_) (fun g1 => ?_)
 ·try simp only [nm, ne_eq] at g1
  have hne : s ≠ [] := by assumption
  have hpp := List.length_pos_iff.2 hne
  refine w_yes 2 9 true <| st_move (v := S _) rfl <| w_yes 2 9 true <| st_sidx T.u9 rfl rfl (by omega) (by omega) <| w_yes 2 9 true <| st_eql rfl rfl <| w_yes 2 9 true <| st_move (v := .bool _) rfl <| w_split (d := 13) rfl (fun g2 => ?_) (fun g2 => ?_)
  ·try simp only [nm, ne_eq] at g2
   iterate 3 refine w_no 6 13 false ?_
   refine w_yes 2 9 true <| st_pick (b := true) (v := .bool _) rfl rfl <| pT rfl rfl <| en <| x_cond (t := true) rfl (fun h0 => ?_) (fun h0 => ?_)
   rotate_left
   · exact absurd h0 (by decide)
   have hnm : nmV s = (if s.length = 1 then 0 else ((byte s 1).toNat : Int), false) := by unfold nmV; rw [if_pos ⟨hne, by first | exact .inl (by assumption) | exact .inr (by assumption)⟩]
   have hst : stV s st = st := by unfold stV; rw [hnm]; rfl
   refine x_seq <| sr rfl <| mS rfl <| Wp rfl <| st_slen (ct := #[9]) T.u9 rfl <| Wp rfl <| st_lss rfl rfl <| en <| x_cond rfl (fun h1 => ?_) (fun h1 => ?_)
   ·try simp only [nm, ne_eq] at h1
    refine sr rfl <| aI rfl <| en <| x_ret <| then_r <| then_r <| ret_tmp (v := .int _ _) rfl rfl ?_
    rw [hst]
    refine ⟨?_, hb, HC⟩
    first | (rw [hnm]; done) | (rw [hnm]; rfl) | (rw [hnm]; simp only; rw [if_pos (by omega)]; done) | (rw [hnm]; simp only; rw [if_neg (by omega)]; rfl) | (rw [hnm]; simp only [hz])
   ·try simp only [nm, ne_eq] at h1
    refine x_skip <| then_n <| sr rfl <| mS rfl <| Wp rfl <| st_sidx T.u9 rfl rfl (by omega) (by omega) <| Wp rfl <| st_convk T.u5 T.u2 rfl (by exact wrap64_id (by omega) (by have := (byte s (Int.toNat 1)).toNat_lt; omega)) <| aI rfl <| en <| x_ret <| then_r <| ret_tmp (v := .int _ _) rfl rfl ?_
    rw [hst]
    refine ⟨?_, hb, HC⟩
    first | (rw [hnm]; done) | (rw [hnm]; rfl) | (rw [hnm]; simp only; rw [if_pos (by omega)]; done) | (rw [hnm]; simp only; rw [if_neg (by omega)]; rfl) | (rw [hnm]; simp only [hz])
  ·try simp only [nm, ne_eq] at g2
   refine w_yes 6 13 false <| st_move (v := S _) rfl <| w_yes 6 13 false <| st_sidx T.u9 rfl rfl (by omega) (by omega) <| w_yes 6 13 false <| st_eql rfl rfl <| w_yes 2 9 true <| st_pick (b := false) (v := .bool _) rfl rfl <| pT rfl rfl <| en <| x_cond rfl (fun h0 => ?_) (fun h0 => ?_)
   ·try simp only [nm, ne_eq] at h0
    have hnm : nmV s = (if s.length = 1 then 0 else ((byte s 1).toNat : Int), false) := by unfold nmV; rw [if_pos ⟨hne, by first | exact .inl (by assumption) | exact .inr (by assumption)⟩]
    have hst : stV s st = st := by unfold stV; rw [hnm]; rfl
    refine x_seq <| sr rfl <| mS rfl <| Wp rfl <| st_slen (ct := #[9]) T.u9 rfl <| Wp rfl <| st_lss rfl rfl <| en <| x_cond rfl (fun h1 => ?_) (fun h1 => ?_)
    ·try simp only [nm, ne_eq] at h1
     refine sr rfl <| aI rfl <| en <| x_ret <| then_r <| then_r <| ret_tmp (v := .int _ _) rfl rfl ?_
     rw [hst]
     refine ⟨?_, hb, HC⟩
     first | (rw [hnm]; done) | (rw [hnm]; rfl) | (rw [hnm]; simp only; rw [if_pos (by omega)]; done) | (rw [hnm]; simp only; rw [if_neg (by omega)]; rfl) | (rw [hnm]; simp only [hz])
    ·try simp only [nm, ne_eq] at h1
     refine x_skip <| then_n <| sr rfl <| mS rfl <| Wp rfl <| st_sidx T.u9 rfl rfl (by omega) (by omega) <| Wp rfl <| st_convk T.u5 T.u2 rfl (by exact wrap64_id (by omega) (by have := (byte s (Int.toNat 1)).toNat_lt; omega)) <| aI rfl <| en <| x_ret <| then_r <| ret_tmp (v := .int _ _) rfl rfl ?_
     rw [hst]
     refine ⟨?_, hb, HC⟩
     first | (rw [hnm]; done) | (rw [hnm]; rfl) | (rw [hnm]; simp only; rw [if_pos (by omega)]; done) | (rw [hnm]; simp only; rw [if_neg (by omega)]; rfl) | (rw [hnm]; simp only [hz])
   ·try simp only [nm, ne_eq] at h0
    have hnm : nmV s = ((valV s).1, !decide ((valV s).2 = 0)) := by unfold nmV; rw [if_neg (by rintro ⟨h8, h9⟩; simp_all)]
    refine x_skip <| then_n <| sr rfl <| mS rfl <| Wp rfl <| st_call (ags := [_]) rfl rfl T.ent61 rfl (RValue_spec s _ (by omega)) ?_
    rintro _ w3 ⟨rfl, c4⟩
    replace HC := HC.then c4
    replace hb := hb.tr0 c4
    refine mv (v := .tuple ⟨[_, _]⟩) rfl <| Wp rfl <| st_extract (vs := [_, _]) (v := .int _ _) rfl rfl <| Wp rfl <| st_extract (vs := [_, _]) (v := .int _ _) rfl rfl <| aI rfl <| aI rfl <| en <| x_seq <| sr rfl <| mI rfl <| Wp rfl <| st_neq rfl rfl <| en <| x_cond rfl (fun h2 => ?_) (fun h2 => ?_)
    ·try simp only [nm, ne_eq] at h2
     have hst : stV s st = 1 := by unfold stV; rw [hnm]; show (if (!decide ((valV s).2 = 0)) = true then (1 : Int) else st) = 1; rw [decide_eq_false h2]; rfl
     have hz := val_err h2
     refine sr rfl <| mP rfl <| nc rfl <| fa T.fld48_3 rfl <| Wp rfl <| st_store (v := .int _ _) T.size3 rfl rfl rfl hb rfl (Nat.le_of_ble_eq_true rfl) (by simp [Value.oneCell', S]) rfl ?_
     intro w5 c6 hb7; simp only [setVs, setV] at hb7
     clear hb
     replace HC := HC.trans c6 (by intro x hx; simp only [List.mem_singleton] at hx; subst hx; exact .inl (by simp))
     refine en <| sr rfl <| aI rfl <| en <| x_ret <| then_r <| ret_tmp (v := .int _ _) rfl rfl ?_
     rw [hst]
     refine ⟨?_, hb7, HC⟩
     first | (rw [hnm]; done) | (rw [hnm]; rfl) | (rw [hnm]; simp only; rw [if_pos (by omega)]; done) | (rw [hnm]; simp only; rw [if_neg (by omega)]; rfl) | (rw [hnm]; simp only [hz])
    ·try simp only [nm, ne_eq] at h2
     have hst : stV s st = st := by unfold stV; rw [hnm]; show (if (!decide ((valV s).2 = 0)) = true then (1 : Int) else st) = st; rw [decide_eq_true (by first | assumption | simp_all)]; rfl
     refine x_skip <| then_n <| sr rfl <| mI rfl <| aI rfl <| en <| x_ret <| ret_tmp (v := .int _ _) rfl rfl ?_
     rw [hst]
     refine ⟨?_, hb, HC⟩
     first | (rw [hnm]; done) | (rw [hnm]; rfl) | (rw [hnm]; simp only; rw [if_pos (by omega)]; done) | (rw [hnm]; simp only; rw [if_neg (by omega)]; rfl) | (rw [hnm]; simp only [hz])
 ·try simp only [nm, ne_eq] at g1
  have hem : ¬ s ≠ [] := by first | assumption | simp_all
  iterate 4 refine w_no 2 9 true ?_
  iterate 3 refine w_no 6 13 false ?_
  refine w_no 2 9 true <| pF rfl rfl <| en <| x_cond (t := false) rfl (fun h0 => ?_) (fun h0 => ?_)
  · exact absurd h0 (by decide)
  have hnm : nmV s = ((valV s).1, !decide ((valV s).2 = 0)) := by unfold nmV; rw [if_neg (by rintro ⟨h8, h9⟩; simp_all)]
  refine x_skip <| then_n <| sr rfl <| mS rfl <| Wp rfl <| st_call (ags := [_]) rfl rfl T.ent61 rfl (RValue_spec s _ (by omega)) ?_
  rintro _ w8 ⟨rfl, c9⟩
  replace HC := HC.then c9
  replace hb := hb.tr0 c9
  refine mv (v := .tuple ⟨[_, _]⟩) rfl <| Wp rfl <| st_extract (vs := [_, _]) (v := .int _ _) rfl rfl <| Wp rfl <| st_extract (vs := [_, _]) (v := .int _ _) rfl rfl <| aI rfl <| aI rfl <| en <| x_seq <| sr rfl <| mI rfl <| Wp rfl <| st_neq rfl rfl <| en <| x_cond rfl (fun h2 => ?_) (fun h2 => ?_)
  ·try simp only [nm, ne_eq] at h2
   have hst : stV s st = 1 := by unfold stV; rw [hnm]; show (if (!decide ((valV s).2 = 0)) = true then (1 : Int) else st) = 1; rw [decide_eq_false h2]; rfl
   have hz := val_err h2
   refine sr rfl <| mP rfl <| nc rfl <| fa T.fld48_3 rfl <| Wp rfl <| st_store (v := .int _ _) T.size3 rfl rfl rfl hb rfl (Nat.le_of_ble_eq_true rfl) (by simp [Value.oneCell', S]) rfl ?_
   intro w10 c11 hb12; simp only [setVs, setV] at hb12
   clear hb
   replace HC := HC.trans c11 (by intro x hx; simp only [List.mem_singleton] at hx; subst hx; exact .inl (by simp))
   refine en <| sr rfl <| aI rfl <| en <| x_ret <| then_r <| ret_tmp (v := .int _ _) rfl rfl ?_
   rw [hst]
   refine ⟨?_, hb12, HC⟩
   first | (rw [hnm]; done) | (rw [hnm]; rfl) | (rw [hnm]; simp only; rw [if_pos (by omega)]; done) | (rw [hnm]; simp only; rw [if_neg (by omega)]; rfl) | (rw [hnm]; simp only [hz])
  ·try simp only [nm, ne_eq] at h2
   have hst : stV s st = st := by unfold stV; rw [hnm]; show (if (!decide ((valV s).2 = 0)) = true then (1 : Int) else st) = st; rw [decide_eq_true (by first | assumption | simp_all)]; rfl
   refine x_skip <| then_n <| sr rfl <| mI rfl <| aI rfl <| en <| x_ret <| ret_tmp (v := .int _ _) rfl rfl ?_
   rw [hst]
   refine ⟨?_, hb, HC⟩
   first | (rw [hnm]; done) | (rw [hnm]; rfl) | (rw [hnm]; simp only; rw [if_pos (by omega)]; done) | (rw [hnm]; simp only; rw [if_neg (by omega)]; rfl) | (rw [hnm]; simp only [hz])

theorem rdigits_spec (n b : Nat) (z : Bytes) (g : UInt8 → UInt8) (hn : n ≤ 18446744073709551615) (hb : b = 8 ∨ b = 10 ∨ b = 16) (hzl : b ≤ z.length) (hg : ∀ d, d < b → byte z d = g (digH d)) (w : World) : CallR Tryd.prog 50 #[.int .u64 (n : Int), .int .u64 (b : Int), S z] w fun v w' => v = S ((basV b n).map g) ∧ Chg [] w w' := by
 have hb2 : 2 ≤ b := by omega
 have hb16 : b ≤ 16 := by omega
 have hbl := bas_64 (b := b) (by omega) hn
 refine callR_of_wp (args := [_, _, _]) Tryd.func50 rfl (Nat.le_of_ble_eq_true rfl) ?_
 have HC : Chg [] w w := .refl _
 refine sr rfl <| aS rfl <| en <| sr rfl <| aS rfl <| en <| x_seq <| x_block <| x_loop (ι := Nat × Bytes) [0, 7, 8, 9, 10, 11, 12, 13, 14, 15, 16, 17, 18, 19, 20, 21, 22, 23, 24, 25] (fun ⟨m, y⟩ => [(0, .int .u64 (m : Int)), (7, S y)]) (fun ⟨m, y⟩ W => (m ≤ n ∧ (y = [] → n = m) ∧ (y ≠ [] → (basV b n).map g = (basZ b m).map g ++ y)) ∧ (Chg [] w W)) (fun ⟨m, y⟩ => m + (if y.length = 0 then 1 else 0)) (n, []) ?_ ?_ ?_
 · exact ⟨rfl, rfl, trivial⟩
 ·refine ⟨?_, HC⟩
  exact ⟨Nat.le_refl _, fun _ => rfl, fun h => absurd rfl h⟩
 intro ⟨m, y⟩ G2 w1 ⟨⟨hmn, hy0, hy1⟩, HC⟩
 change wp _ _ _ _ _ (upds (over _ _ G2) [(0, .int .u64 (m : Int)), (7, S y)]) _ _
 have hmb : m % b < b := Nat.mod_lt _ (by omega)
 have hdb : m / b ≤ m := Nat.div_le_self m b
 have hm12 : (m : Int).tmod (b : Int) = ((m % b : Nat) : Int) := by rw [Int.tmod_eq_emod_of_nonneg (by omega)]; exact (Int.natCast_emod m b).symm
 have hq17 : IntKind.u64.wrap ((m : Int).tdiv (b : Int)) = ((m / b : Nat) : Int) := by rw [quou64 (by omega) (by omega) (by omega)]; exact (Int.natCast_ediv m b).symm
 have hgz : byte z (m % b) = g (digH (m % b)) := hg _ hmb
 have hyl : y.length ≤ 22 := by
       by_cases hye : y = []
       · rw [hye]; exact Nat.zero_le _
       · have h9 := congrArg List.length (hy1 hye)
         rw [List.length_append, List.length_map, List.length_map] at h9; omega
 refine x_seq <| sr rfl <| mI rfl <| Wp rfl <| st_gtr rfl rfl <| mB rfl <| w_split (d := 10) rfl (fun g3 => ?_) (fun g3 => ?_)
 ·try simp only [nm, ne_eq] at g3
  refine w_no 2 10 false <| w_no 2 10 false <| pT rfl rfl <| en <| x_cond (t := true) rfl (fun h0 => ?_) (fun h0 => ?_)
  rotate_left
  · exact absurd h0 (by decide)
  refine x_skip <| then_n <| x_block <| sr rfl <| mS rfl <| mI rfl <| mI rfl <| Wp rfl <| st_remk rfl rfl (by omega) (by exact hm12) <| Wp rfl <| st_sidx T.u9 rfl rfl (by omega) (by omega) <| Wp rfl <| st_lit (ps := [(0, .tmp 18)]) (vs := [.int _ _]) T.lit38 (by decide) rfl (by simp only [List.forall_mem_cons, List.not_mem_nil, false_imp_iff, implies_true, and_true]; exact rfl) rfl ?_
  intro b4 w5 e6 c7 hb8
  have ge_b4 : w.heap.size ≤ b4 := by rw [e6]; exact HC.size
  replace HC := HC.then c7
  clear e6
  refine Wp rfl <| st_bytesStr T.u38 T.u5 T.u9 rfl (Sl.of_one (c := uE) (x := byte z (m % b)) (D := fun _ => True) hb8 rfl trivial) <| mS rfl <| Wp rfl <| st_sadd rfl rfl (by (simp only [List.length_cons, List.length_nil]; omega)) <| aS rfl <| en <| x_region rfl <| mI rfl <| mI rfl <| Wp rfl <| st_quok rfl rfl (by omega) (by exact hq17) <| aI rfl <| wops_nil <| block_n <| then_n <| ⟨(m / b, byte z (m % b) :: y), ?_, ?_, rfl, ⟨rfl, rfl, trivial⟩, ?_⟩
  ·refine ⟨?_, HC⟩
   exact ⟨by omega, fun h => (by cases h), fun _ => by rw [hgz]; by_cases hye : y = []; (rw [← hy0 hye, bas_z hb2, List.map_append]; subst hye; rfl); (rw [hy1 hye, show basZ b m = basV b m by unfold basZ; rw [if_neg (by omega)], bas_z hb2, List.map_append]; simp)⟩
  ·show m / b + (if (byte z (m % b) :: y).length = 0 then 1 else 0) < m + (if y.length = 0 then 1 else 0); rw [if_neg (by simp)]; have h9 := Nat.div_lt_self (show 0 < m by omega) (show 1 < b by omega); split <;> omega
  repeat (first | exact agree_upds agree_over rfl | refine agree_upd ?_ rfl | refine agree_upds ?_ rfl | refine agree_over_sub ?_ rfl)
 ·try simp only [nm, ne_eq] at g3
  have hm0 : m = 0 := by omega
  refine w_yes 2 10 false <| st_move (v := S _) rfl <| w_yes 2 10 false <| st_seql rfl rfl <| pF rfl rfl <| en <| x_cond rfl (fun h0 => ?_) (fun h0 => ?_)
  ·try simp only [nm, ne_eq] at h0
   have hye : y = [] := by first | assumption | simp_all
   refine x_skip <| then_n <| x_block <| sr rfl <| mS rfl <| mI rfl <| mI rfl <| Wp rfl <| st_remk rfl rfl (by omega) (by exact hm12) <| Wp rfl <| st_sidx T.u9 rfl rfl (by omega) (by omega) <| Wp rfl <| st_lit (ps := [(0, .tmp 18)]) (vs := [.int _ _]) T.lit38 (by decide) rfl (by simp only [List.forall_mem_cons, List.not_mem_nil, false_imp_iff, implies_true, and_true]; exact rfl) rfl ?_
   intro b9 w10 e11 c12 hb13
   have ge_b9 : w.heap.size ≤ b9 := by rw [e11]; exact HC.size
   replace HC := HC.then c12
   clear e11
   refine Wp rfl <| st_bytesStr T.u38 T.u5 T.u9 rfl (Sl.of_one (c := uE) (x := byte z (m % b)) (D := fun _ => True) hb13 rfl trivial) <| mS rfl <| Wp rfl <| st_sadd rfl rfl (by (simp only [List.length_cons, List.length_nil]; omega)) <| aS rfl <| en <| x_region rfl <| mI rfl <| mI rfl <| Wp rfl <| st_quok rfl rfl (by omega) (by exact hq17) <| aI rfl <| wops_nil <| block_n <| then_n <| ⟨(m / b, byte z (m % b) :: y), ?_, ?_, rfl, ⟨rfl, rfl, trivial⟩, ?_⟩
   ·refine ⟨?_, HC⟩
    exact ⟨by omega, fun h => (by cases h), fun _ => by rw [hgz, ← hy0 hye, bas_z hb2, List.map_append]; subst hye; rfl⟩
   ·show m / b + (if (byte z (m % b) :: y).length = 0 then 1 else 0) < m + (if y.length = 0 then 1 else 0); rw [if_neg (by simp)]; rw [if_pos (by rw [hye]; rfl)]; omega
   repeat (first | exact agree_upds agree_over rfl | refine agree_upd ?_ rfl | refine agree_upds ?_ rfl | refine agree_over_sub ?_ rfl)
  ·try simp only [nm, ne_eq] at h0
   have hye : y ≠ [] := by first | assumption | simp_all
   have hev := hy1 hye
   rw [show basZ b m = [] by unfold basZ; rw [if_pos (by omega)]] at hev
   refine x_exit <| then_x <| then_x <| block_x <| then_n <| sr rfl <| mS rfl <| aS rfl <| en <| x_ret <| ret_tmp (v := S _) rfl rfl ?_
   rw [hev]
   exact ⟨rfl, HC⟩

theorem rcount_spec (s : Bytes) (w : World) (hs : s.length ≤ 100000000000000) : CallR Tryd.prog 45 #[S s] w fun v w' => v = .tuple ⟨[.int .i64 (if cntN s ≤ 1000 then ((cntN s : Nat) : Int) else -1), .int .i64 ((cntK s : Nat) : Int)]⟩ ∧ Chg [] w w' := by
 refine callR_of_wp (args := [_]) Tryd.func45 rfl (Nat.le_of_ble_eq_true rfl) ?_
 have HC : Chg [] w w := .refl _
 refine sr rfl <| aI rfl <| aI rfl <| en <| sr rfl <| aI rfl <| en <| sr rfl <| aI rfl <| en <| x_seq <| x_block <| x_loop (ι := Nat × Nat) [4, 5, 6, 7, 8, 9, 10, 11, 12, 13, 14, 15, 16, 17, 18, 19, 20, 21, 22, 23, 24, 25, 26, 27, 28, 29] (fun ⟨k, n⟩ => [(5, .int .i64 (k : Int)), (4, .int .i64 (n : Int))]) (fun ⟨k, n⟩ W => (k ≤ 4 ∧ k ≤ s.length ∧ cntK s = k + runN digB ((s.take 4).drop k) ∧ n = decB (s.take k) 0 ∧ n + 1 ≤ 10 ^ k) ∧ (Chg [] w W)) (fun ⟨k, n⟩ => 4 - k) (0, 0) ?_ ?_ ?_
 · exact ⟨rfl, rfl, trivial⟩
 ·refine ⟨?_, HC⟩
  exact ⟨Nat.zero_le _, Nat.zero_le _, by simp [cntK], rfl, by decide⟩
 intro ⟨k, n⟩ G2 w1 ⟨⟨hk4, hkl, hkr, hnd, hnp⟩, HC⟩
 change wp _ _ _ _ _ (upds (over _ _ G2) [(5, .int .i64 (k : Int)), (4, .int .i64 (n : Int))]) _ _
 have hp10 : 10 ^ k ≤ 10000 := Nat.le_trans (Nat.pow_le_pow_right (by decide) hk4) (by decide)
 have hps : 10 ^ (k + 1) = 10 ^ k * 10 := Nat.pow_succ ..
 refine x_seq <| sr rfl <| mI rfl <| mS rfl <| Wp rfl <| st_slen (ct := #[9]) T.u9 rfl <| Wp rfl <| st_lss rfl rfl <| mB rfl <| w_split (d := 10) rfl (fun g3 => ?_) (fun g3 => ?_)
 ·try simp only [nm, ne_eq] at g3
  refine w_yes 4 10 true <| st_move (v := .int _ _) rfl <| w_yes 4 10 true <| st_lss rfl rfl <| pT rfl rfl <| mB rfl <| w_split (d := 14) rfl (fun g4 => ?_) (fun g4 => ?_)
  ·try simp only [nm, ne_eq] at g4
   refine w_yes 8 14 true <| st_move (v := S _) rfl <| w_yes 8 14 true <| st_move (v := .int _ _) rfl <| w_yes 8 14 true <| st_sidx T.u9 rfl rfl (by omega) (by omega) <| w_yes 8 14 true <| st_call (ags := [_]) rfl rfl T.ent60 rfl (RDigit_spec _ _) ?_
   rintro _ w5 ⟨rfl, c6⟩
   replace HC := HC.then c6
   refine pT rfl rfl <| en <| x_cond rfl (fun h0 => ?_) (fun h0 => ?_)
   ·try simp only [nm, ne_eq] at h0
    have hob : digB (byte s k) = true := by first | assumption | simp_all
    have hor := dig_range hob
    refine x_skip <| then_n <| x_block <| sr rfl <| mI rfl <| Wp rfl <| st_mulk rfl rfl (by exact (show _ = ((n * 10 : Nat) : Int) by rw [wrap64_id (by omega) (by omega)]; omega)) <| mS rfl <| mI rfl <| Wp rfl <| st_sidx T.u9 rfl rfl (by omega) (by omega) <| Wp rfl <| st_subk rfl rfl (by exact (show _ = (((byte s k).toNat - 48 : Nat) : Int) by (try rw [Int.toNat_natCast]); rw [wrapu8_id (by omega) (by omega)]; omega)) <| Wp rfl <| st_convk T.u5 T.u3 rfl (by exact wrap64_id (by omega) (by omega)) <| Wp rfl <| st_addk rfl rfl (by exact (show _ = ((n * 10 + ((byte s k).toNat - 48) : Nat) : Int) by rw [wrap64_id (by omega) (by omega)]; omega)) <| aI rfl <| en <| x_region rfl <| mI rfl <| Wp rfl <| st_addn rfl rfl (by constructor <;> omega) <| aI rfl <| wops_nil <| block_n <| then_n <| ⟨(k + 1, n * 10 + ((byte s k).toNat - 48)), ?_, ?_, rfl, ⟨rfl, rfl, trivial⟩, ?_⟩
    ·refine ⟨?_, HC⟩
     exact ⟨by omega, by omega, by rw [hkr, runN_on (by rw [List.length_take]; omega) (by rw [byte_take (by omega)]; exact hob)]; omega, by rw [take_at (by omega), decB_snoc, hnd], by rw [hps]; omega⟩
    ·show 4 - (k + 1) < 4 - k; omega
    repeat (first | exact agree_upds agree_over rfl | refine agree_upd ?_ rfl | refine agree_upds ?_ rfl | refine agree_over_sub ?_ rfl)
   ·try simp only [nm, ne_eq] at h0
    have hk : cntK s = k := by rw [hkr, runN_off (by rw [List.length_take]; omega) (by rw [byte_take (by omega)]; first | assumption | simp_all)]; omega
    have hcn : cntN s = n := by unfold cntN; rw [hk, hnd]
    refine x_exit <| then_x <| then_x <| block_x <| then_n <| x_seq <| sr rfl <| mI rfl <| Wp rfl <| st_gtr rfl rfl <| en <| x_cond rfl (fun h1 => ?_) (fun h1 => ?_)
    ·try simp only [nm, ne_eq] at h1
     refine x_region rfl <| aI rfl <| en <| sr rfl <| mI rfl <| mI rfl <| aI rfl <| aI rfl <| en <| x_ret <| ret_tmp2 (v := .int _ _) (v2 := .int _ _) rfl rfl rfl ?_
     rw [hk, hcn]
     first | rw [if_pos (by omega)] | rw [if_neg (by omega)]
     exact ⟨rfl, HC⟩
    ·try simp only [nm, ne_eq] at h1
     refine x_skip <| then_n <| sr rfl <| mI rfl <| mI rfl <| aI rfl <| aI rfl <| en <| x_ret <| ret_tmp2 (v := .int _ _) (v2 := .int _ _) rfl rfl rfl ?_
     rw [hk, hcn]
     first | rw [if_pos (by omega)] | rw [if_neg (by omega)]
     exact ⟨rfl, HC⟩
  ·try simp only [nm, ne_eq] at g4
   iterate 4 refine w_no 8 14 true ?_
   refine pF rfl rfl <| en <| x_cond (t := false) rfl (fun h0 => ?_) (fun h0 => ?_)
   · exact absurd h0 (by decide)
   have hk : cntK s = k := by rw [hkr, List.drop_of_length_le (by rw [List.length_take]; omega), show runN digB ([] : Bytes) = 0 from rfl]; omega
   have hcn : cntN s = n := by unfold cntN; rw [hk, hnd]
   refine x_exit <| then_x <| then_x <| block_x <| then_n <| x_seq <| sr rfl <| mI rfl <| Wp rfl <| st_gtr rfl rfl <| en <| x_cond rfl (fun h1 => ?_) (fun h1 => ?_)
   ·try simp only [nm, ne_eq] at h1
    refine x_region rfl <| aI rfl <| en <| sr rfl <| mI rfl <| mI rfl <| aI rfl <| aI rfl <| en <| x_ret <| ret_tmp2 (v := .int _ _) (v2 := .int _ _) rfl rfl rfl ?_
    rw [hk, hcn]
    first | rw [if_pos (by omega)] | rw [if_neg (by omega)]
    exact ⟨rfl, HC⟩
   ·try simp only [nm, ne_eq] at h1
    refine x_skip <| then_n <| sr rfl <| mI rfl <| mI rfl <| aI rfl <| aI rfl <| en <| x_ret <| ret_tmp2 (v := .int _ _) (v2 := .int _ _) rfl rfl rfl ?_
    rw [hk, hcn]
    first | rw [if_pos (by omega)] | rw [if_neg (by omega)]
    exact ⟨rfl, HC⟩
 ·try simp only [nm, ne_eq] at g3
  refine w_no 4 10 true <| w_no 4 10 true <| pF rfl rfl <| mB rfl ?_
  iterate 4 refine w_no 8 14 true ?_
  refine pF rfl rfl <| en <| x_cond (t := false) rfl (fun h0 => ?_) (fun h0 => ?_)
  · exact absurd h0 (by decide)
  have hk : cntK s = k := by rw [hkr, List.drop_of_length_le (by rw [List.length_take]; omega), show runN digB ([] : Bytes) = 0 from rfl]; omega
  have hcn : cntN s = n := by unfold cntN; rw [hk, hnd]
  refine x_exit <| then_x <| then_x <| block_x <| then_n <| x_seq <| sr rfl <| mI rfl <| Wp rfl <| st_gtr rfl rfl <| en <| x_cond rfl (fun h1 => ?_) (fun h1 => ?_)
  ·try simp only [nm, ne_eq] at h1
   refine x_region rfl <| aI rfl <| en <| sr rfl <| mI rfl <| mI rfl <| aI rfl <| aI rfl <| en <| x_ret <| ret_tmp2 (v := .int _ _) (v2 := .int _ _) rfl rfl rfl ?_
   rw [hk, hcn]
   first | rw [if_pos (by omega)] | rw [if_neg (by omega)]
   exact ⟨rfl, HC⟩
  ·try simp only [nm, ne_eq] at h1
   refine x_skip <| then_n <| sr rfl <| mI rfl <| mI rfl <| aI rfl <| aI rfl <| en <| x_ret <| ret_tmp2 (v := .int _ _) (v2 := .int _ _) rfl rfl rfl ?_
   rw [hk, hcn]
   first | rw [if_pos (by omega)] | rw [if_neg (by omega)]
   exact ⟨rfl, HC⟩

end Go.Proofs.YtlpndcpbnbeohaaDoor.K
