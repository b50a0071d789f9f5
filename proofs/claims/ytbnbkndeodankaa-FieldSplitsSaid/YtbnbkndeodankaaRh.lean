/- Walks. -/
import Derived.Test.YtbnbkndeodankaaRg
import Derived.Test.YtbnbkndeodankaaFd
import Derived.Test.YtbnbkndeodankaaFl
import Derived.Test.YtbnbkndeodankaaTy
set_option linter.unusedVariables false
set_option linter.unusedSimpArgs false
set_option autoImplicit false
set_option maxRecDepth 20000
namespace Go.Proofs.Ytbnbkndeodankaa.K
open Go Go.Proofs Go.RowKit

theorem RJoin_spec {l : List Piece} {Al : Option Addr} {capl : Nat} {D : Nat → Prop} {w : World} (hl : Sl pE w D Al l) (hbulk : bulkP l ≤ 1000000000) :
    CallR Try.prog 13 #[.slice Al l.length capl] w fun v w' => v = .agg ⟨[S (jT l), S (jQ l)]⟩ ∧ Chg [] w w' := by
  replace hl := hl.mono (D' := fun k => k < w.heap.size) (fun k hk _ => hk)
  refine callR_of_wp (args := [_]) Try.func13 rfl (Nat.le_of_ble_eq_true rfl) ?_
  have HC : Chg [] w w := .refl _
  refine x_seq ?_
  refine x_region rfl ?_
  refine w_plain rfl (st_alloc T.zero31 ?_)
  intro b2 w1 e2 c3 hb4
  have ge_b2 : w.heap.size ≤ b2 := by rw [e2]; exact HC.size
  replace HC := HC.then c3
  replace hl := hl.tr0 c3
  clear e2
  refine wops_nil ?_
  refine then_n ?_
  refine x_seq ?_
  refine x_region rfl ?_
  refine w_plain rfl (st_bld (ps := []) (vs := [S _, S _]) T.bld31 rfl ?_)
  refine w_plain rfl (st_alloc T.zero31 ?_)
  intro b3 w5 e6 c7 hb8
  have ge_b3 : w.heap.size ≤ b3 := by rw [e6]; exact HC.size
  have ne_b2_b3 : b2 ≠ b3 := by rw [e6]; exact hb4.ne_size
  replace HC := HC.then c7
  replace hl := hl.tr0 c7
  replace hb4 := hb4.tr0 c7
  clear e6
  refine w_plain rfl (st_store (v := .agg ⟨[S _, S _]⟩) T.size31 rfl rfl rfl hb8 rfl (Nat.le_of_ble_eq_true rfl) (by simp [Value.oneCell', S]) rfl ?_)
  intro w9 c10 hb11; simp only [setVs, setV] at hb11
  clear hb8
  replace HC := HC.then1 c10 ge_b3
  replace hl := hl.tr c10 (by intro k hx hD; simp only [List.mem_singleton] at hx; subst hx; omega)
  replace hb4 := hb4.tr1 c10 ne_b2_b3
  refine wops_nil ?_
  refine then_n ?_
  refine x_seq ?_
  refine x_seq ?_
  refine x_region rfl ?_
  refine w_plain rfl (st_assign (v := .int _ _) rfl ?_)
  refine wops_nil ?_
  refine then_n ?_
  refine x_block ?_
  have hf3 : Blk w9 b3 [S (jT (l.take 0)), S (jQ (l.take 0))] 31 := hb11
  refine x_loop (ι := Nat) [4, 5, 6, 8, 9, 10, 11, 12, 13, 14, 15, 16, 17, 18, 19, 20, 21, 22, 23, 24, 25, 26, 27, 28, 29, 30, 31, 32, 33, 34, 35, 36, 37, 38, 39, 40, 41, 42, 43, 44, 45, 46, 47, 48, 49, 50, 51, 52] (fun i => [(4, .int .i64 (i : Int))]) (fun i W => (i ≤ l.length) ∧ (Chg [] w W) ∧ (Sl pE W (fun k => k < w.heap.size) Al l) ∧ (Blk W b2 [S [], S []] 31) ∧ (Blk W b3 [S (jT (l.take i)), S (jQ (l.take i))] 31)) (fun i => l.length - i) 0 ?_ ?_ ?_
  · exact ⟨rfl, trivial⟩
  · skip
    refine ⟨?_, HC, hl, hb4, hf3⟩
    exact Nat.zero_le _
  intro i G13 w12 ⟨hi, HC, hl, hb4, hf3⟩
  change wp _ _ _ _ _ (upds (over _ _ G13) [(4, .int .i64 (i : Int))]) _ _
  have hbt1 := bulkP_take l i
  have hll := len_bulkP l
  have hT1 := jT_len (l.take i)
  have hQ1 := jQ_len (l.take i)
  refine x_seq ?_
  refine x_seq ?_
  refine x_region rfl ?_
  refine w_plain rfl (st_move (v := .int _ _) rfl ?_)
  refine w_plain rfl (st_move (v := .slice _ _ _) rfl ?_)
  refine w_plain rfl (st_len (ct := #[22]) (by rw [show ((#[22] : Array TypeId)[0]?).bind Try.prog.underlying = some (.slice 27) from T.u22]; rfl) rfl ?_)
  refine w_plain rfl (st_lss rfl rfl ?_)
  refine wops_nil ?_
  refine then_n ?_
  refine x_cond rfl (fun h0 => ?_) (fun h0 => ?_)
  · skip
    try simp only [decide_eq_true_eq, decide_eq_false_iff_not, Bool.not_eq_true', Bool.not_eq_false', Bool.not_true, Bool.not_false, ne_eq, Int.toNat_natCast, Int.toNat_zero, Int.toNat_one, Bool.not_eq_true, Bool.not_eq_false] at h0
    refine x_skip ?_
    refine then_n ?_
    refine x_seq ?_
    refine x_block ?_
    refine x_seq ?_
    refine x_region rfl ?_
    refine w_plain rfl (st_move (v := .slice _ _ _) rfl ?_)
    refine w_plain rfl (st_move (v := .int _ _) rfl ?_)
    obtain ⟨p, hx14⟩ : ∃ x, l[i]? = some x := ⟨_, List.getElem?_eq_getElem (by omega)⟩
    obtain ⟨lb19, _, vs18, hA15, hR17, hC16⟩ := hl.at hx14
    obtain rfl : vs18 = [.int .i64 p.kind, S p.text] := hR17
    refine w_plain rfl (st_indexAddr T.u22 T.size27 (congrArg (fun z => Value.slice z _ _) hA15) rfl (by omega) (by omega) ?_)
    refine w_plain rfl (st_loadA (vs := [_, _]) T.agg27 rfl hC16 rfl ?_)
    refine w_plain rfl (st_alloc T.zero27 ?_)
    intro b5 w20 e21 c22 hb23
    have ge_b5 : w.heap.size ≤ b5 := by rw [e21]; exact HC.size
    have ne_b2_b5 : b2 ≠ b5 := by rw [e21]; exact hb4.ne_size
    have ne_b3_b5 : b3 ≠ b5 := by rw [e21]; exact hf3.ne_size
    replace HC := HC.then c22
    replace hl := hl.tr0 c22
    replace hb4 := hb4.tr0 c22
    replace hf3 := hf3.tr0 c22
    clear e21
    refine w_plain rfl (st_store (v := .agg ⟨[.int _ _, S _]⟩) T.size27 rfl rfl rfl hb23 rfl (Nat.le_of_ble_eq_true rfl) (by simp [Value.oneCell', S]) rfl ?_)
    intro w24 c25 hb26; simp only [setVs, setV] at hb26
    clear hb23
    replace HC := HC.then1 c25 ge_b5
    replace hl := hl.tr c25 (by intro k hx hD; simp only [List.mem_singleton] at hx; subst hx; omega)
    replace hb4 := hb4.tr1 c25 ne_b2_b5
    replace hf3 := hf3.tr1 c25 ne_b3_b5
    refine wops_nil ?_
    refine then_n ?_
    refine x_seq ?_
    refine x_seq ?_
    refine x_region rfl ?_
    refine w_plain rfl (st_fieldAddr T.fld27_0 rfl ?_)
    refine w_plain rfl (st_load1 (v := .int _ _) T.one3 rfl (hb26.cell rfl) ?_)
    refine w_plain rfl (st_eql rfl rfl ?_)
    refine wops_nil ?_
    refine then_n ?_
    refine x_cond rfl (fun h1 => ?_) (fun h1 => ?_)
    · skip
      try simp only [decide_eq_true_eq, decide_eq_false_iff_not, Bool.not_eq_true', Bool.not_eq_false', Bool.not_true, Bool.not_false, ne_eq, Int.toNat_natCast, Int.toNat_zero, Int.toNat_one, Bool.not_eq_true, Bool.not_eq_false] at h1
      have hjp : jp p = ⟨1, [32]⟩ := by unfold jp; rw [if_pos h1]
      refine x_seq ?_
      refine x_region rfl ?_
      refine w_plain rfl (st_fieldAddr T.fld31_0 rfl ?_)
      refine w_plain rfl (st_load1 (v := S _) T.one9 rfl (hf3.cell rfl) ?_)
      refine w_plain rfl (st_sadd rfl rfl (by (try simp only [List.length_append, List.length_cons, List.length_nil] at *); omega) ?_)
      refine w_plain rfl (st_fieldAddr T.fld31_0 rfl ?_)
      refine w_plain rfl (st_store (v := S _) T.size9 rfl rfl rfl hf3 rfl (Nat.le_of_ble_eq_true rfl) (by simp [Value.oneCell', S]) rfl ?_)
      intro w27 c28 hb29; simp only [setVs, setV] at hb29
      clear hf3
      replace HC := HC.then1 c28 ge_b3
      replace hl := hl.tr c28 (by intro k hx hD; simp only [List.mem_singleton] at hx; subst hx; omega)
      replace hb4 := hb4.tr1 c28 ne_b2_b3
      replace hb26 := hb26.tr1 c28 (Ne.symm ne_b3_b5)
      refine wops_nil ?_
      refine then_n ?_
      refine x_seq ?_
      refine x_region rfl ?_
      refine w_plain rfl (st_fieldAddr T.fld31_1 rfl ?_)
      refine w_plain rfl (st_load1 (v := S _) T.one9 rfl (hb29.cell rfl) ?_)
      refine w_plain rfl (st_sadd rfl rfl (by (try simp only [List.length_append, List.length_cons, List.length_nil] at *); omega) ?_)
      refine w_plain rfl (st_fieldAddr T.fld31_1 rfl ?_)
      refine w_plain rfl (st_store (v := S _) T.size9 rfl rfl rfl hb29 rfl (Nat.le_of_ble_eq_true rfl) (by simp [Value.oneCell', S]) rfl ?_)
      intro w30 c31 hb32; simp only [setVs, setV] at hb32
      clear hb29
      replace HC := HC.then1 c31 ge_b3
      replace hl := hl.tr c31 (by intro k hx hD; simp only [List.mem_singleton] at hx; subst hx; omega)
      replace hb4 := hb4.tr1 c31 ne_b2_b3
      replace hb26 := hb26.tr1 c31 (Ne.symm ne_b3_b5)
      refine wops_nil ?_
      refine then_n ?_
      refine x_exit ?_
      refine then_x ?_
      refine block_x ?_
      refine then_n ?_
      refine x_region rfl ?_
      refine w_plain rfl (st_move (v := .int _ _) rfl ?_)
      refine w_plain rfl (st_addn rfl rfl (by constructor <;> omega) ?_)
      refine w_plain rfl (st_assign (v := .int _ _) rfl ?_)
      refine wops_nil ?_
      refine then_n ?_
      refine ⟨i + 1, ?_, ?_, rfl, ⟨rfl, trivial⟩, ?_⟩
      · skip
        refine ⟨?_, HC, hl, hb4, (by rw [jT_step hx14, jQ_step hx14, hjp]; exact hb32)⟩
        show i + 1 ≤ l.length; omega
      · skip
        show l.length - (i + 1) < l.length - i; omega
      repeat (first | exact agree_upds agree_over rfl | refine agree_upd ?_ rfl | refine agree_upds ?_ rfl | refine agree_over_sub ?_ rfl)
    · skip
      try simp only [decide_eq_true_eq, decide_eq_false_iff_not, Bool.not_eq_true', Bool.not_eq_false', Bool.not_true, Bool.not_false, ne_eq, Int.toNat_natCast, Int.toNat_zero, Int.toNat_one, Bool.not_eq_true, Bool.not_eq_false] at h1
      have hjp : jp p = p := by unfold jp; rw [if_neg h1]
      have hbk := bulkP_at hx14
      refine x_skip ?_
      refine then_n ?_
      refine x_seq ?_
      refine x_region rfl ?_
      refine w_plain rfl (st_fieldAddr T.fld31_0 rfl ?_)
      refine w_plain rfl (st_load1 (v := S _) T.one9 rfl (hf3.cell rfl) ?_)
      refine w_plain rfl (st_fieldAddr T.fld27_1 rfl ?_)
      refine w_plain rfl (st_load1 (v := S _) T.one9 rfl (hb26.cell rfl) ?_)
      refine w_plain rfl (st_sadd rfl rfl (by (try simp only [List.length_append, List.length_cons, List.length_nil] at *); omega) ?_)
      refine w_plain rfl (st_fieldAddr T.fld31_0 rfl ?_)
      refine w_plain rfl (st_store (v := S _) T.size9 rfl rfl rfl hf3 rfl (Nat.le_of_ble_eq_true rfl) (by simp [Value.oneCell', S]) rfl ?_)
      intro w33 c34 hb35; simp only [setVs, setV] at hb35
      clear hf3
      replace HC := HC.then1 c34 ge_b3
      replace hl := hl.tr c34 (by intro k hx hD; simp only [List.mem_singleton] at hx; subst hx; omega)
      replace hb4 := hb4.tr1 c34 ne_b2_b3
      replace hb26 := hb26.tr1 c34 (Ne.symm ne_b3_b5)
      refine wops_nil ?_
      refine then_n ?_
      refine x_seq ?_
      refine x_region rfl ?_
      refine w_plain rfl (st_assign (v := .int _ _) rfl ?_)
      refine wops_nil ?_
      refine then_n ?_
      refine x_block ?_
      refine x_loop (ι := Nat) [6, 35, 36, 37, 38, 39, 40, 41, 42, 43, 44, 45, 46, 47, 48, 49, 50, 51, 52] (fun j => [(6, .int .i64 (j : Int))]) (fun j W => (j ≤ p.text.length) ∧ (Chg [] w W) ∧ (Sl pE W (fun k => k < w.heap.size) Al l) ∧ (Blk W b2 [S [], S []] 31) ∧ (Blk W b5 [.int .i64 p.kind, S p.text] 27) ∧ (Blk W b3 [S (jT (l.take i) ++ p.text), S (jQ (l.take i) ++ List.replicate j (if p.kind = 1 then (49 : UInt8) else 48))] 31)) (fun j => p.text.length - j) 0 ?_ ?_ ?_
      · exact ⟨rfl, trivial⟩
      · skip
        refine ⟨?_, HC, hl, hb4, hb26, (by rw [List.replicate_zero, List.append_nil]; exact hb35)⟩
        exact Nat.zero_le _
      intro j G37 w36 ⟨hj, HC, hl, hb4, hb26, hf3⟩
      change wp _ _ _ _ _ (upds (over _ _ G37) [(6, .int .i64 (j : Int))]) _ _
      have hrl : (List.replicate j (if p.kind = 1 then (49 : UInt8) else 48)).length = j := List.length_replicate
      refine x_seq ?_
      refine x_seq ?_
      refine x_region rfl ?_
      refine w_plain rfl (st_move (v := .int _ _) rfl ?_)
      refine w_plain rfl (st_fieldAddr T.fld27_1 rfl ?_)
      refine w_plain rfl (st_load1 (v := S _) T.one9 rfl (hb26.cell rfl) ?_)
      refine w_plain rfl (st_slen (ct := #[9]) T.u9 rfl ?_)
      refine w_plain rfl (st_lss rfl rfl ?_)
      refine wops_nil ?_
      refine then_n ?_
      refine x_cond rfl (fun h2 => ?_) (fun h2 => ?_)
      · skip
        try simp only [decide_eq_true_eq, decide_eq_false_iff_not, Bool.not_eq_true', Bool.not_eq_false', Bool.not_true, Bool.not_false, ne_eq, Int.toNat_natCast, Int.toNat_zero, Int.toNat_one, Bool.not_eq_true, Bool.not_eq_false] at h2
        refine x_skip ?_
        refine then_n ?_
        refine x_seq ?_
        refine x_block ?_
        refine x_seq ?_
        refine x_region rfl ?_
        refine w_plain rfl (st_fieldAddr T.fld27_0 rfl ?_)
        refine w_plain rfl (st_load1 (v := .int _ _) T.one3 rfl (hb26.cell rfl) ?_)
        refine w_plain rfl (st_eql rfl rfl ?_)
        refine wops_nil ?_
        refine then_n ?_
        refine x_cond rfl (fun h3 => ?_) (fun h3 => ?_)
        · skip
          try simp only [decide_eq_true_eq, decide_eq_false_iff_not, Bool.not_eq_true', Bool.not_eq_false', Bool.not_true, Bool.not_false, ne_eq, Int.toNat_natCast, Int.toNat_zero, Int.toNat_one, Bool.not_eq_true, Bool.not_eq_false] at h3
          refine x_region rfl ?_
          refine w_plain rfl (st_fieldAddr T.fld31_1 rfl ?_)
          refine w_plain rfl (st_load1 (v := S _) T.one9 rfl (hf3.cell rfl) ?_)
          refine w_plain rfl (st_sadd rfl rfl (by rw [List.length_append, List.length_replicate]; show _ + 1 ≤ _; omega) ?_)
          refine w_plain rfl (st_fieldAddr T.fld31_1 rfl ?_)
          refine w_plain rfl (st_store (v := S _) T.size9 rfl rfl rfl hf3 rfl (Nat.le_of_ble_eq_true rfl) (by simp [Value.oneCell', S]) rfl ?_)
          intro w38 c39 hb40; simp only [setVs, setV] at hb40
          clear hf3
          replace HC := HC.then1 c39 ge_b3
          replace hl := hl.tr c39 (by intro k hx hD; simp only [List.mem_singleton] at hx; subst hx; omega)
          replace hb4 := hb4.tr1 c39 ne_b2_b3
          replace hb26 := hb26.tr1 c39 (Ne.symm ne_b3_b5)
          refine wops_nil ?_
          refine block_n ?_
          refine then_n ?_
          refine x_region rfl ?_
          refine w_plain rfl (st_move (v := .int _ _) rfl ?_)
          refine w_plain rfl (st_addn rfl rfl (by constructor <;> omega) ?_)
          refine w_plain rfl (st_assign (v := .int _ _) rfl ?_)
          refine wops_nil ?_
          refine then_n ?_
          refine ⟨j + 1, ?_, ?_, rfl, ⟨rfl, trivial⟩, ?_⟩
          · skip
            refine ⟨?_, HC, hl, hb4, hb26, (by rw [List.replicate_succ', if_pos h3, ← List.append_assoc]; rw [if_pos h3] at hb40; exact hb40)⟩
            show j + 1 ≤ p.text.length; omega
          · skip
            show p.text.length - (j + 1) < p.text.length - j; omega
          repeat (first | exact agree_upds agree_over rfl | refine agree_upd ?_ rfl | refine agree_upds ?_ rfl | refine agree_over_sub ?_ rfl)
        · skip
          try simp only [decide_eq_true_eq, decide_eq_false_iff_not, Bool.not_eq_true', Bool.not_eq_false', Bool.not_true, Bool.not_false, ne_eq, Int.toNat_natCast, Int.toNat_zero, Int.toNat_one, Bool.not_eq_true, Bool.not_eq_false] at h3
          refine x_region rfl ?_
          refine w_plain rfl (st_fieldAddr T.fld31_1 rfl ?_)
          refine w_plain rfl (st_load1 (v := S _) T.one9 rfl (hf3.cell rfl) ?_)
          refine w_plain rfl (st_sadd rfl rfl (by rw [List.length_append, List.length_replicate]; show _ + 1 ≤ _; omega) ?_)
          refine w_plain rfl (st_fieldAddr T.fld31_1 rfl ?_)
          refine w_plain rfl (st_store (v := S _) T.size9 rfl rfl rfl hf3 rfl (Nat.le_of_ble_eq_true rfl) (by simp [Value.oneCell', S]) rfl ?_)
          intro w41 c42 hb43; simp only [setVs, setV] at hb43
          clear hf3
          replace HC := HC.then1 c42 ge_b3
          replace hl := hl.tr c42 (by intro k hx hD; simp only [List.mem_singleton] at hx; subst hx; omega)
          replace hb4 := hb4.tr1 c42 ne_b2_b3
          replace hb26 := hb26.tr1 c42 (Ne.symm ne_b3_b5)
          refine wops_nil ?_
          refine block_n ?_
          refine then_n ?_
          refine x_region rfl ?_
          refine w_plain rfl (st_move (v := .int _ _) rfl ?_)
          refine w_plain rfl (st_addn rfl rfl (by constructor <;> omega) ?_)
          refine w_plain rfl (st_assign (v := .int _ _) rfl ?_)
          refine wops_nil ?_
          refine then_n ?_
          refine ⟨j + 1, ?_, ?_, rfl, ⟨rfl, trivial⟩, ?_⟩
          · skip
            refine ⟨?_, HC, hl, hb4, hb26, (by rw [List.replicate_succ', if_neg h3, ← List.append_assoc]; rw [if_neg h3] at hb43; exact hb43)⟩
            show j + 1 ≤ p.text.length; omega
          · skip
            show p.text.length - (j + 1) < p.text.length - j; omega
          repeat (first | exact agree_upds agree_over rfl | refine agree_upd ?_ rfl | refine agree_upds ?_ rfl | refine agree_over_sub ?_ rfl)
      · skip
        try simp only [decide_eq_true_eq, decide_eq_false_iff_not, Bool.not_eq_true', Bool.not_eq_false', Bool.not_true, Bool.not_false, ne_eq, Int.toNat_natCast, Int.toNat_zero, Int.toNat_one, Bool.not_eq_true, Bool.not_eq_false] at h2
        have hjl : j = p.text.length := by omega
        rw [hjl] at hf3
        refine x_exit ?_
        refine then_x ?_
        refine then_x ?_
        refine block_x ?_
        refine block_n ?_
        refine then_n ?_
        refine x_region rfl ?_
        refine w_plain rfl (st_move (v := .int _ _) rfl ?_)
        refine w_plain rfl (st_addn rfl rfl (by constructor <;> omega) ?_)
        refine w_plain rfl (st_assign (v := .int _ _) rfl ?_)
        refine wops_nil ?_
        refine then_n ?_
        refine ⟨i + 1, ?_, ?_, rfl, ⟨rfl, trivial⟩, ?_⟩
        · skip
          refine ⟨?_, HC, hl, hb4, (by rw [jT_step hx14, jQ_step hx14, hjp]; exact hf3)⟩
          show i + 1 ≤ l.length; omega
        · skip
          show l.length - (i + 1) < l.length - i; omega
        repeat (first | exact agree_upds agree_over rfl | refine agree_upd ?_ rfl | refine agree_upds ?_ rfl | refine agree_over_sub ?_ rfl)
  · skip
    try simp only [decide_eq_true_eq, decide_eq_false_iff_not, Bool.not_eq_true', Bool.not_eq_false', Bool.not_true, Bool.not_false, ne_eq, Int.toNat_natCast, Int.toNat_zero, Int.toNat_one, Bool.not_eq_true, Bool.not_eq_false] at h0
    have hlt : l.take i = l := List.take_of_length_le (by omega)
    rw [hlt] at hf3
    refine x_exit ?_
    refine then_x ?_
    refine then_x ?_
    refine block_x ?_
    refine then_n ?_
    refine x_seq ?_
    refine x_region rfl ?_
    refine w_plain rfl (st_loadA (vs := [_, _]) T.agg31 rfl (hf3.cells (n := 2) (vs := [_, _]) rfl) rfl ?_)
    refine w_plain rfl (st_store (v := .agg ⟨[S _, S _]⟩) T.size31 rfl rfl rfl hb4 rfl (Nat.le_of_ble_eq_true rfl) (by simp [Value.oneCell', S]) rfl ?_)
    intro w44 c45 hb46; simp only [setVs, setV] at hb46
    clear hb4
    replace HC := HC.then1 c45 ge_b2
    replace hl := hl.tr c45 (by intro k hx hD; simp only [List.mem_singleton] at hx; subst hx; omega)
    replace hf3 := hf3.tr1 c45 (Ne.symm ne_b2_b3)
    refine wops_nil ?_
    refine then_n ?_
    refine x_ret ?_
    refine ret_cellA (vs := [_, _]) rfl rfl T.agg31 (hb46.cells (n := 2) rfl) rfl ?_
    exact ⟨rfl, HC⟩

theorem FieldSplits_spec {l m : List Piece} {Al Am : Option Addr} {capl capm : Nat} {D D2 : Nat → Prop} {w : World} (ifs : Bytes) (hl : Sl pE w D Al l) (hm : Sl pE w D2 Am m) (hT : ∀ p, p ∈ l → p.text.length ≤ 140737488355328) (hlen : l.length ≤ 9223372036854775807) (hT2 : ∀ p, p ∈ m → p.text.length ≤ 140737488355328) (hlen2 : m.length ≤ 9223372036854775807) :
    CallR Try.prog 6 #[.slice Al l.length capl, .slice Am m.length capm, S ifs] w fun v w' => v = .bool true ∧ Chg [] w w' := by
  refine callR_of_wp (args := [_, _, _]) Try.func6 rfl (Nat.le_of_ble_eq_true rfl) ?_
  have HC : Chg [] w w := .refl _
  refine x_seq ?_
  refine x_region rfl ?_
  refine w_plain rfl (st_assign (v := .bool _) rfl ?_)
  refine wops_nil ?_
  refine then_n ?_
  refine x_seq ?_
  refine x_seq ?_
  refine x_region rfl ?_
  refine w_plain rfl (st_move (v := .slice _ _ _) rfl ?_)
  refine w_plain rfl (st_call (ags := [_]) rfl rfl T.ent7 rfl (few_spec hl hT hlen) ?_)
  rintro _ w1 ⟨rfl, c2⟩
  replace HC := HC.then c2
  replace hl := hl.tr0 c2
  replace hm := hm.tr0 c2
  refine w_plain rfl (st_not rfl ?_)
  refine w_plain rfl (st_move (v := .bool _) rfl ?_)
  refine w_split (d := 12) rfl (fun g3 => ?_) (fun g3 => ?_)
  · skip
    try simp only [decide_eq_true_eq, decide_eq_false_iff_not, Bool.not_eq_true', Bool.not_eq_false', Bool.not_true, Bool.not_false, ne_eq, Int.toNat_natCast, Int.toNat_zero, Int.toNat_one, Bool.not_eq_true, Bool.not_eq_false] at g3
    refine w_no 3 12 false rfl rfl rfl (by first | exact .inl rfl | exact .inr rfl) ?_
    refine w_no 3 12 false rfl rfl rfl (by first | exact .inl rfl | exact .inr rfl) ?_
    refine w_no 3 12 false rfl rfl rfl (by first | exact .inl rfl | exact .inr rfl) ?_
    refine w_plain rfl (st_pick (b := true) (v := .bool _) rfl rfl ?_)
    refine w_plain rfl (st_move (v := .bool _) rfl ?_)
    refine w_no 8 17 false rfl rfl rfl (by first | exact .inl rfl | exact .inr rfl) ?_
    refine w_no 8 17 false rfl rfl rfl (by first | exact .inl rfl | exact .inr rfl) ?_
    refine w_no 8 17 false rfl rfl rfl (by first | exact .inl rfl | exact .inr rfl) ?_
    refine w_plain rfl (st_pick (b := true) (v := .bool _) rfl rfl ?_)
    refine wops_nil ?_
    refine then_n ?_
    refine x_cond (t := true) rfl (fun h0 => ?_) (fun h0 => ?_)
    rotate_left
    · exact absurd h0 (by decide)
    refine x_seq ?_
    refine x_region rfl ?_
    refine w_plain rfl (st_call (ags := []) rfl rfl T.ent8 rfl (awake_spec _) ?_)
    rintro _ w4 ⟨rfl, c5⟩
    replace HC := HC.then c5
    replace hl := hl.tr0 c5
    replace hm := hm.tr0 c5
    refine w_plain rfl (st_assign (v := .bool _) rfl ?_)
    refine wops_nil ?_
    refine then_n ?_
    refine x_ret ?_
    refine then_r ?_
    refine ret_tmp (v := .bool _) rfl rfl ?_
    exact ⟨rfl, HC⟩
  · skip
    try simp only [decide_eq_true_eq, decide_eq_false_iff_not, Bool.not_eq_true', Bool.not_eq_false', Bool.not_true, Bool.not_false, ne_eq, Int.toNat_natCast, Int.toNat_zero, Int.toNat_one, Bool.not_eq_true, Bool.not_eq_false] at g3
    refine w_yes 3 12 false rfl rfl rfl rfl (st_move (v := .slice _ _ _) rfl ?_)
    refine w_yes 3 12 false rfl rfl rfl rfl (st_call (ags := [_]) rfl rfl T.ent7 rfl (few_spec hm hT2 hlen2) ?_)
    rintro _ w6 ⟨rfl, c7⟩
    replace HC := HC.then c7
    replace hl := hl.tr0 c7
    replace hm := hm.tr0 c7
    refine w_yes 3 12 false rfl rfl rfl rfl (st_not rfl ?_)
    refine w_plain rfl (st_pick (b := false) (v := .bool _) rfl rfl ?_)
    refine w_plain rfl (st_move (v := .bool _) rfl ?_)
    refine w_split (d := 17) rfl (fun g8 => ?_) (fun g8 => ?_)
    · skip
      try simp only [decide_eq_true_eq, decide_eq_false_iff_not, Bool.not_eq_true', Bool.not_eq_false', Bool.not_true, Bool.not_false, ne_eq, Int.toNat_natCast, Int.toNat_zero, Int.toNat_one, Bool.not_eq_true, Bool.not_eq_false] at g8
      refine w_no 8 17 false rfl rfl rfl (by first | exact .inl rfl | exact .inr rfl) ?_
      refine w_no 8 17 false rfl rfl rfl (by first | exact .inl rfl | exact .inr rfl) ?_
      refine w_no 8 17 false rfl rfl rfl (by first | exact .inl rfl | exact .inr rfl) ?_
      refine w_plain rfl (st_pick (b := true) (v := .bool _) rfl rfl ?_)
      refine wops_nil ?_
      refine then_n ?_
      refine x_cond (t := true) rfl (fun h0 => ?_) (fun h0 => ?_)
      rotate_left
      · exact absurd h0 (by decide)
      refine x_seq ?_
      refine x_region rfl ?_
      refine w_plain rfl (st_call (ags := []) rfl rfl T.ent8 rfl (awake_spec _) ?_)
      rintro _ w9 ⟨rfl, c10⟩
      replace HC := HC.then c10
      replace hl := hl.tr0 c10
      replace hm := hm.tr0 c10
      refine w_plain rfl (st_assign (v := .bool _) rfl ?_)
      refine wops_nil ?_
      refine then_n ?_
      refine x_ret ?_
      refine then_r ?_
      refine ret_tmp (v := .bool _) rfl rfl ?_
      exact ⟨rfl, HC⟩
    · skip
      try simp only [decide_eq_true_eq, decide_eq_false_iff_not, Bool.not_eq_true', Bool.not_eq_false', Bool.not_true, Bool.not_false, ne_eq, Int.toNat_natCast, Int.toNat_zero, Int.toNat_one, Bool.not_eq_true, Bool.not_eq_false] at g8
      refine w_yes 8 17 false rfl rfl rfl rfl (st_move (v := S _) rfl ?_)
      refine w_yes 8 17 false rfl rfl rfl rfl (st_slen (ct := #[9]) T.u9 rfl ?_)
      refine w_yes 8 17 false rfl rfl rfl rfl (st_gtr rfl rfl ?_)
      refine w_plain rfl (st_pick (b := false) (v := .bool _) rfl rfl ?_)
      refine wops_nil ?_
      refine then_n ?_
      refine x_cond rfl (fun h0 => ?_) (fun h0 => ?_)
      · skip
        try simp only [decide_eq_true_eq, decide_eq_false_iff_not, Bool.not_eq_true', Bool.not_eq_false', Bool.not_true, Bool.not_false, ne_eq, Int.toNat_natCast, Int.toNat_zero, Int.toNat_one, Bool.not_eq_true, Bool.not_eq_false] at h0
        refine x_seq ?_
        refine x_region rfl ?_
        refine w_plain rfl (st_call (ags := []) rfl rfl T.ent8 rfl (awake_spec _) ?_)
        rintro _ w11 ⟨rfl, c12⟩
        replace HC := HC.then c12
        replace hl := hl.tr0 c12
        replace hm := hm.tr0 c12
        refine w_plain rfl (st_assign (v := .bool _) rfl ?_)
        refine wops_nil ?_
        refine then_n ?_
        refine x_ret ?_
        refine then_r ?_
        refine ret_tmp (v := .bool _) rfl rfl ?_
        exact ⟨rfl, HC⟩
      · skip
        try simp only [decide_eq_true_eq, decide_eq_false_iff_not, Bool.not_eq_true', Bool.not_eq_false', Bool.not_true, Bool.not_false, ne_eq, Int.toNat_natCast, Int.toNat_zero, Int.toNat_one, Bool.not_eq_true, Bool.not_eq_false] at h0
        obtain ⟨hf1, hf2⟩ := few_of (l := l) (by assumption)
        obtain ⟨hg1, hg2⟩ := few_of (l := m) (by assumption)
        have hbk0 := texts_bulk l
        have hbk1 := texts_bulk m
        refine x_skip ?_
        refine then_n ?_
        refine x_seq ?_
        refine x_region rfl ?_
        refine w_plain rfl (st_move (v := .slice _ _ _) rfl ?_)
        refine w_plain rfl (st_move (v := S _) rfl ?_)
        refine w_plain rfl (st_call (ags := [_, _]) rfl rfl T.ent9 rfl (Split_spec (l := l) ifs hl (by omega)) ?_)
        rintro _ w13 ⟨Aa1, capa1, rfl, hlea1, hcapa1, ha1, c14⟩
        replace ha1 := ha1.mono (D' := fun _ => True) (fun _ _ _ => trivial)
        have hla1 := split_len ifs l
        replace HC := HC.then c14
        replace hl := hl.tr0 c14
        replace hm := hm.tr0 c14
        refine w_plain rfl (st_move (v := .slice _ _ _) rfl ?_)
        refine w_plain rfl (st_move (v := S _) rfl ?_)
        refine w_plain rfl (st_call (ags := [_, _]) rfl rfl T.ent9 rfl (Split_spec (l := m) ifs hm (by omega)) ?_)
        rintro _ w15 ⟨Aa2, capa2, rfl, hlea2, hcapa2, ha2, c16⟩
        replace ha2 := ha2.mono (D' := fun _ => True) (fun _ _ _ => trivial)
        have hla2 := split_len ifs m
        replace HC := HC.then c16
        replace hl := hl.tr0 c16
        replace hm := hm.tr0 c16
        replace ha1 := ha1.tr0 c16
        refine w_plain rfl (st_assign (v := .slice _ _ _) rfl ?_)
        refine w_plain rfl (st_assign (v := .slice _ _ _) rfl ?_)
        refine wops_nil ?_
        refine then_n ?_
        refine x_seq ?_
        refine x_region rfl ?_
        refine w_plain rfl (st_move (v := .slice _ _ _) rfl ?_)
        refine w_plain rfl (st_move (v := .slice _ _ _) rfl ?_)
        refine w_plain rfl (st_move (v := S _) rfl ?_)
        refine w_plain rfl (st_call (ags := [_, _]) rfl rfl T.ent12 rfl (RSplit_spec (l := l) ifs hl (by omega) (by omega)) ?_)
        rintro _ w17 ⟨Aa3, capa3, rfl, hlea3, hcapa3, ha3, c18⟩
        replace ha3 := ha3.mono (D' := fun _ => True) (fun _ _ _ => trivial)
        have hla3 := split_len ifs l
        replace HC := HC.then c18
        replace hl := hl.tr0 c18
        replace hm := hm.tr0 c18
        replace ha1 := ha1.tr0 c18
        replace ha2 := ha2.tr0 c18
        refine w_plain rfl (st_call (ags := [_, _]) rfl rfl T.ent11 rfl (RSame_spec ha1 ha3 (by omega)) ?_)
        rintro _ w19 ⟨rfl, c20⟩
        replace HC := HC.then c20
        replace hl := hl.tr0 c20
        replace hm := hm.tr0 c20
        replace ha1 := ha1.tr0 c20
        replace ha2 := ha2.tr0 c20
        replace ha3 := ha3.tr0 c20
        refine w_plain rfl (st_move (v := .bool _) rfl ?_)
        refine w_split (d := 34) rfl (fun g21 => ?_) (fun g21 => ?_)
        · skip
          try simp only [decide_eq_true_eq, decide_eq_false_iff_not, Bool.not_eq_true', Bool.not_eq_false', Bool.not_true, Bool.not_false, ne_eq, Int.toNat_natCast, Int.toNat_zero, Int.toNat_one, Bool.not_eq_true, Bool.not_eq_false] at g21
          refine w_yes 5 34 true rfl rfl rfl rfl (st_move (v := .slice _ _ _) rfl ?_)
          refine w_yes 5 34 true rfl rfl rfl rfl (st_call (ags := [_]) rfl rfl T.ent10 rfl (Join_spec hl (by omega)) ?_)
          rintro _ w22 ⟨rfl, c23⟩
          replace HC := HC.then c23
          replace hl := hl.tr0 c23
          replace hm := hm.tr0 c23
          replace ha1 := ha1.tr0 c23
          replace ha2 := ha2.tr0 c23
          replace ha3 := ha3.tr0 c23
          refine w_yes 5 34 true rfl rfl rfl rfl (st_move (v := .slice _ _ _) rfl ?_)
          refine w_yes 5 34 true rfl rfl rfl rfl (st_call (ags := [_]) rfl rfl T.ent13 rfl (RJoin_spec hl (by omega)) ?_)
          rintro _ w24 ⟨rfl, c25⟩
          replace HC := HC.then c25
          replace hl := hl.tr0 c25
          replace hm := hm.tr0 c25
          replace ha1 := ha1.tr0 c25
          replace ha2 := ha2.tr0 c25
          replace ha3 := ha3.tr0 c25
          refine w_yes 5 34 true rfl rfl rfl rfl (st_aeql T.eq31 rfl rfl rfl ?_)
          refine w_plain rfl (st_pick (b := true) (v := .bool _) rfl rfl ?_)
          refine w_plain rfl (st_move (v := .bool _) rfl ?_)
          refine w_split (d := 41) rfl (fun g26 => ?_) (fun g26 => ?_)
          · skip
            try simp only [decide_eq_true_eq, decide_eq_false_iff_not, Bool.not_eq_true', Bool.not_eq_false', Bool.not_true, Bool.not_false, ne_eq, Int.toNat_natCast, Int.toNat_zero, Int.toNat_one, Bool.not_eq_true, Bool.not_eq_false] at g26
            refine w_yes 12 41 true rfl rfl rfl rfl (st_move (v := .slice _ _ _) rfl ?_)
            refine w_yes 12 41 true rfl rfl rfl rfl (st_move (v := .slice _ _ _) rfl ?_)
            refine w_yes 12 41 true rfl rfl rfl rfl (st_call (ags := [_, _]) rfl rfl T.ent14 rfl (Same_spec ha1 ha2 (by omega)) ?_)
            rintro _ w27 ⟨rfl, c28⟩
            replace HC := HC.then c28
            replace hl := hl.tr0 c28
            replace hm := hm.tr0 c28
            replace ha1 := ha1.tr0 c28
            replace ha2 := ha2.tr0 c28
            replace ha3 := ha3.tr0 c28
            refine w_yes 12 41 true rfl rfl rfl rfl (st_move (v := .slice _ _ _) rfl ?_)
            refine w_yes 12 41 true rfl rfl rfl rfl (st_move (v := .slice _ _ _) rfl ?_)
            refine w_yes 12 41 true rfl rfl rfl rfl (st_call (ags := [_, _]) rfl rfl T.ent11 rfl (RSame_spec ha1 ha2 (by omega)) ?_)
            rintro _ w29 ⟨rfl, c30⟩
            replace HC := HC.then c30
            replace hl := hl.tr0 c30
            replace hm := hm.tr0 c30
            replace ha1 := ha1.tr0 c30
            replace ha2 := ha2.tr0 c30
            replace ha3 := ha3.tr0 c30
            refine w_yes 12 41 true rfl rfl rfl rfl (st_beql T.u4 rfl rfl ?_)
            refine w_plain rfl (st_pick (b := true) (v := .bool _) rfl rfl ?_)
            refine w_plain rfl (st_move (v := .bool _) rfl ?_)
            refine w_split (d := 50) rfl (fun g31 => ?_) (fun g31 => ?_)
            · skip
              try simp only [decide_eq_true_eq, decide_eq_false_iff_not, Bool.not_eq_true', Bool.not_eq_false', Bool.not_true, Bool.not_false, ne_eq, Int.toNat_natCast, Int.toNat_zero, Int.toNat_one, Bool.not_eq_true, Bool.not_eq_false] at g31
              refine w_yes 21 50 true rfl rfl rfl rfl (st_move (v := .slice _ _ _) rfl ?_)
              refine w_yes 21 50 true rfl rfl rfl rfl (st_move (v := .slice _ _ _) rfl ?_)
              refine w_yes 21 50 true rfl rfl rfl rfl (st_call (ags := [_, _]) rfl rfl T.ent14 rfl (Same_spec ha1 ha1 (by omega)) ?_)
              rintro _ w32 ⟨rfl, c33⟩
              replace HC := HC.then c33
              replace hl := hl.tr0 c33
              replace hm := hm.tr0 c33
              replace ha1 := ha1.tr0 c33
              replace ha2 := ha2.tr0 c33
              replace ha3 := ha3.tr0 c33
              refine w_plain rfl (st_pick (b := true) (v := .bool _) rfl rfl ?_)
              refine w_plain rfl (st_move (v := .bool _) rfl ?_)
              refine w_split (d := 55) rfl (fun g34 => ?_) (fun g34 => ?_)
              · skip
                try simp only [decide_eq_true_eq, decide_eq_false_iff_not, Bool.not_eq_true', Bool.not_eq_false', Bool.not_true, Bool.not_false, ne_eq, Int.toNat_natCast, Int.toNat_zero, Int.toNat_one, Bool.not_eq_true, Bool.not_eq_false] at g34
                refine w_yes 26 55 true rfl rfl rfl rfl (st_call (ags := []) rfl rfl T.ent8 rfl (awake_spec _) ?_)
                rintro _ w35 ⟨rfl, c36⟩
                replace HC := HC.then c36
                replace hl := hl.tr0 c36
                replace hm := hm.tr0 c36
                replace ha1 := ha1.tr0 c36
                replace ha2 := ha2.tr0 c36
                replace ha3 := ha3.tr0 c36
                refine w_plain rfl (st_pick (b := true) (v := .bool _) rfl rfl ?_)
                refine w_plain rfl (st_assign (v := .bool _) rfl ?_)
                refine wops_nil ?_
                refine then_n ?_
                refine x_ret ?_
                refine ret_tmp (v := .bool _) rfl rfl ?_
                exact ⟨rfl, HC⟩
              · skip
                try simp only [decide_eq_true_eq, decide_eq_false_iff_not, Bool.not_eq_true', Bool.not_eq_false', Bool.not_true, Bool.not_false, ne_eq, Int.toNat_natCast, Int.toNat_zero, Int.toNat_one, Bool.not_eq_true, Bool.not_eq_false] at g34
                simp at g34
            · skip
              try simp only [decide_eq_true_eq, decide_eq_false_iff_not, Bool.not_eq_true', Bool.not_eq_false', Bool.not_true, Bool.not_false, ne_eq, Int.toNat_natCast, Int.toNat_zero, Int.toNat_one, Bool.not_eq_true, Bool.not_eq_false] at g31
              simp at g31
          · skip
            try simp only [decide_eq_true_eq, decide_eq_false_iff_not, Bool.not_eq_true', Bool.not_eq_false', Bool.not_true, Bool.not_false, ne_eq, Int.toNat_natCast, Int.toNat_zero, Int.toNat_one, Bool.not_eq_true, Bool.not_eq_false] at g26
            simp at g26
        · skip
          try simp only [decide_eq_true_eq, decide_eq_false_iff_not, Bool.not_eq_true', Bool.not_eq_false', Bool.not_true, Bool.not_false, ne_eq, Int.toNat_natCast, Int.toNat_zero, Int.toNat_one, Bool.not_eq_true, Bool.not_eq_false] at g21
          first | exact absurd trivial g21 | simp at g21

end Go.Proofs.Ytbnbkndeodankaa.K
