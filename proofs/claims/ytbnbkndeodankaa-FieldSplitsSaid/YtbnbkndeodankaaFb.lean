/- Walks. -/
import Derived.Test.YtbnbkndeodankaaFp
import Derived.Test.YtbnbkndeodankaaTy
set_option linter.unusedVariables false
set_option linter.unusedSimpArgs false
set_option autoImplicit false
set_option maxRecDepth 20000
namespace Go.Proofs.Ytbnbkndeodankaa.K
open Go Go.Proofs Go.RowKit

theorem parts_spec (t ifs : Bytes) (w : World) : CallR Try.prog 17 #[S t, S ifs] w fun v w' => ∃ bt bi, v = .func (.func 28) #[] #[.pointer (some ⟨bt, 0, none⟩), .pointer (some ⟨bi, 0, none⟩)] ∧ w.heap.size ≤ bt ∧ w.heap.size ≤ bi ∧ Blk w' bt [S t] 9 ∧ Blk w' bi [S ifs] 9 ∧ Chg [] w w' := by
  refine callR_of_wp (args := [_, _]) Try.func17 rfl (Nat.le_of_ble_eq_true rfl) ?_
  have HC : Chg [] w w := .refl _
  refine x_seq ?_
  refine x_region rfl ?_
  refine w_plain rfl (st_box (v := S _) (vs := [_]) rfl rfl ?_)
  intro bt w1 e2 c3 hb4
  have ge_bt : w.heap.size ≤ bt := by rw [e2]; exact HC.size
  replace HC := HC.then c3
  clear e2
  refine w_plain rfl (st_box (v := S _) (vs := [_]) rfl rfl ?_)
  intro bi w5 e6 c7 hb8
  have ge_bi : w.heap.size ≤ bi := by rw [e6]; exact HC.size
  have ne_bt_bi : bt ≠ bi := by rw [e6]; exact hb4.ne_size
  replace HC := HC.then c7
  replace hb4 := hb4.tr0 c7
  clear e6
  refine w_plain rfl (st_assign (v := .nilFunc) rfl ?_)
  refine wops_nil ?_
  refine then_n ?_
  refine x_seq ?_
  refine x_region rfl ?_
  refine w_plain rfl (st_makeFunc ?_)
  refine w_plain rfl (st_assign (v := .func _ _ _) rfl ?_)
  refine wops_nil ?_
  refine then_n ?_
  refine x_ret ?_
  refine ret_tmp (v := .func _ _ _) rfl rfl ?_
  exact ⟨bt, bi, rfl, ge_bt, ge_bi, hb4, hb8, HC⟩

theorem Split_spec {l : List Piece} {Al : Option Addr} {capl : Nat} {D : Nat → Prop} {w : World} (ifs : Bytes) (hl : Sl pE w D Al l) (hbulk : bulkP l ≤ 1000000000) :
    CallR Try.prog 9 #[.slice Al l.length capl, S ifs] w fun v w' => ∃ A cap, v = .slice A (splitL l ifs).length cap ∧ (splitL l ifs).length ≤ cap ∧ cap ≤ 9223372036854775807 ∧ Sl fE w' (fun k => w.heap.size ≤ k) A (splitL l ifs) ∧ Chg [] w w' := by
  replace hl := hl.mono (D' := fun k => k < w.heap.size) (fun k hk _ => hk)
  refine callR_of_wpM (args := [_, _]) Try.func9 rfl (Nat.le_of_ble_eq_true rfl) ?_
  have HC : Chg [] w w := .refl _
  refine x_seq ?_
  refine x_region rfl ?_
  refine w_plain rfl (st_box (v := S _) (vs := [_]) rfl rfl ?_)
  intro b3 w1 e2 c3 hb4
  have ge_b3 : w.heap.size ≤ b3 := by rw [e2]; exact HC.size
  replace HC := HC.then c3
  replace hl := hl.tr0 c3
  clear e2
  refine w_plain rfl (st_assign (v := .slice _ _ _) rfl ?_)
  refine wops_nil ?_
  refine then_n ?_
  refine x_seq ?_
  refine x_region rfl ?_
  refine w_plain rfl (st_bld (ps := []) (vs := [_, _, _, _, _]) T.bld42 rfl ?_)
  refine w_plain rfl (st_box (v := .agg ⟨[_, _, _, _, _]⟩) (vs := [_, _, _, _, _]) rfl rfl ?_)
  intro bs w5 e6 c7 hb8
  have ge_bs : w.heap.size ≤ bs := by rw [e6]; exact HC.size
  have ne_b3_bs : b3 ≠ bs := by rw [e6]; exact hb4.ne_size
  replace HC := HC.then c7
  replace hl := hl.tr0 c7
  replace hb4 := hb4.tr0 c7
  clear e6
  refine w_plain rfl (st_alloc T.zero40 ?_)
  intro b5 w9 e10 c11 hb12
  have ge_b5 : w.heap.size ≤ b5 := by rw [e10]; exact HC.size
  have ne_b3_b5 : b3 ≠ b5 := by rw [e10]; exact hb4.ne_size
  have ne_bs_b5 : bs ≠ b5 := by rw [e10]; exact hb8.ne_size
  replace HC := HC.then c11
  replace hl := hl.tr0 c11
  replace hb4 := hb4.tr0 c11
  replace hb8 := hb8.tr0 c11
  clear e10
  refine w_plain rfl (st_store (v := .pointer _) T.size40 rfl rfl rfl hb12 rfl (Nat.le_of_ble_eq_true rfl) (by simp [Value.oneCell', S]) rfl ?_)
  intro w13 c14 hb15; simp only [setVs, setV] at hb15
  clear hb12
  replace HC := HC.then1 c14 ge_b5
  replace hl := hl.tr c14 (by intro k hx hD; simp only [List.mem_singleton] at hx; subst hx; omega)
  replace hb4 := hb4.tr1 c14 ne_b3_b5
  replace hb8 := hb8.tr1 c14 ne_bs_b5
  refine wops_nil ?_
  refine then_n ?_
  refine x_seq ?_
  refine x_seq ?_
  refine x_region rfl ?_
  refine w_plain rfl (st_move (v := .slice _ _ _) rfl ?_)
  refine w_plain rfl (st_len (ct := #[22]) (by rw [show ((#[22] : Array TypeId)[0]?).bind Try.prog.underlying = some (.slice 27) from T.u22]; rfl) rfl ?_)
  refine w_plain rfl (st_move (v := .int _ _) rfl ?_)
  refine wops_nil ?_
  refine then_n ?_
  refine x_block ?_
  have hb : Blk w13 bs [S (Sp.new).f.text, S (Sp.new).f.quoted, .bool (Sp.new).begun, .bool (Sp.new).white, .slice none (Sp.new).out.length 0] 42 := hb8
  have ho : Own fE 31 w13 (fun k => w.heap.size ≤ k ∧ k ≠ bs) none 0 Sp.new.out := Own.nil
  have hN3 : b3 < w13.heap.size := hb4.lt
  have hN5 : b5 < w13.heap.size := hb15.lt
  have hNs : bs < w13.heap.size := hb.lt
  obtain ⟨N1, hN1⟩ : ∃ N1, N1 = w13.heap.size := ⟨_, rfl⟩
  rw [← hN1] at hN3 hN5 hNs
  have hNw : w.heap.size ≤ N1 := by rw [hN1]; exact HC.size
  have hM : Marks N1 [] w13 := trivial
  have hav : Av (b3 :: b5 :: mb []) none := by simp [Av, ob]
  have hszN : N1 ≤ w13.heap.size := by omega
  refine x_loopD (ι := Nat × Sp × Option Addr × Nat) [7, 8, 13, 14, 15, 16, 17, 18, 19, 20, 21, 22, 23, 24, 25, 26, 27, 28, 29, 30, 31, 32, 33, 34, 35, 36, 37, 38, 39, 40, 41, 42, 43, 44, 45, 46, 47, 48, 49, 50, 51, 52, 53, 54, 55, 56, 57, 58, 59] (fun ⟨i, x, A, cap⟩ => [(13, .int .i64 (i : Int))]) (fun ⟨i, x, A, cap⟩ ds W => (i ≤ l.length ∧ x = spx ifs (l.take i)) ∧ (Chg [] w W) ∧ (Sl pE W (fun k => k < w.heap.size) Al l) ∧ (Blk W b3 [S ifs] 9) ∧ (Blk W b5 [.pointer (some ⟨bs, 0, none⟩)] 40) ∧ (Blk W bs [S (x).f.text, S (x).f.quoted, .bool (x).begun, .bool (x).white, .slice A (x).out.length cap] 42) ∧ (Own fE 31 W (fun k => w.heap.size ≤ k ∧ k ≠ bs) A cap (x).out) ∧ (Marks N1 ds W) ∧ (N1 ≤ W.heap.size) ∧ (Av (b3 :: b5 :: mb ds) A)) (fun ⟨i, x, A, cap⟩ => l.length - i) (0, .new, none, 0) ?_ ?_ ?_
  · exact ⟨rfl, trivial⟩
  · skip
    refine ⟨?_, HC, hl, hb4, hb15, hb, ho, hM, hszN, hav⟩
    exact ⟨Nat.zero_le _, rfl⟩
  intro ⟨i, x, A, cap⟩ G17 ds w16 ⟨⟨hi, hx⟩, HC, hl, hb4, hb15, hb, ho, hM, hszN, hav⟩
  change wp _ _ _ _ _ (upds (over _ _ G17) [(13, .int .i64 (i : Int))]) _ _
  have hok : x.ok (bulkP (l.take i)) := by rw [hx]; exact ok_spx ifs _
  have hbt1 := bulkP_take l i
  have hll := len_bulkP l
  refine x_seq ?_
  refine x_region rfl ?_
  refine w_plain rfl (st_lss rfl rfl ?_)
  refine wops_nil ?_
  refine then_n ?_
  refine x_seq ?_
  refine x_cond rfl (fun h0 => ?_) (fun h0 => ?_)
  · skip
    try simp only [decide_eq_true_eq, decide_eq_false_iff_not, Bool.not_eq_true', Bool.not_eq_false', Bool.not_true, Bool.not_false, ne_eq, Int.toNat_natCast, Int.toNat_zero, Int.toNat_one, Bool.not_eq_true, Bool.not_eq_false] at h0
    refine x_skip ?_
    refine then_n ?_
    refine x_seq ?_
    refine x_block ?_
    refine x_seq ?_
    refine x_region rfl ?_
    obtain ⟨p, hx18⟩ : ∃ x, l[i]? = some x := ⟨_, List.getElem?_eq_getElem (by omega)⟩
    obtain ⟨_, _, vs22, hA19, hR21, hC20⟩ := hl.at hx18
    obtain rfl : vs22 = [.int .i64 p.kind, S p.text] := hR21
    refine w_plain rfl (st_indexAddr T.u22 T.size27 (congrArg (fun z => Value.slice z _ _) hA19) rfl (by omega) (by omega) ?_)
    refine w_plain rfl (st_loadA (vs := [_, _]) T.agg27 rfl hC20 rfl ?_)
    refine w_plain rfl (st_alloc T.zero27 ?_)
    intro b7 w23 e24 c25 hb26
    have ge_b7 : w.heap.size ≤ b7 := by rw [e24]; exact HC.size
    have ne_b3_b7 : b3 ≠ b7 := by rw [e24]; exact hb4.ne_size
    have ne_b5_b7 : b5 ≠ b7 := by rw [e24]; exact hb15.ne_size
    have ne_bs_b7 : bs ≠ b7 := by rw [e24]; exact hb.ne_size
    have na_b7 : b7 ∉ ob A := ho.fresh (by rw [e24]; exact Nat.le_refl _)
    have nm_b7 : b7 ∉ mb ds := fun hx => by have := (hM.lt _ hx).2; omega
    replace HC := HC.then c25
    replace hl := hl.tr0 c25
    replace hb4 := hb4.tr0 c25
    replace hb15 := hb15.tr0 c25
    replace hb := hb.tr0 c25
    replace ho := ho.tr0 c25
    replace hM := hM.tr c25 (by simp)
    replace hszN := Nat.le_trans hszN c25.size
    clear e24
    refine w_plain rfl (st_store (v := .agg ⟨[_, _]⟩) T.size27 rfl rfl rfl hb26 rfl (Nat.le_of_ble_eq_true rfl) (by simp [Value.oneCell', S]) rfl ?_)
    intro w27 c28 hb29; simp only [setVs, setV] at hb29
    clear hb26
    replace HC := HC.then1 c28 ge_b7
    replace hl := hl.tr c28 (by intro k hx hD; simp only [List.mem_singleton] at hx; subst hx; omega)
    replace hb4 := hb4.tr1 c28 ne_b3_b7
    replace hb15 := hb15.tr1 c28 ne_b5_b7
    replace hb := hb.tr1 c28 ne_bs_b7
    replace ho := ho.trF flat_flat c28 (by intro k hk hx; simp only [List.mem_singleton] at hx; subst hx; exact na_b7 hk)
    replace hM := hM.tr c28 (by intro k hk hx; have hlo := (hM.lt k hk).1; simp only [List.mem_singleton] at hx; subst hx; first | omega | exact nm_b7 hk)
    replace hszN := Nat.le_trans hszN c28.size
    refine wops_nil ?_
    refine then_n ?_
    refine x_block ?_
    refine x_seq ?_
    refine x_region rfl ?_
    refine w_plain rfl (st_fieldAddr T.fld27_0 rfl ?_)
    refine w_plain rfl (st_load1 (v := .int _ _) T.one3 rfl (hb29.cell rfl) ?_)
    refine w_plain rfl (st_eql rfl rfl ?_)
    refine w_plain rfl (st_assign (v := .bool _) rfl ?_)
    refine wops_nil ?_
    refine then_n ?_
    refine x_cond rfl (fun h1 => ?_) (fun h1 => ?_)
    · skip
      try simp only [decide_eq_true_eq, decide_eq_false_iff_not, Bool.not_eq_true', Bool.not_eq_false', Bool.not_true, Bool.not_false, ne_eq, Int.toNat_natCast, Int.toNat_zero, Int.toNat_one, Bool.not_eq_true, Bool.not_eq_false] at h1
      refine x_seq ?_
      refine x_seq ?_
      refine x_region rfl ?_
      refine w_plain rfl (st_load1 (v := .pointer _) T.one40 rfl (hb15.cell rfl) ?_)
      refine w_plain rfl (st_nilCheck rfl ?_)
      refine w_plain rfl (st_fieldAddr T.fld42_1 rfl ?_)
      refine w_plain rfl (st_load1 (v := .bool _) T.one4 rfl (hb.cell rfl) ?_)
      refine wops_nil ?_
      refine then_n ?_
      refine x_cond rfl (fun h2 => ?_) (fun h2 => ?_)
      · skip
        try simp only [decide_eq_true_eq, decide_eq_false_iff_not, Bool.not_eq_true', Bool.not_eq_false', Bool.not_true, Bool.not_false, ne_eq, Int.toNat_natCast, Int.toNat_zero, Int.toNat_one, Bool.not_eq_true, Bool.not_eq_false] at h2
        refine x_region rfl ?_
        refine w_plain rfl (st_load1 (v := .pointer _) T.one40 rfl (hb15.cell rfl) ?_)
        have hin := ho.inD
        have hsz := HC.size
        have hF : ∀ k, k ∈ (b3 :: b5 :: mb ds) → k < w27.heap.size := by intro k hk; simp only [List.mem_cons] at hk; rcases hk with rfl | rfl | hk <;> first | exact hb4.lt | exact hb15.lt | exact (hM.lt k hk).2
        refine w_plain rfl (st_call (ags := [_]) rfl rfl T.ent16 rfl (tell_spec ⟨hb, ho⟩ (by omega) (by have := hok.1; omega)) ?_)
        rintro _ w30 ⟨rfl, A32, cap33, ⟨hb, ho⟩, c31, hg⟩
        replace HC := HC.trans c31 (fun k hk => (List.mem_cons.1 hk).elim (fun h => .inr (by omega)) (fun h => .inr (hin k h).1))
        replace hl := hl.tr c31 (fun k hk hD => (List.mem_cons.1 hk).elim (fun h => by omega) (fun h => by have := (hin k h).1; omega))
        replace hb4 := hb4.tr c31 (fun hx => (List.mem_cons.1 hx).elim (fun h => absurd h (by first | exact Ne.symm ne_bs_b3 | exact ne_b3_bs | omega)) (fun h => by first | exact na_b3 h | exact hav _ h (by simp [mb])))
        replace hb15 := hb15.tr c31 (fun hx => (List.mem_cons.1 hx).elim (fun h => absurd h (by first | exact Ne.symm ne_bs_b5 | exact ne_b5_bs | omega)) (fun h => by first | exact na_b5 h | exact hav _ h (by simp [mb])))
        replace hM := hM.tr c31 (fun k hk hx => (List.mem_cons.1 hx).elim (fun h => by have := (hM.lt k hk).1; omega) (fun h => hav _ h (by simp [mb, hk])))
        replace hszN := Nat.le_trans hszN c31.size
        replace hb29 := hb29.tr c31 (fun hx => (List.mem_cons.1 hx).elim (fun h => absurd h (by first | exact Ne.symm ne_bs_b7 | exact ne_b7_bs | omega)) (fun h => by first | exact na_b7 h | exact hav _ h (by simp [mb])))
        replace hav : Av (b3 :: b5 :: mb ds) A32 := hav.step hg hF
        refine wops_nil ?_
        refine then_n ?_
        refine x_region rfl ?_
        refine w_plain rfl (st_load1 (v := .pointer _) T.one40 rfl (hb15.cell rfl) ?_)
        refine w_plain rfl (st_nilCheck rfl ?_)
        refine w_plain rfl (st_fieldAddr T.fld42_2 rfl ?_)
        refine w_plain rfl (st_store (v := .bool _) T.size4 rfl rfl rfl hb rfl (Nat.le_of_ble_eq_true rfl) (by simp [Value.oneCell', S]) rfl ?_)
        intro w34 c35 hb36; simp only [setVs, setV] at hb36
        clear hb
        replace HC := HC.then1 c35 ge_bs
        replace hl := hl.tr c35 (by intro k hx hD; simp only [List.mem_singleton] at hx; subst hx; omega)
        replace hb4 := hb4.tr1 c35 ne_b3_bs
        replace hb15 := hb15.tr1 c35 (Ne.symm ne_bs_b5)
        replace ho := ho.trF flat_flat c35 (by intro k hk hx; simp only [List.mem_singleton] at hx; subst hx; exact (fun h => (ho.inD _ h).2 rfl) hk)
        replace hM := hM.tr c35 (by intro k hk hx; have hlo := (hM.lt k hk).1; simp only [List.mem_singleton] at hx; subst hx; first | omega | exact nm_bs hk)
        replace hszN := Nat.le_trans hszN c35.size
        replace hb29 := hb29.tr1 c35 (Ne.symm ne_bs_b7)
        refine wops_nil ?_
        refine block_n ?_
        refine block_n ?_
        refine then_n ?_
        refine x_region rfl ?_
        refine w_plain rfl (st_addn rfl rfl (by constructor <;> omega) ?_)
        refine w_plain rfl (st_move (v := .int _ _) rfl ?_)
        refine wops_nil ?_
        refine then_n ?_
        refine ⟨(i + 1, { x.tell with white := false }, A32, cap33), ?_, ?_, ⟨rfl, trivial⟩, ?_⟩
        · skip
          refine ⟨?_, HC, hl, hb4, hb15, hb36, ho, hM, hszN, hav⟩
          exact ⟨by omega, by rw [spx_step hx18, ← hx]; unfold Sp.piece; rw [if_pos h1, if_pos h2] <;> rfl⟩
        · skip
          show l.length - (i + 1) < l.length - i; omega
        repeat (first | exact agree_upds agree_over rfl | refine agree_upd ?_ rfl)
      · skip
        try simp only [decide_eq_true_eq, decide_eq_false_iff_not, Bool.not_eq_true', Bool.not_eq_false', Bool.not_true, Bool.not_false, ne_eq, Int.toNat_natCast, Int.toNat_zero, Int.toNat_one, Bool.not_eq_true, Bool.not_eq_false] at h2
        refine x_skip ?_
        refine then_n ?_
        refine x_region rfl ?_
        refine w_plain rfl (st_load1 (v := .pointer _) T.one40 rfl (hb15.cell rfl) ?_)
        refine w_plain rfl (st_nilCheck rfl ?_)
        refine w_plain rfl (st_fieldAddr T.fld42_2 rfl ?_)
        refine w_plain rfl (st_store (v := .bool _) T.size4 rfl rfl rfl hb rfl (Nat.le_of_ble_eq_true rfl) (by simp [Value.oneCell', S]) rfl ?_)
        intro w37 c38 hb39; simp only [setVs, setV] at hb39
        clear hb
        replace HC := HC.then1 c38 ge_bs
        replace hl := hl.tr c38 (by intro k hx hD; simp only [List.mem_singleton] at hx; subst hx; omega)
        replace hb4 := hb4.tr1 c38 ne_b3_bs
        replace hb15 := hb15.tr1 c38 (Ne.symm ne_bs_b5)
        replace ho := ho.trF flat_flat c38 (by intro k hk hx; simp only [List.mem_singleton] at hx; subst hx; exact (fun h => (ho.inD _ h).2 rfl) hk)
        replace hM := hM.tr c38 (by intro k hk hx; have hlo := (hM.lt k hk).1; simp only [List.mem_singleton] at hx; subst hx; first | omega | exact nm_bs hk)
        replace hszN := Nat.le_trans hszN c38.size
        replace hb29 := hb29.tr1 c38 (Ne.symm ne_bs_b7)
        refine wops_nil ?_
        refine block_n ?_
        refine block_n ?_
        refine then_n ?_
        refine x_region rfl ?_
        refine w_plain rfl (st_addn rfl rfl (by constructor <;> omega) ?_)
        refine w_plain rfl (st_move (v := .int _ _) rfl ?_)
        refine wops_nil ?_
        refine then_n ?_
        refine ⟨(i + 1, { x with white := false }, A, cap), ?_, ?_, ⟨rfl, trivial⟩, ?_⟩
        · skip
          refine ⟨?_, HC, hl, hb4, hb15, hb39, ho, hM, hszN, hav⟩
          exact ⟨by omega, by rw [spx_step hx18, ← hx]; unfold Sp.piece; rw [if_pos h1, if_neg (by simp [h2])] <;> rfl⟩
        · skip
          show l.length - (i + 1) < l.length - i; omega
        repeat (first | exact agree_upds agree_over rfl | refine agree_upd ?_ rfl)
    · skip
      try simp only [decide_eq_true_eq, decide_eq_false_iff_not, Bool.not_eq_true', Bool.not_eq_false', Bool.not_true, Bool.not_false, ne_eq, Int.toNat_natCast, Int.toNat_zero, Int.toNat_one, Bool.not_eq_true, Bool.not_eq_false] at h1
      refine x_seq ?_
      refine x_region rfl ?_
      refine w_plain rfl (st_fieldAddr T.fld27_0 rfl ?_)
      refine w_plain rfl (st_load1 (v := .int _ _) T.one3 rfl (hb29.cell rfl) ?_)
      refine w_plain rfl (st_eql rfl rfl ?_)
      refine w_plain rfl (st_assign (v := .bool _) rfl ?_)
      refine wops_nil ?_
      refine then_n ?_
      refine x_cond rfl (fun h3 => ?_) (fun h3 => ?_)
      · skip
        try simp only [decide_eq_true_eq, decide_eq_false_iff_not, Bool.not_eq_true', Bool.not_eq_false', Bool.not_true, Bool.not_false, ne_eq, Int.toNat_natCast, Int.toNat_zero, Int.toNat_one, Bool.not_eq_true, Bool.not_eq_false] at h3
        refine x_seq ?_
        refine x_region rfl ?_
        refine w_plain rfl (st_fieldAddr T.fld27_1 rfl ?_)
        refine w_plain rfl (st_load1 (v := S _) T.one9 rfl (hb29.cell rfl) ?_)
        refine w_plain rfl (st_load1 (v := S _) T.one9 rfl (hb4.cell rfl) ?_)
        refine w_plain rfl (st_call (ags := [_, _]) rfl rfl T.ent17 rfl (parts_spec _ _ _) ?_)
        rintro _ w40 ⟨bt, bi, rfl, hg1, hg2, hbt, hbi, c41⟩
        have hsz0 := HC.size
        have ge_bt : w.heap.size ≤ bt := by omega
        have ge_bi : w.heap.size ≤ bi := by omega
        have ne_bs_bt : bs ≠ bt := by have := hb.lt; omega
        have ne_bs_bi : bs ≠ bi := by have := hb.lt; omega
        have na_bt : bt ∉ ob A := ho.fresh hg1
        have na_bi : bi ∉ ob A := ho.fresh hg2
        replace HC := HC.then c41
        replace hl := hl.tr0 c41
        replace hb4 := hb4.tr0 c41
        replace hb15 := hb15.tr0 c41
        replace hb := hb.tr0 c41
        replace ho := ho.tr0 c41
        replace hM := hM.tr c41 (by simp)
        replace hszN := Nat.le_trans hszN c41.size
        replace hb29 := hb29.tr0 c41
        refine wops_nil ?_
        refine then_n ?_
        refine x_block ?_
        have hbk := bulkP_at hx18
        refine x_range (bs := []) (K := fun k => k = bt ∨ k = bi) (ps := [38]) (encs := fun s => [S s]) (xs := cutL ifs [] p.text) rfl T.ent28 rfl (fun _ => rfl) (by simp) (by rintro k (rfl | rfl) <;> first | exact hbt.lt | exact hbi.lt) (parts_iter hbt hbi (.inl rfl) (.inr rfl) (by omega)) ?_
        intro DD lp w42 hD1 hD2 hD3 hD4 hD5 c43
        have hsz := HC.size
        have nDs : bs ≠ DD := by have := hb.lt; omega
        have nLs : bs ≠ lp := by have := hb.lt; omega
        have nD_bt : bt ≠ DD := by have := hbt.lt; omega
        have nL_bt : bt ≠ lp := by have := hbt.lt; omega
        have nD_bi : bi ≠ DD := by have := hbi.lt; omega
        have nL_bi : bi ≠ lp := by have := hbi.lt; omega
        have nD_b3 : b3 ≠ DD := by have := hb4.lt; omega
        have nL_b3 : b3 ≠ lp := by have := hb4.lt; omega
        have nD_b5 : b5 ≠ DD := by have := hb15.lt; omega
        have nL_b5 : b5 ≠ lp := by have := hb15.lt; omega
        have nDm : DD ∉ mb ds := fun hx => by have := (hM.lt _ hx).2; omega
        have nLm : lp ∉ mb ds := fun hx => by have := (hM.lt _ hx).2; omega
        have nN : N1 ≤ DD := by have h1 := hb.lt; have h2 := hszN; omega
        have havF : Av (bt :: bi :: lp :: DD :: b3 :: b5 :: mb ds) A := ((((hav.cons (ho.fresh hD1)).cons (ho.fresh hD2)).cons na_bi).cons na_bt)
        replace HC := HC.then c43
        replace hl := hl.tr0 c43
        replace hb4 := hb4.tr0 c43
        replace hb15 := hb15.tr0 c43
        replace hb := hb.tr0 c43
        replace ho := ho.tr0 c43
        replace hM := hM.tr c43 (by simp)
        replace hszN := Nat.le_trans hszN c43.size
        replace hb29 := hb29.tr0 c43
        replace hbt := hbt.tr0 c43
        replace hbi := hbi.tr0 c43
        refine ⟨fun pre W => ∃ A' cap', SpAt w.heap.size W bs A' cap' (x.results ifs pre) ∧ Av (bt :: bi :: lp :: DD :: b3 :: b5 :: mb ds) A' ∧ DD < W.heap.size ∧ lp < W.heap.size ∧ Blk W bt [S p.text] 9 ∧ Blk W bi [S ifs] 9 ∧ Blk W b3 [S ifs] 9 ∧ Blk W b5 [.pointer (some ⟨bs, 0, none⟩)] 40 ∧ Marks N1 ds W ∧ Sl pE W (fun k => k < w.heap.size) Al l ∧ Chg [] w W ∧ N1 ≤ W.heap.size, fun _ _ _ => False, ⟨A, cap, ⟨hb, ho⟩, havF, hD4, hD5, hbt, hbi, hb4, hb15, hM, hl, HC, hszN⟩, ?_, fun _ _ _ _ h _ => h, ?_, ?_, fun _ _ _ h => h.elim⟩
        · rintro pre Wa Wb ⟨A2, cap2, ⟨hb, ho⟩, hav, hDl, hLl, hbt, hbi, hb3, hb5, hM, hl, HC, hszN⟩ cL
          refine ⟨A2, cap2, ⟨hb.tr1 cL nLs, ho.trB flat_flat cL (fun hx => hav _ hx (by simp))⟩, hav, Nat.lt_of_lt_of_le hDl cL.size, Nat.lt_of_lt_of_le hLl cL.size, hbt.tr1 cL nL_bt, hbi.tr1 cL nL_bi, hb3.tr1 cL nL_b3, hb5.tr1 cL nL_b5, hM.tr cL (by intro k hk hx; simp at hx; subst hx; exact nLm hk), hl.tr cL (by intro k hx hD; simp at hx; omega), HC.then1 cL (by omega), Nat.le_trans hszN cL.size⟩
        · rintro pre tt rest Wa hxs ⟨A2, cap2, ⟨hb, ho⟩, hav, hDl, hLl, hbt, hbi, hb3, hb5, hM, hl, HC, hszN⟩ ⟨rec, hrec⟩
          have hby : bytesL pre + tt.length + bytesL rest = p.text.length := by have := cutL_bytes ifs p.text []; rw [hxs, bytesL_append, bytesL] at this; simp at this; omega
          have hne : ∀ t, t ∈ pre ++ tt :: rest → t ≠ [] := by rw [← hxs]; exact cutL_ne ifs _ _
          have hok2 := ok_results hok ifs (ts := pre) (fun t ht => hne t (by simp [ht]))
          have hpos : 0 < tt.length := List.length_pos_iff.2 (hne tt (by simp))
          refine x_region rfl ?_
          refine w_plain rfl (st_assign (v := S _) rfl ?_)
          refine wops_nil ?_
          refine then_n ?_
          refine ⟨⟨Nat.le_refl _, fun _ _ _ => rfl⟩, ?_⟩
          intro ds1 Wc cL hrec2
          replace hbt := hbt.tr1 cL nL_bt
          replace hbi := hbi.tr1 cL nL_bi
          replace hb3 := hb3.tr1 cL nL_b3
          replace hb5 := hb5.tr1 cL nL_b5
          replace hb := hb.tr1 cL nLs
          replace ho := ho.trB flat_flat cL (fun hx => hav _ hx (by simp))
          replace hM := hM.tr cL (by intro k hk hx; simp at hx; subst hx; exact nLm hk)
          replace hl := hl.tr cL (by intro k hx hD; simp at hx; omega)
          replace HC := HC.then1 cL (by omega)
          replace hszN := Nat.le_trans hszN cL.size
          replace hDl := Nat.lt_of_lt_of_le hDl cL.size
          replace hLl := Nat.lt_of_lt_of_le hLl cL.size
          refine x_block ?_
          refine x_region rfl ?_
          refine w_plain rfl (st_load1 (v := .pointer _) T.one40 rfl (hb5.cell rfl) ?_)
          refine w_plain rfl (st_move (v := S _) rfl ?_)
          refine w_plain rfl (st_load1 (v := S _) T.one9 rfl (hb3.cell rfl) ?_)
          have hin := ho.inD
          have hsz := HC.size
          have hF : ∀ k, k ∈ (bt :: bi :: lp :: DD :: b3 :: b5 :: mb ds) → k < Wc.heap.size := by intro k hk; simp only [List.mem_cons] at hk; rcases hk with rfl | rfl | rfl | rfl | rfl | rfl | hk <;> first | exact hbt.lt | exact hbi.lt | exact hLl | exact hDl | exact hb3.lt | exact hb5.lt | exact (hM.lt k hk).2
          refine w_plain rfl (st_call (ags := [_, _, _]) rfl rfl T.ent18 rfl (result_spec tt ifs ⟨hb, ho⟩ (by omega) (by have := hok2.1; omega) (by have := hok2.1; omega) (by have := hok2.1; have := hok2.2; omega) (by omega) hpos) ?_)
          rintro _ w44 ⟨rfl, A3, cap3, ⟨hb, ho⟩, c45, hg⟩
          have hkept : Kept (fun k => k = lp ∨ k = DD ∨ k = bt ∨ k = bi) Wc w44 := .of_chg c45 (fun k hk => (List.mem_cons.1 hk).elim (fun h => by subst h; rintro (h | h | h | h) <;> first | exact nLs h | exact nDs h | exact ne_bs_bt h | exact ne_bs_bi h) (fun h => by rintro (rfl | rfl | rfl | rfl) <;> exact hav _ h (by simp)))
          replace hbt := hbt.tr c45 (fun hx => (List.mem_cons.1 hx).elim (fun h => absurd h (by first | exact Ne.symm ne_bs_bt | exact ne_bt_bs | omega)) (fun h => by first | exact na_bt h | exact hav _ h (by simp [mb])))
          replace hbi := hbi.tr c45 (fun hx => (List.mem_cons.1 hx).elim (fun h => absurd h (by first | exact Ne.symm ne_bs_bi | exact ne_bi_bs | omega)) (fun h => by first | exact na_bi h | exact hav _ h (by simp [mb])))
          replace hb3 := hb3.tr c45 (fun hx => (List.mem_cons.1 hx).elim (fun h => absurd h (by first | exact Ne.symm ne_bs_b3 | exact ne_b3_bs | omega)) (fun h => by first | exact na_b3 h | exact hav _ h (by simp [mb])))
          replace hb5 := hb5.tr c45 (fun hx => (List.mem_cons.1 hx).elim (fun h => absurd h (by first | exact Ne.symm ne_bs_b5 | exact ne_b5_bs | omega)) (fun h => by first | exact na_b5 h | exact hav _ h (by simp [mb])))
          replace hM := hM.tr c45 (fun k hk hx => (List.mem_cons.1 hx).elim (fun h => by have := (hM.lt k hk).1; omega) (fun h => hav _ h (by simp [mb, hk])))
          replace hl := hl.tr c45 (fun k hk hD => (List.mem_cons.1 hk).elim (fun h => by omega) (fun h => by have := (hin k h).1; omega))
          replace HC := HC.trans c45 (fun k hk => (List.mem_cons.1 hk).elim (fun h => .inr (by omega)) (fun h => .inr (hin k h).1))
          replace hszN := Nat.le_trans hszN c45.size
          replace hav : Av (bt :: bi :: lp :: DD :: b3 :: b5 :: mb ds) A3 := hav.step hg hF
          replace hDl := Nat.lt_of_lt_of_le hDl c45.size
          replace hLl := Nat.lt_of_lt_of_le hLl c45.size
          refine wops_nil ?_
          refine block_n ?_
          refine ⟨hkept, ⟨A3, cap3, ⟨by rw [show x.results ifs (pre ++ [tt]) = (x.results ifs pre).result tt ifs by simp [Sp.results]]; exact hb, by rw [show x.results ifs (pre ++ [tt]) = (x.results ifs pre).result tt ifs by simp [Sp.results]]; exact ho⟩, hav, hDl, hLl, hbt, hbi, hb3, hb5, hM, hl, HC, hszN⟩⟩
        · rintro W9 ⟨A2, cap2, ⟨hb, ho⟩, hav, hDl, hLl, hbt, hbi, hb3, hb5, hM, hl, HC, hszN⟩ hDef
          replace hM := hM.cons nN hDef nDm
          replace hav : Av (b3 :: b5 :: mb (mk DD :: ds)) A2 := hav.sub (by intro k hk; rw [mb_cons] at hk; simp only [List.mem_cons] at hk ⊢; rcases hk with h | h | h | h <;> simp [h])
          replace hM : Marks N1 (mk DD :: ds) W9 := hM
          refine block_n ?_
          refine block_n ?_
          refine block_n ?_
          refine then_n ?_
          refine x_region rfl ?_
          refine w_plain rfl (st_addn rfl rfl (by constructor <;> omega) ?_)
          refine w_plain rfl (st_move (v := .int _ _) rfl ?_)
          refine wops_nil ?_
          refine then_n ?_
          refine ⟨(i + 1, x.results ifs (cutL ifs [] p.text), A2, cap2), ?_, ?_, ⟨rfl, trivial⟩, ?_⟩
          · skip
            refine ⟨?_, HC, hl, hb3, hb5, hb, ho, hM, hszN, hav⟩
            exact ⟨by omega, by rw [spx_step hx18, ← hx]; unfold Sp.piece; rw [if_neg h1, if_pos h3] <;> rfl⟩
          · skip
            show l.length - (i + 1) < l.length - i; omega
          repeat (first | exact agree_upds agree_over rfl | refine agree_upd ?_ rfl)
      · skip
        try simp only [decide_eq_true_eq, decide_eq_false_iff_not, Bool.not_eq_true', Bool.not_eq_false', Bool.not_true, Bool.not_false, ne_eq, Int.toNat_natCast, Int.toNat_zero, Int.toNat_one, Bool.not_eq_true, Bool.not_eq_false] at h3
        refine x_seq ?_
        refine x_region rfl ?_
        refine w_plain rfl (st_fieldAddr T.fld27_0 rfl ?_)
        refine w_plain rfl (st_load1 (v := .int _ _) T.one3 rfl (hb29.cell rfl) ?_)
        refine w_plain rfl (st_eql rfl rfl ?_)
        refine w_plain rfl (st_move (v := .bool _) rfl ?_)
        refine w_split (d := 47) rfl (fun g46 => ?_) (fun g46 => ?_)
        · skip
          try simp only [decide_eq_true_eq, decide_eq_false_iff_not, Bool.not_eq_true', Bool.not_eq_false', Bool.not_true, Bool.not_false, ne_eq, Int.toNat_natCast, Int.toNat_zero, Int.toNat_one, Bool.not_eq_true, Bool.not_eq_false] at g46
          refine w_no 3 47 false rfl rfl rfl (by first | exact .inl rfl | exact .inr rfl) ?_
          refine w_no 3 47 false rfl rfl rfl (by first | exact .inl rfl | exact .inr rfl) ?_
          refine w_no 3 47 false rfl rfl rfl (by first | exact .inl rfl | exact .inr rfl) ?_
          refine w_plain rfl (st_pick (b := true) (v := .bool _) rfl rfl ?_)
          refine w_plain rfl (st_assign (v := .bool _) rfl ?_)
          refine wops_nil ?_
          refine then_n ?_
          refine x_cond (t := true) rfl (fun h4 => ?_) (fun h4 => ?_)
          rotate_left
          · exact absurd h4 (by decide)
          refine x_draw [(0, 0), (1, 0), (2, 0), (3, 0), (4, 0), (5, 1), (6, 2)] T.mixed rfl rfl rfl (fun W => W.heap[b3]? = w27.heap[b3]? ∧ W.heap[b5]? = w27.heap[b5]? ∧ W.heap[bs]? = w27.heap[bs]? ∧ W.heap[b7]? = w27.heap[b7]? ∧ True) ⟨rfl, rfl, rfl, rfl, trivial⟩ ?_
          have o49 := hb4
          have o50 := hb15
          have o51 := hb
          have o52 := hb29
          have c48 := Chg.drew w27
          generalize World.drew w27 = w47 at c48 ⊢
          replace HC := HC.then c48
          replace hl := hl.tr0 c48
          replace hb4 := hb4.tr0 c48
          replace hb15 := hb15.tr0 c48
          replace hb := hb.tr0 c48
          replace ho := ho.tr0 c48
          replace hM := hM.tr c48 (by simp)
          replace hszN := Nat.le_trans hszN c48.size
          replace hb29 := hb29.tr0 c48
          refine sq_q rfl (fun W hT => r_load1 (v := .pointer _) T.one40 rfl (Blk.cell (show Blk W b5 _ _ from hT.2.1.trans o50) rfl)) ?_
          refine sq_q rfl (fun W hT => r_fieldAddr T.fld27_1 rfl) ?_
          refine sq_q rfl (fun W hT => r_load1 (v := S _) T.one9 rfl (Blk.cell (show Blk W b7 _ _ from hT.2.2.2.1.trans o52) rfl)) ?_
          refine sq_q rfl (fun W hT => r_fieldAddr T.fld27_0 rfl) ?_
          refine sq_q rfl (fun W hT => r_load1 (v := .int _ _) T.one3 rfl (Blk.cell (show Blk W b7 _ _ from hT.2.2.2.1.trans o52) rfl)) ?_
          refine sq_call1 rfl (r_call (ags := [_]) rfl rfl T.ent20 rfl) (mark_spec _ _) ?_
          rintro _ w53 ⟨rfl, c54⟩
          replace HC := HC.then c54
          replace hl := hl.tr0 c54
          replace hb4 := hb4.tr0 c54
          replace hb15 := hb15.tr0 c54
          replace hb := hb.tr0 c54
          replace ho := ho.tr0 c54
          replace hM := hM.tr c54 (by simp)
          replace hszN := Nat.le_trans hszN c54.size
          replace hb29 := hb29.tr0 c54
          refine ⟨_, fun _ h => h, ⟨(Eq.trans hb4 o49.symm), (Eq.trans hb15 o50.symm), (Eq.trans hb o51.symm), (Eq.trans hb29 o52.symm), trivial⟩, ?_⟩
          refine sq_call2 rfl (r_call (ags := [_, _, _]) rfl rfl T.ent19 rfl) (put_spec _ _ ⟨hb, ho⟩ (by have := hok.1; omega) (by have := hok.1; have := hok.2; omega) (by have := bulkP_at hx18; omega)) ?_
          rintro _ w55 ⟨rfl, ⟨hb, ho⟩, c56⟩
          replace HC := HC.then1 c56 ge_bs
          replace hl := hl.tr c56 (by intro k hx hD; simp only [List.mem_singleton] at hx; subst hx; omega)
          replace hb4 := hb4.tr1 c56 ne_b3_bs
          replace hb15 := hb15.tr1 c56 (Ne.symm ne_bs_b5)
          replace hM := hM.tr c56 (by intro k hk hx; have hlo := (hM.lt k hk).1; simp only [List.mem_singleton] at hx; subst hx; first | omega | exact nm_bs hk)
          replace hszN := Nat.le_trans hszN c56.size
          replace hb29 := hb29.tr1 c56 (Ne.symm ne_bs_b7)
          clear o49
          clear o50
          clear o51
          clear o52
          refine sq_nil ?_
          refine block_n ?_
          refine block_n ?_
          refine then_n ?_
          refine x_region rfl ?_
          refine w_plain rfl (st_addn rfl rfl (by constructor <;> omega) ?_)
          refine w_plain rfl (st_move (v := .int _ _) rfl ?_)
          refine wops_nil ?_
          refine then_n ?_
          refine ⟨(i + 1, x.put p.text (if p.kind = 1 then 49 else 48), A, cap), ?_, ?_, ⟨rfl, trivial⟩, ?_⟩
          · skip
            refine ⟨?_, HC, hl, hb4, hb15, hb, ho, hM, hszN, hav⟩
            exact ⟨by omega, by rw [spx_step hx18, ← hx]; unfold Sp.piece; rw [if_neg h1, if_neg h3, if_pos (show p.kind = 1 ∨ ¬ p.text = [] from by first | (left; assumption) | (right; assumption))] <;> rfl⟩
          · skip
            show l.length - (i + 1) < l.length - i; omega
          repeat (first | exact agree_upds agree_over rfl | refine agree_upd ?_ rfl)
        · skip
          try simp only [decide_eq_true_eq, decide_eq_false_iff_not, Bool.not_eq_true', Bool.not_eq_false', Bool.not_true, Bool.not_false, ne_eq, Int.toNat_natCast, Int.toNat_zero, Int.toNat_one, Bool.not_eq_true, Bool.not_eq_false] at g46
          refine w_yes 3 47 false rfl rfl rfl rfl (st_fieldAddr T.fld27_1 rfl ?_)
          refine w_yes 3 47 false rfl rfl rfl rfl (st_load1 (v := S _) T.one9 rfl (hb29.cell rfl) ?_)
          refine w_yes 3 47 false rfl rfl rfl rfl (st_sneq rfl rfl ?_)
          refine w_plain rfl (st_pick (b := false) (v := .bool _) rfl rfl ?_)
          refine w_plain rfl (st_assign (v := .bool _) rfl ?_)
          refine wops_nil ?_
          refine then_n ?_
          refine x_cond rfl (fun h4 => ?_) (fun h4 => ?_)
          · skip
            try simp only [decide_eq_true_eq, decide_eq_false_iff_not, Bool.not_eq_true', Bool.not_eq_false', Bool.not_true, Bool.not_false, ne_eq, Int.toNat_natCast, Int.toNat_zero, Int.toNat_one, Bool.not_eq_true, Bool.not_eq_false] at h4
            refine x_draw [(0, 0), (1, 0), (2, 0), (3, 0), (4, 0), (5, 1), (6, 2)] T.mixed rfl rfl rfl (fun W => W.heap[b3]? = w27.heap[b3]? ∧ W.heap[b5]? = w27.heap[b5]? ∧ W.heap[bs]? = w27.heap[bs]? ∧ W.heap[b7]? = w27.heap[b7]? ∧ True) ⟨rfl, rfl, rfl, rfl, trivial⟩ ?_
            have o59 := hb4
            have o60 := hb15
            have o61 := hb
            have o62 := hb29
            have c58 := Chg.drew w27
            generalize World.drew w27 = w57 at c58 ⊢
            replace HC := HC.then c58
            replace hl := hl.tr0 c58
            replace hb4 := hb4.tr0 c58
            replace hb15 := hb15.tr0 c58
            replace hb := hb.tr0 c58
            replace ho := ho.tr0 c58
            replace hM := hM.tr c58 (by simp)
            replace hszN := Nat.le_trans hszN c58.size
            replace hb29 := hb29.tr0 c58
            refine sq_q rfl (fun W hT => r_load1 (v := .pointer _) T.one40 rfl (Blk.cell (show Blk W b5 _ _ from hT.2.1.trans o60) rfl)) ?_
            refine sq_q rfl (fun W hT => r_fieldAddr T.fld27_1 rfl) ?_
            refine sq_q rfl (fun W hT => r_load1 (v := S _) T.one9 rfl (Blk.cell (show Blk W b7 _ _ from hT.2.2.2.1.trans o62) rfl)) ?_
            refine sq_q rfl (fun W hT => r_fieldAddr T.fld27_0 rfl) ?_
            refine sq_q rfl (fun W hT => r_load1 (v := .int _ _) T.one3 rfl (Blk.cell (show Blk W b7 _ _ from hT.2.2.2.1.trans o62) rfl)) ?_
            refine sq_call1 rfl (r_call (ags := [_]) rfl rfl T.ent20 rfl) (mark_spec _ _) ?_
            rintro _ w63 ⟨rfl, c64⟩
            replace HC := HC.then c64
            replace hl := hl.tr0 c64
            replace hb4 := hb4.tr0 c64
            replace hb15 := hb15.tr0 c64
            replace hb := hb.tr0 c64
            replace ho := ho.tr0 c64
            replace hM := hM.tr c64 (by simp)
            replace hszN := Nat.le_trans hszN c64.size
            replace hb29 := hb29.tr0 c64
            refine ⟨_, fun _ h => h, ⟨(Eq.trans hb4 o59.symm), (Eq.trans hb15 o60.symm), (Eq.trans hb o61.symm), (Eq.trans hb29 o62.symm), trivial⟩, ?_⟩
            refine sq_call2 rfl (r_call (ags := [_, _, _]) rfl rfl T.ent19 rfl) (put_spec _ _ ⟨hb, ho⟩ (by have := hok.1; omega) (by have := hok.1; have := hok.2; omega) (by have := bulkP_at hx18; omega)) ?_
            rintro _ w65 ⟨rfl, ⟨hb, ho⟩, c66⟩
            replace HC := HC.then1 c66 ge_bs
            replace hl := hl.tr c66 (by intro k hx hD; simp only [List.mem_singleton] at hx; subst hx; omega)
            replace hb4 := hb4.tr1 c66 ne_b3_bs
            replace hb15 := hb15.tr1 c66 (Ne.symm ne_bs_b5)
            replace hM := hM.tr c66 (by intro k hk hx; have hlo := (hM.lt k hk).1; simp only [List.mem_singleton] at hx; subst hx; first | omega | exact nm_bs hk)
            replace hszN := Nat.le_trans hszN c66.size
            replace hb29 := hb29.tr1 c66 (Ne.symm ne_bs_b7)
            clear o59
            clear o60
            clear o61
            clear o62
            refine sq_nil ?_
            refine block_n ?_
            refine block_n ?_
            refine then_n ?_
            refine x_region rfl ?_
            refine w_plain rfl (st_addn rfl rfl (by constructor <;> omega) ?_)
            refine w_plain rfl (st_move (v := .int _ _) rfl ?_)
            refine wops_nil ?_
            refine then_n ?_
            refine ⟨(i + 1, x.put p.text (if p.kind = 1 then 49 else 48), A, cap), ?_, ?_, ⟨rfl, trivial⟩, ?_⟩
            · skip
              refine ⟨?_, HC, hl, hb4, hb15, hb, ho, hM, hszN, hav⟩
              exact ⟨by omega, by rw [spx_step hx18, ← hx]; unfold Sp.piece; rw [if_neg h1, if_neg h3, if_pos (show p.kind = 1 ∨ ¬ p.text = [] from by first | (left; assumption) | (right; assumption))] <;> rfl⟩
            · skip
              show l.length - (i + 1) < l.length - i; omega
            repeat (first | exact agree_upds agree_over rfl | refine agree_upd ?_ rfl)
          · skip
            try simp only [decide_eq_true_eq, decide_eq_false_iff_not, Bool.not_eq_true', Bool.not_eq_false', Bool.not_true, Bool.not_false, ne_eq, Int.toNat_natCast, Int.toNat_zero, Int.toNat_one, Bool.not_eq_true, Bool.not_eq_false] at h4
            refine x_skip ?_
            refine block_n ?_
            refine block_n ?_
            refine then_n ?_
            refine x_region rfl ?_
            refine w_plain rfl (st_addn rfl rfl (by constructor <;> omega) ?_)
            refine w_plain rfl (st_move (v := .int _ _) rfl ?_)
            refine wops_nil ?_
            refine then_n ?_
            refine ⟨(i + 1, x, A, cap), ?_, ?_, ⟨rfl, trivial⟩, ?_⟩
            · skip
              refine ⟨?_, HC, hl, hb4, hb15, hb, ho, hM, hszN, hav⟩
              exact ⟨by omega, by rw [spx_step hx18, ← hx]; unfold Sp.piece; rw [if_neg h1, if_neg h3, if_neg (show ¬ (p.kind = 1 ∨ ¬ p.text = []) from by rintro (h | h) <;> contradiction)] <;> rfl⟩
            · skip
              show l.length - (i + 1) < l.length - i; omega
            repeat (first | exact agree_upds agree_over rfl | refine agree_upd ?_ rfl)
  · skip
    try simp only [decide_eq_true_eq, decide_eq_false_iff_not, Bool.not_eq_true', Bool.not_eq_false', Bool.not_true, Bool.not_false, ne_eq, Int.toNat_natCast, Int.toNat_zero, Int.toNat_one, Bool.not_eq_true, Bool.not_eq_false] at h0
    refine x_exit ?_
    refine then_x ?_
    refine then_x ?_
    refine block_x ?_
    refine then_n ?_
    refine x_seq ?_
    refine x_seq ?_
    refine x_region rfl ?_
    refine w_plain rfl (st_load1 (v := .pointer _) T.one40 rfl (hb15.cell rfl) ?_)
    refine w_plain rfl (st_nilCheck rfl ?_)
    refine w_plain rfl (st_fieldAddr T.fld42_1 rfl ?_)
    refine w_plain rfl (st_load1 (v := .bool _) T.one4 rfl (hb.cell rfl) ?_)
    refine wops_nil ?_
    refine then_n ?_
    refine x_cond rfl (fun h5 => ?_) (fun h5 => ?_)
    · skip
      try simp only [decide_eq_true_eq, decide_eq_false_iff_not, Bool.not_eq_true', Bool.not_eq_false', Bool.not_true, Bool.not_false, ne_eq, Int.toNat_natCast, Int.toNat_zero, Int.toNat_one, Bool.not_eq_true, Bool.not_eq_false] at h5
      refine x_region rfl ?_
      refine w_plain rfl (st_load1 (v := .pointer _) T.one40 rfl (hb15.cell rfl) ?_)
      have hin := ho.inD
      have hsz := HC.size
      have hF : ∀ k, k ∈ (b3 :: b5 :: mb ds) → k < w16.heap.size := by intro k hk; simp only [List.mem_cons] at hk; rcases hk with rfl | rfl | hk <;> first | exact hb4.lt | exact hb15.lt | exact (hM.lt k hk).2
      refine w_plain rfl (st_call (ags := [_]) rfl rfl T.ent16 rfl (tell_spec ⟨hb, ho⟩ (by omega) (by have := hok.1; omega)) ?_)
      rintro _ w67 ⟨rfl, A69, cap70, ⟨hb, ho⟩, c68, hg⟩
      replace HC := HC.trans c68 (fun k hk => (List.mem_cons.1 hk).elim (fun h => .inr (by omega)) (fun h => .inr (hin k h).1))
      replace hl := hl.tr c68 (fun k hk hD => (List.mem_cons.1 hk).elim (fun h => by omega) (fun h => by have := (hin k h).1; omega))
      replace hb4 := hb4.tr c68 (fun hx => (List.mem_cons.1 hx).elim (fun h => absurd h (by first | exact Ne.symm ne_bs_b3 | exact ne_b3_bs | omega)) (fun h => by first | exact na_b3 h | exact hav _ h (by simp [mb])))
      replace hb15 := hb15.tr c68 (fun hx => (List.mem_cons.1 hx).elim (fun h => absurd h (by first | exact Ne.symm ne_bs_b5 | exact ne_b5_bs | omega)) (fun h => by first | exact na_b5 h | exact hav _ h (by simp [mb])))
      replace hM := hM.tr c68 (fun k hk hx => (List.mem_cons.1 hx).elim (fun h => by have := (hM.lt k hk).1; omega) (fun h => hav _ h (by simp [mb, hk])))
      replace hszN := Nat.le_trans hszN c68.size
      replace hav : Av (b3 :: b5 :: mb ds) A69 := hav.step hg hF
      refine wops_nil ?_
      refine then_n ?_
      refine x_seq ?_
      refine x_region rfl ?_
      refine w_plain rfl (st_load1 (v := .pointer _) T.one40 rfl (hb15.cell rfl) ?_)
      refine w_plain rfl (st_nilCheck rfl ?_)
      refine w_plain rfl (st_fieldAddr T.fld42_3 rfl ?_)
      refine w_plain rfl (st_load1 (v := .slice _ _ _) T.one28 rfl (hb.cell rfl) ?_)
      refine w_plain rfl (st_assign (v := .slice _ _ _) rfl ?_)
      refine wops_nil ?_
      refine then_n ?_
      refine x_ret ?_
      refine retM_marks hM ?_
      intro w99 c99
      have hlm := hM.lt
      have hin9 := ho.inD
      have ho9 : Own fE 31 w99 (fun k => w.heap.size ≤ k) A69 cap70 _ := (ho.trF flat_flat c99 (fun k hk hx => hav k hk (by simp [hx]))).mono (fun k _ h => h.1)
      have HC9 := HC.trans c99 (by intro k hk; exact .inr (by have := (hlm k hk).1; omega))
      refine ret_tmp (v := .slice _ _ _) rfl rfl ?_
      have hxl : (spx ifs l).fin.out = (x.tell).out := by unfold Sp.fin; have hil : i = l.length := (by omega); rw [hil, List.take_length] at hx; rw [← hx]; rw [if_pos h5]
      refine ⟨A69, cap70, ?_, ?_, ?_, ?_, HC9⟩
      · show _ = Value.slice _ (splitL l ifs).length _; rw [splitL, hxl] <;> rfl
      · rw [splitL, hxl]; exact ho9.le.1
      · exact ho9.le.2
      · rw [splitL, hxl]; exact ho9.sl
    · skip
      try simp only [decide_eq_true_eq, decide_eq_false_iff_not, Bool.not_eq_true', Bool.not_eq_false', Bool.not_true, Bool.not_false, ne_eq, Int.toNat_natCast, Int.toNat_zero, Int.toNat_one, Bool.not_eq_true, Bool.not_eq_false] at h5
      refine x_skip ?_
      refine then_n ?_
      refine x_seq ?_
      refine x_region rfl ?_
      refine w_plain rfl (st_load1 (v := .pointer _) T.one40 rfl (hb15.cell rfl) ?_)
      refine w_plain rfl (st_nilCheck rfl ?_)
      refine w_plain rfl (st_fieldAddr T.fld42_3 rfl ?_)
      refine w_plain rfl (st_load1 (v := .slice _ _ _) T.one28 rfl (hb.cell rfl) ?_)
      refine w_plain rfl (st_assign (v := .slice _ _ _) rfl ?_)
      refine wops_nil ?_
      refine then_n ?_
      refine x_ret ?_
      refine retM_marks hM ?_
      intro w99 c99
      have hlm := hM.lt
      have hin9 := ho.inD
      have ho9 : Own fE 31 w99 (fun k => w.heap.size ≤ k) A cap _ := (ho.trF flat_flat c99 (fun k hk hx => hav k hk (by simp [hx]))).mono (fun k _ h => h.1)
      have HC9 := HC.trans c99 (by intro k hk; exact .inr (by have := (hlm k hk).1; omega))
      refine ret_tmp (v := .slice _ _ _) rfl rfl ?_
      have hxl : (spx ifs l).fin.out = (x).out := by unfold Sp.fin; have hil : i = l.length := (by omega); rw [hil, List.take_length] at hx; rw [← hx]; rw [if_neg (by simp [h5])]
      refine ⟨A, cap, ?_, ?_, ?_, ?_, HC9⟩
      · show _ = Value.slice _ (splitL l ifs).length _; rw [splitL, hxl] <;> rfl
      · rw [splitL, hxl]; exact ho9.le.1
      · exact ho9.le.2
      · rw [splitL, hxl]; exact ho9.sl

end Go.Proofs.Ytbnbkndeodankaa.K
