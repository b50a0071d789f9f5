/- Walks. -/
import Derived.Test.YtbnbkndeodankaaFd
import Derived.Test.YtbnbkndeodankaaFm
import Derived.Test.YtbnbkndeodankaaTy
set_option linter.unusedVariables false
set_option linter.unusedSimpArgs false
set_option autoImplicit false
set_option maxRecDepth 20000
namespace Go.Proofs.Ytbnbkndeodankaa.K
open Go Go.Proofs Go.RowKit

theorem FieldMarks_spec (s : Bytes) (m : UInt8) (w : World) : CallR Try.prog 4 #[S s, .int .u8 (m.toNat : Int)] w fun v w' => v = .bool true ∧ Chg [] w w' := by
  have hm8 := m.toNat_lt
  refine callR_of_wp (args := [_, _]) Try.func4 rfl (Nat.le_of_ble_eq_true rfl) ?_
  have HC : Chg [] w w := .refl _
  refine x_seq ?_
  refine x_region rfl ?_
  refine w_plain rfl (st_assign (v := .bool _) rfl ?_)
  refine wops_nil ?_
  refine then_n ?_
  refine x_seq ?_
  refine x_seq ?_
  refine x_region rfl ?_
  refine w_plain rfl (st_move (v := S _) rfl ?_)
  refine w_plain rfl (st_slen (ct := #[9]) T.u9 rfl ?_)
  refine w_plain rfl (st_gtr rfl rfl ?_)
  refine w_plain rfl (st_move (v := .bool _) rfl ?_)
  refine w_split (d := 13) rfl (fun g1 => ?_) (fun g1 => ?_)
  · skip
    try simp only [decide_eq_true_eq, decide_eq_false_iff_not, Bool.not_eq_true', Bool.not_eq_false', Bool.not_true, Bool.not_false, ne_eq, Int.toNat_natCast, Int.toNat_zero, Int.toNat_one, Bool.not_eq_true, Bool.not_eq_false] at g1
    refine w_no 3 13 false rfl rfl rfl (by first | exact .inl rfl | exact .inr rfl) ?_
    refine w_no 3 13 false rfl rfl rfl (by first | exact .inl rfl | exact .inr rfl) ?_
    refine w_plain rfl (st_pick (b := true) (v := .bool _) rfl rfl ?_)
    refine w_plain rfl (st_move (v := .bool _) rfl ?_)
    refine w_no 7 17 false rfl rfl rfl (by first | exact .inl rfl | exact .inr rfl) ?_
    refine w_no 7 17 false rfl rfl rfl (by first | exact .inl rfl | exact .inr rfl) ?_
    refine w_plain rfl (st_pick (b := true) (v := .bool _) rfl rfl ?_)
    refine w_plain rfl (st_move (v := .bool _) rfl ?_)
    refine w_no 11 21 false rfl rfl rfl (by first | exact .inl rfl | exact .inr rfl) ?_
    refine w_no 11 21 false rfl rfl rfl (by first | exact .inl rfl | exact .inr rfl) ?_
    refine w_plain rfl (st_pick (b := true) (v := .bool _) rfl rfl ?_)
    refine wops_nil ?_
    refine then_n ?_
    refine x_cond (t := true) rfl (fun h0 => ?_) (fun h0 => ?_)
    rotate_left
    · exact absurd h0 (by decide)
    refine x_seq ?_
    refine x_region rfl ?_
    refine w_plain rfl (st_call (ags := []) rfl rfl T.ent8 rfl (awake_spec _) ?_)
    rintro _ w2 ⟨rfl, c3⟩
    replace HC := HC.then c3
    refine w_plain rfl (st_assign (v := .bool _) rfl ?_)
    refine wops_nil ?_
    refine then_n ?_
    refine x_ret ?_
    refine then_r ?_
    refine ret_tmp (v := .bool _) rfl rfl ?_
    exact ⟨rfl, HC⟩
  · skip
    try simp only [decide_eq_true_eq, decide_eq_false_iff_not, Bool.not_eq_true', Bool.not_eq_false', Bool.not_true, Bool.not_false, ne_eq, Int.toNat_natCast, Int.toNat_zero, Int.toNat_one, Bool.not_eq_true, Bool.not_eq_false] at g1
    refine w_yes 3 13 false rfl rfl rfl rfl (st_move (v := .int _ _) rfl ?_)
    refine w_yes 3 13 false rfl rfl rfl rfl (st_eql rfl rfl ?_)
    refine w_plain rfl (st_pick (b := false) (v := .bool _) rfl rfl ?_)
    refine w_plain rfl (st_move (v := .bool _) rfl ?_)
    refine w_split (d := 17) rfl (fun g4 => ?_) (fun g4 => ?_)
    · skip
      try simp only [decide_eq_true_eq, decide_eq_false_iff_not, Bool.not_eq_true', Bool.not_eq_false', Bool.not_true, Bool.not_false, ne_eq, Int.toNat_natCast, Int.toNat_zero, Int.toNat_one, Bool.not_eq_true, Bool.not_eq_false] at g4
      refine w_no 7 17 false rfl rfl rfl (by first | exact .inl rfl | exact .inr rfl) ?_
      refine w_no 7 17 false rfl rfl rfl (by first | exact .inl rfl | exact .inr rfl) ?_
      refine w_plain rfl (st_pick (b := true) (v := .bool _) rfl rfl ?_)
      refine w_plain rfl (st_move (v := .bool _) rfl ?_)
      refine w_no 11 21 false rfl rfl rfl (by first | exact .inl rfl | exact .inr rfl) ?_
      refine w_no 11 21 false rfl rfl rfl (by first | exact .inl rfl | exact .inr rfl) ?_
      refine w_plain rfl (st_pick (b := true) (v := .bool _) rfl rfl ?_)
      refine wops_nil ?_
      refine then_n ?_
      refine x_cond (t := true) rfl (fun h0 => ?_) (fun h0 => ?_)
      rotate_left
      · exact absurd h0 (by decide)
      refine x_seq ?_
      refine x_region rfl ?_
      refine w_plain rfl (st_call (ags := []) rfl rfl T.ent8 rfl (awake_spec _) ?_)
      rintro _ w5 ⟨rfl, c6⟩
      replace HC := HC.then c6
      refine w_plain rfl (st_assign (v := .bool _) rfl ?_)
      refine wops_nil ?_
      refine then_n ?_
      refine x_ret ?_
      refine then_r ?_
      refine ret_tmp (v := .bool _) rfl rfl ?_
      exact ⟨rfl, HC⟩
    · skip
      try simp only [decide_eq_true_eq, decide_eq_false_iff_not, Bool.not_eq_true', Bool.not_eq_false', Bool.not_true, Bool.not_false, ne_eq, Int.toNat_natCast, Int.toNat_zero, Int.toNat_one, Bool.not_eq_true, Bool.not_eq_false] at g4
      refine w_yes 7 17 false rfl rfl rfl rfl (st_move (v := .int _ _) rfl ?_)
      refine w_yes 7 17 false rfl rfl rfl rfl (st_eql rfl rfl ?_)
      refine w_plain rfl (st_pick (b := false) (v := .bool _) rfl rfl ?_)
      refine w_plain rfl (st_move (v := .bool _) rfl ?_)
      refine w_split (d := 21) rfl (fun g7 => ?_) (fun g7 => ?_)
      · skip
        try simp only [decide_eq_true_eq, decide_eq_false_iff_not, Bool.not_eq_true', Bool.not_eq_false', Bool.not_true, Bool.not_false, ne_eq, Int.toNat_natCast, Int.toNat_zero, Int.toNat_one, Bool.not_eq_true, Bool.not_eq_false] at g7
        refine w_no 11 21 false rfl rfl rfl (by first | exact .inl rfl | exact .inr rfl) ?_
        refine w_no 11 21 false rfl rfl rfl (by first | exact .inl rfl | exact .inr rfl) ?_
        refine w_plain rfl (st_pick (b := true) (v := .bool _) rfl rfl ?_)
        refine wops_nil ?_
        refine then_n ?_
        refine x_cond (t := true) rfl (fun h0 => ?_) (fun h0 => ?_)
        rotate_left
        · exact absurd h0 (by decide)
        refine x_seq ?_
        refine x_region rfl ?_
        refine w_plain rfl (st_call (ags := []) rfl rfl T.ent8 rfl (awake_spec _) ?_)
        rintro _ w8 ⟨rfl, c9⟩
        replace HC := HC.then c9
        refine w_plain rfl (st_assign (v := .bool _) rfl ?_)
        refine wops_nil ?_
        refine then_n ?_
        refine x_ret ?_
        refine then_r ?_
        refine ret_tmp (v := .bool _) rfl rfl ?_
        exact ⟨rfl, HC⟩
      · skip
        try simp only [decide_eq_true_eq, decide_eq_false_iff_not, Bool.not_eq_true', Bool.not_eq_false', Bool.not_true, Bool.not_false, ne_eq, Int.toNat_natCast, Int.toNat_zero, Int.toNat_one, Bool.not_eq_true, Bool.not_eq_false] at g7
        refine w_yes 11 21 false rfl rfl rfl rfl (st_move (v := .int _ _) rfl ?_)
        refine w_yes 11 21 false rfl rfl rfl rfl (st_eql rfl rfl ?_)
        refine w_plain rfl (st_pick (b := false) (v := .bool _) rfl rfl ?_)
        refine wops_nil ?_
        refine then_n ?_
        refine x_cond rfl (fun h0 => ?_) (fun h0 => ?_)
        · skip
          try simp only [decide_eq_true_eq, decide_eq_false_iff_not, Bool.not_eq_true', Bool.not_eq_false', Bool.not_true, Bool.not_false, ne_eq, Int.toNat_natCast, Int.toNat_zero, Int.toNat_one, Bool.not_eq_true, Bool.not_eq_false] at h0
          refine x_seq ?_
          refine x_region rfl ?_
          refine w_plain rfl (st_call (ags := []) rfl rfl T.ent8 rfl (awake_spec _) ?_)
          rintro _ w10 ⟨rfl, c11⟩
          replace HC := HC.then c11
          refine w_plain rfl (st_assign (v := .bool _) rfl ?_)
          refine wops_nil ?_
          refine then_n ?_
          refine x_ret ?_
          refine then_r ?_
          refine ret_tmp (v := .bool _) rfl rfl ?_
          exact ⟨rfl, HC⟩
        · skip
          try simp only [decide_eq_true_eq, decide_eq_false_iff_not, Bool.not_eq_true', Bool.not_eq_false', Bool.not_true, Bool.not_false, ne_eq, Int.toNat_natCast, Int.toNat_zero, Int.toNat_one, Bool.not_eq_true, Bool.not_eq_false] at h0
          refine x_skip ?_
          refine then_n ?_
          refine x_seq ?_
          refine x_region rfl ?_
          refine w_plain rfl (st_assign (v := .slice _ _ _) rfl ?_)
          refine wops_nil ?_
          refine then_n ?_
          refine x_seq ?_
          refine x_region rfl ?_
          refine w_plain rfl (st_assign (v := .int _ _) rfl ?_)
          refine wops_nil ?_
          refine then_n ?_
          refine x_seq ?_
          refine x_seq ?_
          refine x_region rfl ?_
          refine w_plain rfl (st_assign (v := .int _ _) rfl ?_)
          refine wops_nil ?_
          refine then_n ?_
          refine x_block ?_
          have hw : Own sE 9 w (fun k => w.heap.size ≤ k) none 0 ([] : List Bytes) := Own.nil
          have hsl0 : s.length ≤ 300 := by omega
          have hm1 : m ≠ 32 := by intro h; subst h; simp at *
          have hm2 : m ≠ 9 := by intro h; subst h; simp at *
          have hm3 : m ≠ 10 := by intro h; subst h; simp at *
          refine x_loop (ι := Nat × Nat × Option Addr × Nat × List Bytes) [5, 6, 7, 26, 27, 28, 29, 30, 31, 32, 33, 34, 35, 36, 37, 38, 39, 40, 41, 42, 43, 44, 45] (fun ⟨i, a, A, cap, ws⟩ => [(7, .int .i64 (i : Int)), (6, .int .i64 (a : Int)), (5, .slice A ws.length cap)]) (fun ⟨i, a, A, cap, ws⟩ W => (i ≤ s.length ∧ a ≤ i ∧ ws.length ≤ i ∧ ws ++ cutM m ((s.take i).drop a) (s.drop i) = cutM m [] s) ∧ (Chg [] w W) ∧ (Own sE 9 W (fun k => w.heap.size ≤ k) A cap ws)) (fun ⟨i, a, A, cap, ws⟩ => s.length - i) (0, 0, none, 0, []) ?_ ?_ ?_
          · exact ⟨rfl, rfl, rfl, trivial⟩
          · skip
            refine ⟨?_, HC, hw⟩
            exact ⟨Nat.zero_le _, Nat.le_refl _, Nat.le_refl _, rfl⟩
          intro ⟨i, a, A, cap, ws⟩ G13 w12 ⟨⟨hi, ha0, hwl, hq⟩, HC, hw⟩
          change wp _ _ _ _ _ (upds (over _ _ G13) [(7, .int .i64 (i : Int)), (6, .int .i64 (a : Int)), (5, .slice A ws.length cap)]) _ _
          refine x_seq ?_
          refine x_seq ?_
          refine x_region rfl ?_
          refine w_plain rfl (st_move (v := .int _ _) rfl ?_)
          refine w_plain rfl (st_move (v := S _) rfl ?_)
          refine w_plain rfl (st_slen (ct := #[9]) T.u9 rfl ?_)
          refine w_plain rfl (st_lss rfl rfl ?_)
          refine wops_nil ?_
          refine then_n ?_
          refine x_cond rfl (fun h1 => ?_) (fun h1 => ?_)
          · skip
            try simp only [decide_eq_true_eq, decide_eq_false_iff_not, Bool.not_eq_true', Bool.not_eq_false', Bool.not_true, Bool.not_false, ne_eq, Int.toNat_natCast, Int.toNat_zero, Int.toNat_one, Bool.not_eq_true, Bool.not_eq_false] at h1
            refine x_skip ?_
            refine then_n ?_
            refine x_seq ?_
            refine x_block ?_
            refine x_seq ?_
            refine x_region rfl ?_
            refine w_plain rfl (st_move (v := S _) rfl ?_)
            refine w_plain rfl (st_move (v := .int _ _) rfl ?_)
            refine w_plain rfl (st_sidx T.u9 rfl rfl (by omega) (by omega) ?_)
            refine w_plain rfl (st_move (v := .int _ _) rfl ?_)
            refine w_plain rfl (st_eql rfl rfl ?_)
            refine wops_nil ?_
            refine then_n ?_
            refine x_cond rfl (fun h2 => ?_) (fun h2 => ?_)
            · skip
              try simp only [decide_eq_true_eq, decide_eq_false_iff_not, Bool.not_eq_true', Bool.not_eq_false', Bool.not_true, Bool.not_false, ne_eq, Int.toNat_natCast, Int.toNat_zero, Int.toNat_one, Bool.not_eq_true, Bool.not_eq_false] at h2
              refine x_seq ?_
              refine x_region rfl ?_
              refine w_plain rfl (st_move (v := .slice _ _ _) rfl ?_)
              refine w_plain rfl (st_move (v := S _) rfl ?_)
              refine w_plain rfl (st_move (v := .int _ _) rfl ?_)
              refine w_plain rfl (st_move (v := .int _ _) rfl ?_)
              refine w_plain rfl (st_sslice (i := a) (j := i) T.u9 rfl ⟨_, rfl⟩ ⟨_, rfl⟩ (by omega) (by omega) ?_)
              refine w_plain rfl (st_lit (ps := [(0, .tmp 41)]) (vs := [_]) T.lit33 (by decide) rfl (by simp only [List.forall_mem_cons, List.not_mem_nil, false_imp_iff, implies_true, and_true]; exact rfl) rfl ?_)
              intro b14 w15 e16 c17 hb18
              have ge_b14 : w.heap.size ≤ b14 := by rw [e16]; exact HC.size
              have na_b14 : b14 ∉ ob A := hw.fresh (by rw [e16]; exact Nat.le_refl _)
              replace HC := HC.then c17
              replace hw := hw.tr0 c17
              clear e16
              have hszA := HC.size
              refine w_plain rfl (st_append2 (c := sE) (D2 := fun _ => False) (xs := ws) (ys := [(s.take i).drop a]) T.slice33 rfl rfl hw rfl rfl (one_elem rfl (hb18.cells (n := 1) rfl)) (fun _ _ h => h.elim) (fun k hk => by omega) (by simp only [List.length_cons, List.length_nil]; omega) (by simp only [List.length_cons, List.length_nil]; omega) ?_)
              intro A19 cap20 w21 ho22 c23 hg24
              replace HC := HC.trans c23 (fun k hk => .inr (hw.inD k hk))
              replace hb18 := hb18.tr c23 (fun hx => by first | exact na_b14 hx | exact hav _ hx (by simp))
              refine w_plain rfl (st_assign (v := .slice _ _ _) rfl ?_)
              refine wops_nil ?_
              refine then_n ?_
              refine x_region rfl ?_
              refine w_plain rfl (st_move (v := .int _ _) rfl ?_)
              refine w_plain rfl (st_addn rfl rfl (by constructor <;> omega) ?_)
              refine w_plain rfl (st_assign (v := .int _ _) rfl ?_)
              refine wops_nil ?_
              refine block_n ?_
              refine then_n ?_
              refine x_region rfl ?_
              refine w_plain rfl (st_move (v := .int _ _) rfl ?_)
              refine w_plain rfl (st_addn rfl rfl (by constructor <;> omega) ?_)
              refine w_plain rfl (st_assign (v := .int _ _) rfl ?_)
              refine wops_nil ?_
              refine then_n ?_
              refine ⟨(i + 1, i + 1, A19, cap20, (ws ++ [(s.take i).drop a])), ?_, ?_, rfl, ⟨rfl, rfl, rfl, trivial⟩, ?_⟩
              · skip
                refine ⟨?_, HC, ho22⟩
                exact ⟨by omega, by omega, by simp only [List.length_append, List.length_cons, List.length_nil]; omega, mark_at (by omega) hq (UInt8.toNat_inj.1 (Int.ofNat.inj h2))⟩
              · skip
                show s.length - (i + 1) < s.length - i; omega
              repeat (first | exact agree_upds agree_over rfl | refine agree_upd ?_ rfl | refine agree_upds ?_ rfl | refine agree_over_sub ?_ rfl)
            · skip
              try simp only [decide_eq_true_eq, decide_eq_false_iff_not, Bool.not_eq_true', Bool.not_eq_false', Bool.not_true, Bool.not_false, ne_eq, Int.toNat_natCast, Int.toNat_zero, Int.toNat_one, Bool.not_eq_true, Bool.not_eq_false] at h2
              refine x_skip ?_
              refine block_n ?_
              refine then_n ?_
              refine x_region rfl ?_
              refine w_plain rfl (st_move (v := .int _ _) rfl ?_)
              refine w_plain rfl (st_addn rfl rfl (by constructor <;> omega) ?_)
              refine w_plain rfl (st_assign (v := .int _ _) rfl ?_)
              refine wops_nil ?_
              refine then_n ?_
              refine ⟨(i + 1, a, A, cap, ws), ?_, ?_, rfl, ⟨rfl, rfl, rfl, trivial⟩, ?_⟩
              · skip
                refine ⟨?_, HC, hw⟩
                exact ⟨by omega, by omega, by omega, mark_on (by omega) ha0 hq (fun h => h2 (by rw [h]))⟩
              · skip
                show s.length - (i + 1) < s.length - i; omega
              repeat (first | exact agree_upds agree_over rfl | refine agree_upd ?_ rfl | refine agree_upds ?_ rfl | refine agree_over_sub ?_ rfl)
          · skip
            try simp only [decide_eq_true_eq, decide_eq_false_iff_not, Bool.not_eq_true', Bool.not_eq_false', Bool.not_true, Bool.not_false, ne_eq, Int.toNat_natCast, Int.toNat_zero, Int.toNat_one, Bool.not_eq_true, Bool.not_eq_false] at h1
            refine x_exit ?_
            refine then_x ?_
            refine then_x ?_
            refine block_x ?_
            refine then_n ?_
            refine x_seq ?_
            refine x_seq ?_
            refine x_region rfl ?_
            refine w_plain rfl (st_move (v := .int _ _) rfl ?_)
            refine w_plain rfl (st_move (v := S _) rfl ?_)
            refine w_plain rfl (st_slen (ct := #[9]) T.u9 rfl ?_)
            refine w_plain rfl (st_lss rfl rfl ?_)
            refine wops_nil ?_
            refine then_n ?_
            refine x_cond rfl (fun h3 => ?_) (fun h3 => ?_)
            · skip
              try simp only [decide_eq_true_eq, decide_eq_false_iff_not, Bool.not_eq_true', Bool.not_eq_false', Bool.not_true, Bool.not_false, ne_eq, Int.toNat_natCast, Int.toNat_zero, Int.toNat_one, Bool.not_eq_true, Bool.not_eq_false] at h3
              refine x_region rfl ?_
              refine w_plain rfl (st_move (v := .slice _ _ _) rfl ?_)
              refine w_plain rfl (st_move (v := S _) rfl ?_)
              refine w_plain rfl (st_move (v := .int _ _) rfl ?_)
              refine w_plain rfl (st_sslice (i := a) (j := s.length) T.u9 rfl ⟨_, rfl⟩ (by rfl) (by omega) (by omega) ?_)
              refine w_plain rfl (st_lit (ps := [(0, .tmp 53)]) (vs := [_]) T.lit33 (by decide) rfl (by simp only [List.forall_mem_cons, List.not_mem_nil, false_imp_iff, implies_true, and_true]; exact rfl) rfl ?_)
              intro b25 w26 e27 c28 hb29
              have ge_b25 : w.heap.size ≤ b25 := by rw [e27]; exact HC.size
              have na_b25 : b25 ∉ ob A := hw.fresh (by rw [e27]; exact Nat.le_refl _)
              replace HC := HC.then c28
              replace hw := hw.tr0 c28
              clear e27
              have hszA := HC.size
              refine w_plain rfl (st_append2 (c := sE) (D2 := fun _ => False) (xs := ws) (ys := [(s.take s.length).drop a]) T.slice33 rfl rfl hw rfl rfl (one_elem rfl (hb29.cells (n := 1) rfl)) (fun _ _ h => h.elim) (fun k hk => by omega) (by simp only [List.length_cons, List.length_nil]; omega) (by simp only [List.length_cons, List.length_nil]; omega) ?_)
              intro A30 cap31 w32 ho33 c34 hg35
              replace HC := HC.trans c34 (fun k hk => .inr (hw.inD k hk))
              replace hb29 := hb29.tr c34 (fun hx => by first | exact na_b25 hx | exact hav _ hx (by simp))
              refine w_plain rfl (st_assign (v := .slice _ _ _) rfl ?_)
              refine wops_nil ?_
              refine then_n ?_
              refine x_seq ?_
              refine x_region rfl ?_
              refine w_plain rfl (st_move (v := S _) rfl ?_)
              refine w_plain rfl (st_bld (ps := [(0, .const (.int .i64 2)), (1, .tmp 56)]) (vs := [_, _]) T.bld27 rfl ?_)
              refine w_plain rfl (st_lit (ps := [(0, .tmp 57)]) (vs := [_, _]) T.lit22 (by decide) rfl (by simp only [List.forall_mem_cons, List.not_mem_nil, false_imp_iff, implies_true, and_true]; exact rfl) rfl ?_)
              intro b36 w37 e38 c39 hb40
              have ge_b36 : w.heap.size ≤ b36 := by rw [e38]; exact HC.size
              have ne_b25_b36 : b25 ≠ b36 := by rw [e38]; exact hb29.ne_size
              have na_b36 : b36 ∉ ob A30 := ho33.fresh (by rw [e38]; exact Nat.le_refl _)
              replace HC := HC.then c39
              replace ho33 := ho33.tr0 c39
              replace hb29 := hb29.tr0 c39
              clear e38
              refine w_plain rfl (st_move (v := .int _ _) rfl ?_)
              refine w_plain rfl (st_lit (ps := [(0, .tmp 59)]) (vs := [_]) T.lit34 (by decide) rfl (by simp only [List.forall_mem_cons, List.not_mem_nil, false_imp_iff, implies_true, and_true]; exact rfl) rfl ?_)
              intro b41 w42 e43 c44 hb45
              have ge_b41 : w.heap.size ≤ b41 := by rw [e43]; exact HC.size
              have ne_b25_b41 : b25 ≠ b41 := by rw [e43]; exact hb29.ne_size
              have ne_b36_b41 : b36 ≠ b41 := by rw [e43]; exact hb40.ne_size
              have na_b41 : b41 ∉ ob A30 := ho33.fresh (by rw [e43]; exact Nat.le_refl _)
              replace HC := HC.then c44
              replace ho33 := ho33.tr0 c44
              replace hb29 := hb29.tr0 c44
              replace hb40 := hb40.tr0 c44
              clear e43
              refine w_plain rfl (st_bytesStr T.u34 T.u5 T.u9 rfl (Sl.of_one (c := uE) (x := m) (D := fun _ => True) hb45 rfl trivial) ?_)
              refine w_plain rfl (st_call (ags := [_, _]) rfl rfl T.ent9 rfl (Split_spec (l := [⟨2, s⟩]) [m] (Sl.of_one (c := pE) (x := ⟨2, s⟩) (D := fun _ => True) hb40 rfl trivial) (by simp only [bulkP]; omega)) ?_)
              rintro _ w46 ⟨A8, cap8, rfl, hle, hcap, ha, c47⟩
              have hmt : (splitL [⟨2, s⟩] [m]).map (·.text) = (ws ++ [(s.take s.length).drop a]) := (marks_law hm1 hm2 hm3 s).trans (mark_end (by omega) hi (by omega) hq).symm
              replace ha := ha.mono (D' := fun _ => True) (fun _ _ _ => trivial)
              have hsl := split_len [m] [⟨2, s⟩]
              generalize hae : splitL [⟨2, s⟩] [m] = a8 at hle ha hmt hsl ⊢
              have hml := congrArg List.length hmt
              rw [List.length_map] at hml
              have hbk : bulkP [⟨2, s⟩] = s.length + 1 := by simp only [bulkP]
              replace HC := HC.then c47
              replace ho33 := ho33.tr0 c47
              replace hb29 := hb29.tr0 c47
              replace hb40 := hb40.tr0 c47
              replace hb45 := hb45.tr0 c47
              refine w_plain rfl (st_assign (v := .slice _ _ _) rfl ?_)
              refine wops_nil ?_
              refine then_n ?_
              refine x_seq ?_
              refine x_seq ?_
              refine x_region rfl ?_
              refine w_plain rfl (st_move (v := .slice _ _ _) rfl ?_)
              refine w_plain rfl (st_len (ct := #[28]) (by rw [show ((#[28] : Array TypeId)[0]?).bind Try.prog.underlying = some (.slice 31) from T.u28]; rfl) rfl ?_)
              refine w_plain rfl (st_move (v := .slice _ _ _) rfl ?_)
              refine w_plain rfl (st_len (ct := #[33]) (by rw [show ((#[33] : Array TypeId)[0]?).bind Try.prog.underlying = some (.slice 9) from T.u33]; rfl) rfl ?_)
              refine w_plain rfl (st_neq rfl rfl ?_)
              refine wops_nil ?_
              refine then_n ?_
              refine x_cond rfl (fun h4 => ?_) (fun h4 => ?_)
              · skip
                try simp only [decide_eq_true_eq, decide_eq_false_iff_not, Bool.not_eq_true', Bool.not_eq_false', Bool.not_true, Bool.not_false, ne_eq, Int.toNat_natCast, Int.toNat_zero, Int.toNat_one, Bool.not_eq_true, Bool.not_eq_false] at h4
                exact (h4 (by rw [hml])).elim
              · skip
                try simp only [decide_eq_true_eq, decide_eq_false_iff_not, Bool.not_eq_true', Bool.not_eq_false', Bool.not_true, Bool.not_false, ne_eq, Int.toNat_natCast, Int.toNat_zero, Int.toNat_one, Bool.not_eq_true, Bool.not_eq_false] at h4
                refine x_skip ?_
                refine then_n ?_
                refine x_seq ?_
                refine x_seq ?_
                refine x_region rfl ?_
                refine w_plain rfl (st_move (v := .slice _ _ _) rfl ?_)
                refine w_plain rfl (st_len (ct := #[28]) (by rw [show ((#[28] : Array TypeId)[0]?).bind Try.prog.underlying = some (.slice 31) from T.u28]; rfl) rfl ?_)
                refine w_plain rfl (st_move (v := .int _ _) rfl ?_)
                refine wops_nil ?_
                refine then_n ?_
                refine x_block ?_
                have hws := ho33.sl
                refine x_loop (ι := Nat) [4, 9, 70, 71, 72, 73, 74, 75, 76, 77, 78, 79, 80, 81, 82, 83] (fun i => [(70, .int .i64 (i : Int))]) (fun i W => (i ≤ a8.length) ∧ (Chg [] w W) ∧ (Sl fE W (fun _ => True) A8 a8) ∧ (Sl sE W (fun k => w.heap.size ≤ k) A30 (ws ++ [(s.take s.length).drop a]))) (fun i => a8.length - i) 0 ?_ ?_ ?_
                · exact ⟨rfl, trivial⟩
                · skip
                  refine ⟨?_, HC, ha, hws⟩
                  exact Nat.zero_le _
                intro i G49 w48 ⟨hi8, HC, ha, hws⟩
                change wp _ _ _ _ _ (upds (over _ _ G49) [(70, .int .i64 (i : Int))]) _ _
                refine x_seq ?_
                refine x_region rfl ?_
                refine w_plain rfl (st_lss rfl rfl ?_)
                refine wops_nil ?_
                refine then_n ?_
                refine x_seq ?_
                refine x_cond rfl (fun h5 => ?_) (fun h5 => ?_)
                · skip
                  try simp only [decide_eq_true_eq, decide_eq_false_iff_not, Bool.not_eq_true', Bool.not_eq_false', Bool.not_true, Bool.not_false, ne_eq, Int.toNat_natCast, Int.toNat_zero, Int.toNat_one, Bool.not_eq_true, Bool.not_eq_false] at h5
                  refine x_skip ?_
                  refine then_n ?_
                  refine x_seq ?_
                  refine x_block ?_
                  refine x_seq ?_
                  refine x_region rfl ?_
                  refine w_plain rfl (st_move (v := .int _ _) rfl ?_)
                  refine w_plain rfl (st_assign (v := .int _ _) rfl ?_)
                  refine wops_nil ?_
                  refine then_n ?_
                  refine x_seq ?_
                  obtain ⟨x50, hx51⟩ : ∃ x, a8[i]? = some x := ⟨_, List.getElem?_eq_getElem (by omega)⟩
                  obtain ⟨lb56, _, vs55, hA52, hR54, hC53⟩ := ha.at hx51
                  obtain rfl : vs55 = [S x50.text, S x50.quoted] := hR54
                  obtain ⟨x57, hx58⟩ : ∃ x, (ws ++ [(s.take s.length).drop a])[i]? = some x := ⟨_, List.getElem?_eq_getElem (by omega)⟩
                  obtain ⟨lb63, _, vs62, hA59, hR61, hC60⟩ := hws.at hx58
                  obtain rfl : vs62 = [S x57] := hR61
                  refine x_draw [(0, 0), (1, 0), (2, 0), (3, 0), (4, 0), (5, 0), (6, 0), (7, 0), (8, 0), (9, 0)] T.mixed rfl rfl rfl (fun W => W.heap[lb56]? = w48.heap[lb56]? ∧ W.heap[lb63]? = w48.heap[lb63]? ∧ True) ⟨rfl, rfl, trivial⟩ ?_
                  have c65 := Chg.drew w48
                  generalize World.drew w48 = w64 at c65 ⊢
                  replace HC := HC.then c65
                  replace ha := ha.tr0 c65
                  replace hws := hws.tr0 c65
                  refine sq_q rfl (fun W hT => r_move (v := .slice _ _ _) rfl) ?_
                  refine sq_q rfl (fun W hT => r_move (v := .int _ _) rfl) ?_
                  refine sq_q rfl (fun W hT => r_indexAddr T.u28 T.size31 (congrArg (fun z => Value.slice z _ _) hA52) rfl (by omega) (by omega)) ?_
                  refine sq_q rfl (fun W hT => r_fieldAddr T.fld31_0 rfl) ?_
                  refine sq_q rfl (fun W hT => r_load1 (v := S _) T.one9 rfl (Cells.at (j := 0) (Cells.tr hC53 hT.1) rfl)) ?_
                  refine sq_q rfl (fun W hT => r_move (v := .slice _ _ _) rfl) ?_
                  refine sq_q rfl (fun W hT => r_move (v := .int _ _) rfl) ?_
                  refine sq_q rfl (fun W hT => r_indexAddr T.u33 T.size9 (congrArg (fun z => Value.slice z _ _) hA59) rfl (by omega) (by omega)) ?_
                  refine sq_q rfl (fun W hT => r_load1 (v := S _) T.one9 rfl (Cells.at (j := 0) (Cells.tr hC60 hT.2.1) rfl)) ?_
                  refine sq_q rfl (fun W hT => r_sneq rfl rfl) ?_
                  refine sq_nil ?_
                  refine then_n ?_
                  refine x_cond rfl (fun h6 => ?_) (fun h6 => ?_)
                  · skip
                    try simp only [decide_eq_true_eq, decide_eq_false_iff_not, Bool.not_eq_true', Bool.not_eq_false', Bool.not_true, Bool.not_false, ne_eq, Int.toNat_natCast, Int.toNat_zero, Int.toNat_one, Bool.not_eq_true, Bool.not_eq_false] at h6
                    exact (h6 (by have hz := congrArg (fun l => l[i]?) hmt; simp only [List.getElem?_map, hx51, hx58, Option.map_some, Option.some.injEq] at hz; exact hz)).elim
                  · skip
                    try simp only [decide_eq_true_eq, decide_eq_false_iff_not, Bool.not_eq_true', Bool.not_eq_false', Bool.not_true, Bool.not_false, ne_eq, Int.toNat_natCast, Int.toNat_zero, Int.toNat_one, Bool.not_eq_true, Bool.not_eq_false] at h6
                    refine x_skip ?_
                    refine block_n ?_
                    refine then_n ?_
                    refine x_region rfl ?_
                    refine w_plain rfl (st_addn rfl rfl (by constructor <;> omega) ?_)
                    refine w_plain rfl (st_move (v := .int _ _) rfl ?_)
                    refine wops_nil ?_
                    refine then_n ?_
                    refine ⟨i + 1, ?_, ?_, rfl, ⟨rfl, trivial⟩, ?_⟩
                    · skip
                      refine ⟨?_, HC, ha, hws⟩
                      show i + 1 ≤ a8.length; omega
                    · skip
                      show a8.length - (i + 1) < a8.length - i; omega
                    repeat (first | exact agree_upds agree_over rfl | refine agree_upd ?_ rfl | refine agree_upds ?_ rfl | refine agree_over_sub ?_ rfl)
                · skip
                  try simp only [decide_eq_true_eq, decide_eq_false_iff_not, Bool.not_eq_true', Bool.not_eq_false', Bool.not_true, Bool.not_false, ne_eq, Int.toNat_natCast, Int.toNat_zero, Int.toNat_one, Bool.not_eq_true, Bool.not_eq_false] at h5
                  refine x_exit ?_
                  refine then_x ?_
                  refine then_x ?_
                  refine block_x ?_
                  refine then_n ?_
                  refine x_seq ?_
                  refine x_region rfl ?_
                  refine w_plain rfl (st_call (ags := []) rfl rfl T.ent8 rfl (awake_spec _) ?_)
                  rintro _ w66 ⟨rfl, c67⟩
                  replace HC := HC.then c67
                  replace ha := ha.tr0 c67
                  replace hws := hws.tr0 c67
                  refine w_plain rfl (st_assign (v := .bool _) rfl ?_)
                  refine wops_nil ?_
                  refine then_n ?_
                  refine x_ret ?_
                  refine ret_tmp (v := .bool _) rfl rfl ?_
                  exact ⟨rfl, HC⟩
            · skip
              try simp only [decide_eq_true_eq, decide_eq_false_iff_not, Bool.not_eq_true', Bool.not_eq_false', Bool.not_true, Bool.not_false, ne_eq, Int.toNat_natCast, Int.toNat_zero, Int.toNat_one, Bool.not_eq_true, Bool.not_eq_false] at h3
              refine x_skip ?_
              refine then_n ?_
              refine x_seq ?_
              refine x_region rfl ?_
              refine w_plain rfl (st_move (v := S _) rfl ?_)
              refine w_plain rfl (st_bld (ps := [(0, .const (.int .i64 2)), (1, .tmp 56)]) (vs := [_, _]) T.bld27 rfl ?_)
              refine w_plain rfl (st_lit (ps := [(0, .tmp 57)]) (vs := [_, _]) T.lit22 (by decide) rfl (by simp only [List.forall_mem_cons, List.not_mem_nil, false_imp_iff, implies_true, and_true]; exact rfl) rfl ?_)
              intro b68 w69 e70 c71 hb72
              have ge_b68 : w.heap.size ≤ b68 := by rw [e70]; exact HC.size
              have na_b68 : b68 ∉ ob A := hw.fresh (by rw [e70]; exact Nat.le_refl _)
              replace HC := HC.then c71
              replace hw := hw.tr0 c71
              clear e70
              refine w_plain rfl (st_move (v := .int _ _) rfl ?_)
              refine w_plain rfl (st_lit (ps := [(0, .tmp 59)]) (vs := [_]) T.lit34 (by decide) rfl (by simp only [List.forall_mem_cons, List.not_mem_nil, false_imp_iff, implies_true, and_true]; exact rfl) rfl ?_)
              intro b73 w74 e75 c76 hb77
              have ge_b73 : w.heap.size ≤ b73 := by rw [e75]; exact HC.size
              have ne_b68_b73 : b68 ≠ b73 := by rw [e75]; exact hb72.ne_size
              have na_b73 : b73 ∉ ob A := hw.fresh (by rw [e75]; exact Nat.le_refl _)
              replace HC := HC.then c76
              replace hw := hw.tr0 c76
              replace hb72 := hb72.tr0 c76
              clear e75
              refine w_plain rfl (st_bytesStr T.u34 T.u5 T.u9 rfl (Sl.of_one (c := uE) (x := m) (D := fun _ => True) hb77 rfl trivial) ?_)
              refine w_plain rfl (st_call (ags := [_, _]) rfl rfl T.ent9 rfl (Split_spec (l := [⟨2, s⟩]) [m] (Sl.of_one (c := pE) (x := ⟨2, s⟩) (D := fun _ => True) hb72 rfl trivial) (by simp only [bulkP]; omega)) ?_)
              rintro _ w78 ⟨A8, cap8, rfl, hle, hcap, ha, c79⟩
              have hmt : (splitL [⟨2, s⟩] [m]).map (·.text) = ws := (marks_law hm1 hm2 hm3 s).trans (mark_fin (by omega) hi (by omega) hq).symm
              replace ha := ha.mono (D' := fun _ => True) (fun _ _ _ => trivial)
              have hsl := split_len [m] [⟨2, s⟩]
              generalize hae : splitL [⟨2, s⟩] [m] = a8 at hle ha hmt hsl ⊢
              have hml := congrArg List.length hmt
              rw [List.length_map] at hml
              have hbk : bulkP [⟨2, s⟩] = s.length + 1 := by simp only [bulkP]
              replace HC := HC.then c79
              replace hw := hw.tr0 c79
              replace hb72 := hb72.tr0 c79
              replace hb77 := hb77.tr0 c79
              refine w_plain rfl (st_assign (v := .slice _ _ _) rfl ?_)
              refine wops_nil ?_
              refine then_n ?_
              refine x_seq ?_
              refine x_seq ?_
              refine x_region rfl ?_
              refine w_plain rfl (st_move (v := .slice _ _ _) rfl ?_)
              refine w_plain rfl (st_len (ct := #[28]) (by rw [show ((#[28] : Array TypeId)[0]?).bind Try.prog.underlying = some (.slice 31) from T.u28]; rfl) rfl ?_)
              refine w_plain rfl (st_move (v := .slice _ _ _) rfl ?_)
              refine w_plain rfl (st_len (ct := #[33]) (by rw [show ((#[33] : Array TypeId)[0]?).bind Try.prog.underlying = some (.slice 9) from T.u33]; rfl) rfl ?_)
              refine w_plain rfl (st_neq rfl rfl ?_)
              refine wops_nil ?_
              refine then_n ?_
              refine x_cond rfl (fun h4 => ?_) (fun h4 => ?_)
              · skip
                try simp only [decide_eq_true_eq, decide_eq_false_iff_not, Bool.not_eq_true', Bool.not_eq_false', Bool.not_true, Bool.not_false, ne_eq, Int.toNat_natCast, Int.toNat_zero, Int.toNat_one, Bool.not_eq_true, Bool.not_eq_false] at h4
                exact (h4 (by rw [hml])).elim
              · skip
                try simp only [decide_eq_true_eq, decide_eq_false_iff_not, Bool.not_eq_true', Bool.not_eq_false', Bool.not_true, Bool.not_false, ne_eq, Int.toNat_natCast, Int.toNat_zero, Int.toNat_one, Bool.not_eq_true, Bool.not_eq_false] at h4
                refine x_skip ?_
                refine then_n ?_
                refine x_seq ?_
                refine x_seq ?_
                refine x_region rfl ?_
                refine w_plain rfl (st_move (v := .slice _ _ _) rfl ?_)
                refine w_plain rfl (st_len (ct := #[28]) (by rw [show ((#[28] : Array TypeId)[0]?).bind Try.prog.underlying = some (.slice 31) from T.u28]; rfl) rfl ?_)
                refine w_plain rfl (st_move (v := .int _ _) rfl ?_)
                refine wops_nil ?_
                refine then_n ?_
                refine x_block ?_
                have hws := hw.sl
                refine x_loop (ι := Nat) [4, 9, 70, 71, 72, 73, 74, 75, 76, 77, 78, 79, 80, 81, 82, 83] (fun i => [(70, .int .i64 (i : Int))]) (fun i W => (i ≤ a8.length) ∧ (Chg [] w W) ∧ (Sl fE W (fun _ => True) A8 a8) ∧ (Sl sE W (fun k => w.heap.size ≤ k) A ws)) (fun i => a8.length - i) 0 ?_ ?_ ?_
                · exact ⟨rfl, trivial⟩
                · skip
                  refine ⟨?_, HC, ha, hws⟩
                  exact Nat.zero_le _
                intro i G81 w80 ⟨hi8, HC, ha, hws⟩
                change wp _ _ _ _ _ (upds (over _ _ G81) [(70, .int .i64 (i : Int))]) _ _
                refine x_seq ?_
                refine x_region rfl ?_
                refine w_plain rfl (st_lss rfl rfl ?_)
                refine wops_nil ?_
                refine then_n ?_
                refine x_seq ?_
                refine x_cond rfl (fun h5 => ?_) (fun h5 => ?_)
                · skip
                  try simp only [decide_eq_true_eq, decide_eq_false_iff_not, Bool.not_eq_true', Bool.not_eq_false', Bool.not_true, Bool.not_false, ne_eq, Int.toNat_natCast, Int.toNat_zero, Int.toNat_one, Bool.not_eq_true, Bool.not_eq_false] at h5
                  refine x_skip ?_
                  refine then_n ?_
                  refine x_seq ?_
                  refine x_block ?_
                  refine x_seq ?_
                  refine x_region rfl ?_
                  refine w_plain rfl (st_move (v := .int _ _) rfl ?_)
                  refine w_plain rfl (st_assign (v := .int _ _) rfl ?_)
                  refine wops_nil ?_
                  refine then_n ?_
                  refine x_seq ?_
                  obtain ⟨x82, hx83⟩ : ∃ x, a8[i]? = some x := ⟨_, List.getElem?_eq_getElem (by omega)⟩
                  obtain ⟨lb88, _, vs87, hA84, hR86, hC85⟩ := ha.at hx83
                  obtain rfl : vs87 = [S x82.text, S x82.quoted] := hR86
                  obtain ⟨x89, hx90⟩ : ∃ x, ws[i]? = some x := ⟨_, List.getElem?_eq_getElem (by omega)⟩
                  obtain ⟨lb95, _, vs94, hA91, hR93, hC92⟩ := hws.at hx90
                  obtain rfl : vs94 = [S x89] := hR93
                  refine x_draw [(0, 0), (1, 0), (2, 0), (3, 0), (4, 0), (5, 0), (6, 0), (7, 0), (8, 0), (9, 0)] T.mixed rfl rfl rfl (fun W => W.heap[lb88]? = w80.heap[lb88]? ∧ W.heap[lb95]? = w80.heap[lb95]? ∧ True) ⟨rfl, rfl, trivial⟩ ?_
                  have c97 := Chg.drew w80
                  generalize World.drew w80 = w96 at c97 ⊢
                  replace HC := HC.then c97
                  replace ha := ha.tr0 c97
                  replace hws := hws.tr0 c97
                  refine sq_q rfl (fun W hT => r_move (v := .slice _ _ _) rfl) ?_
                  refine sq_q rfl (fun W hT => r_move (v := .int _ _) rfl) ?_
                  refine sq_q rfl (fun W hT => r_indexAddr T.u28 T.size31 (congrArg (fun z => Value.slice z _ _) hA84) rfl (by omega) (by omega)) ?_
                  refine sq_q rfl (fun W hT => r_fieldAddr T.fld31_0 rfl) ?_
                  refine sq_q rfl (fun W hT => r_load1 (v := S _) T.one9 rfl (Cells.at (j := 0) (Cells.tr hC85 hT.1) rfl)) ?_
                  refine sq_q rfl (fun W hT => r_move (v := .slice _ _ _) rfl) ?_
                  refine sq_q rfl (fun W hT => r_move (v := .int _ _) rfl) ?_
                  refine sq_q rfl (fun W hT => r_indexAddr T.u33 T.size9 (congrArg (fun z => Value.slice z _ _) hA91) rfl (by omega) (by omega)) ?_
                  refine sq_q rfl (fun W hT => r_load1 (v := S _) T.one9 rfl (Cells.at (j := 0) (Cells.tr hC92 hT.2.1) rfl)) ?_
                  refine sq_q rfl (fun W hT => r_sneq rfl rfl) ?_
                  refine sq_nil ?_
                  refine then_n ?_
                  refine x_cond rfl (fun h6 => ?_) (fun h6 => ?_)
                  · skip
                    try simp only [decide_eq_true_eq, decide_eq_false_iff_not, Bool.not_eq_true', Bool.not_eq_false', Bool.not_true, Bool.not_false, ne_eq, Int.toNat_natCast, Int.toNat_zero, Int.toNat_one, Bool.not_eq_true, Bool.not_eq_false] at h6
                    exact (h6 (by have hz := congrArg (fun l => l[i]?) hmt; simp only [List.getElem?_map, hx83, hx90, Option.map_some, Option.some.injEq] at hz; exact hz)).elim
                  · skip
                    try simp only [decide_eq_true_eq, decide_eq_false_iff_not, Bool.not_eq_true', Bool.not_eq_false', Bool.not_true, Bool.not_false, ne_eq, Int.toNat_natCast, Int.toNat_zero, Int.toNat_one, Bool.not_eq_true, Bool.not_eq_false] at h6
                    refine x_skip ?_
                    refine block_n ?_
                    refine then_n ?_
                    refine x_region rfl ?_
                    refine w_plain rfl (st_addn rfl rfl (by constructor <;> omega) ?_)
                    refine w_plain rfl (st_move (v := .int _ _) rfl ?_)
                    refine wops_nil ?_
                    refine then_n ?_
                    refine ⟨i + 1, ?_, ?_, rfl, ⟨rfl, trivial⟩, ?_⟩
                    · skip
                      refine ⟨?_, HC, ha, hws⟩
                      show i + 1 ≤ a8.length; omega
                    · skip
                      show a8.length - (i + 1) < a8.length - i; omega
                    repeat (first | exact agree_upds agree_over rfl | refine agree_upd ?_ rfl | refine agree_upds ?_ rfl | refine agree_over_sub ?_ rfl)
                · skip
                  try simp only [decide_eq_true_eq, decide_eq_false_iff_not, Bool.not_eq_true', Bool.not_eq_false', Bool.not_true, Bool.not_false, ne_eq, Int.toNat_natCast, Int.toNat_zero, Int.toNat_one, Bool.not_eq_true, Bool.not_eq_false] at h5
                  refine x_exit ?_
                  refine then_x ?_
                  refine then_x ?_
                  refine block_x ?_
                  refine then_n ?_
                  refine x_seq ?_
                  refine x_region rfl ?_
                  refine w_plain rfl (st_call (ags := []) rfl rfl T.ent8 rfl (awake_spec _) ?_)
                  rintro _ w98 ⟨rfl, c99⟩
                  replace HC := HC.then c99
                  replace ha := ha.tr0 c99
                  replace hws := hws.tr0 c99
                  refine w_plain rfl (st_assign (v := .bool _) rfl ?_)
                  refine wops_nil ?_
                  refine then_n ?_
                  refine x_ret ?_
                  refine ret_tmp (v := .bool _) rfl rfl ?_
                  exact ⟨rfl, HC⟩

end Go.Proofs.Ytbnbkndeodankaa.K
