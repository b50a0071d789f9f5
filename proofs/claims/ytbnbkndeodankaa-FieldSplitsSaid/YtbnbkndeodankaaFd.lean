/- Walks. -/
import Derived.Test.YtbnbkndeodankaaFc
import Derived.Test.YtbnbkndeodankaaTy
set_option linter.unusedVariables false
set_option linter.unusedSimpArgs false
set_option autoImplicit false
set_option maxRecDepth 20000
namespace Go.Proofs.Ytbnbkndeodankaa.K
open Go Go.Proofs Go.RowKit

theorem awake_spec (w : World) : CallR Try.prog 8 #[] w fun v w' => v = .bool true ∧ Chg [] w w' := by
  refine callR_of_wp (args := []) Try.func8 rfl (Nat.le_of_ble_eq_true rfl) ?_
  have HC : Chg [] w w := .refl _
  refine x_seq ?_
  refine x_region rfl ?_
  refine w_plain rfl (st_assign (v := .bool _) rfl ?_)
  refine wops_nil ?_
  refine then_n ?_
  refine x_seq ?_
  refine x_region rfl ?_
  refine w_plain rfl (st_assign (v := .func _ _ _) rfl ?_)
  refine wops_nil ?_
  refine then_n ?_
  refine x_seq ?_
  refine x_region rfl ?_
  refine w_plain rfl (st_move (v := .func _ _ _) rfl ?_)
  refine w_plain rfl (st_call (ags := [_, _]) rfl rfl T.ent15 rfl (awake1_spec _ _ _ (by decide)) ?_)
  rintro _ w1 ⟨rfl, c2⟩
  replace HC := HC.then c2
  refine w_plain rfl (st_seql rfl rfl ?_)
  refine w_plain rfl (st_move (v := .bool _) rfl ?_)
  refine w_split (d := 5) rfl (fun g3 => ?_) (fun g3 => ?_)
  · skip
    try simp only [decide_eq_true_eq, decide_eq_false_iff_not, Bool.not_eq_true', Bool.not_eq_false', Bool.not_true, Bool.not_false, ne_eq, Int.toNat_natCast, Int.toNat_zero, Int.toNat_one, Bool.not_eq_true, Bool.not_eq_false] at g3
    refine w_yes 3 5 true rfl rfl rfl rfl (st_move (v := .func _ _ _) rfl ?_)
    refine w_yes 3 5 true rfl rfl rfl rfl (st_call (ags := [_, _]) rfl rfl T.ent15 rfl (awake1_spec _ _ _ (by decide)) ?_)
    rintro _ w4 ⟨rfl, c5⟩
    replace HC := HC.then c5
    refine w_yes 3 5 true rfl rfl rfl rfl (st_seql rfl rfl ?_)
    refine w_plain rfl (st_pick (b := true) (v := .bool _) rfl rfl ?_)
    refine w_plain rfl (st_move (v := .bool _) rfl ?_)
    refine w_split (d := 10) rfl (fun g6 => ?_) (fun g6 => ?_)
    · skip
      try simp only [decide_eq_true_eq, decide_eq_false_iff_not, Bool.not_eq_true', Bool.not_eq_false', Bool.not_true, Bool.not_false, ne_eq, Int.toNat_natCast, Int.toNat_zero, Int.toNat_one, Bool.not_eq_true, Bool.not_eq_false] at g6
      refine w_yes 8 10 true rfl rfl rfl rfl (st_move (v := .func _ _ _) rfl ?_)
      refine w_yes 8 10 true rfl rfl rfl rfl (st_call (ags := [_, _]) rfl rfl T.ent15 rfl (awake1_spec _ _ _ (by decide)) ?_)
      rintro _ w7 ⟨rfl, c8⟩
      replace HC := HC.then c8
      refine w_yes 8 10 true rfl rfl rfl rfl (st_seql rfl rfl ?_)
      refine w_plain rfl (st_pick (b := true) (v := .bool _) rfl rfl ?_)
      refine w_plain rfl (st_move (v := .bool _) rfl ?_)
      refine w_split (d := 15) rfl (fun g9 => ?_) (fun g9 => ?_)
      · skip
        try simp only [decide_eq_true_eq, decide_eq_false_iff_not, Bool.not_eq_true', Bool.not_eq_false', Bool.not_true, Bool.not_false, ne_eq, Int.toNat_natCast, Int.toNat_zero, Int.toNat_one, Bool.not_eq_true, Bool.not_eq_false] at g9
        refine w_yes 13 15 true rfl rfl rfl rfl (st_move (v := .func _ _ _) rfl ?_)
        refine w_yes 13 15 true rfl rfl rfl rfl (st_call (ags := [_, _]) rfl rfl T.ent15 rfl (awake1_spec _ _ _ (by decide)) ?_)
        rintro _ w10 ⟨rfl, c11⟩
        replace HC := HC.then c11
        refine w_yes 13 15 true rfl rfl rfl rfl (st_seql rfl rfl ?_)
        refine w_plain rfl (st_pick (b := true) (v := .bool _) rfl rfl ?_)
        refine w_plain rfl (st_assign (v := .bool _) rfl ?_)
        refine wops_nil ?_
        refine then_n ?_
        refine x_ret ?_
        refine ret_tmp (v := .bool _) rfl rfl ?_
        refine ⟨congrArg Value.bool (decide_eq_true (by decide)), HC⟩
      · skip
        try simp only [decide_eq_true_eq, decide_eq_false_iff_not, Bool.not_eq_true', Bool.not_eq_false', Bool.not_true, Bool.not_false, ne_eq, Int.toNat_natCast, Int.toNat_zero, Int.toNat_one, Bool.not_eq_true, Bool.not_eq_false] at g9
        exact absurd (by decide) g9
    · skip
      try simp only [decide_eq_true_eq, decide_eq_false_iff_not, Bool.not_eq_true', Bool.not_eq_false', Bool.not_true, Bool.not_false, ne_eq, Int.toNat_natCast, Int.toNat_zero, Int.toNat_one, Bool.not_eq_true, Bool.not_eq_false] at g6
      exact absurd (by decide) g6
  · skip
    try simp only [decide_eq_true_eq, decide_eq_false_iff_not, Bool.not_eq_true', Bool.not_eq_false', Bool.not_true, Bool.not_false, ne_eq, Int.toNat_natCast, Int.toNat_zero, Int.toNat_one, Bool.not_eq_true, Bool.not_eq_false] at g3
    exact absurd (by decide) g3

theorem FieldWhole_spec {l : List Piece} {Al : Option Addr} {capl : Nat} {D : Nat → Prop} {w : World} (ifs : Bytes) (hl : Sl pE w D Al l) (hT : ∀ p, p ∈ l → p.text.length ≤ 140737488355328) (hlen : l.length ≤ 9223372036854775807) :
    CallR Try.prog 3 #[.slice Al l.length capl, S ifs] w fun v w' => v = .bool true ∧ Chg [] w w' := by
  refine callR_of_wp (args := [_, _]) Try.func3 rfl (Nat.le_of_ble_eq_true rfl) ?_
  have HC : Chg [] w w := .refl _
  refine x_seq ?_
  refine x_region rfl ?_
  refine w_plain rfl (st_assign (v := .bool _) rfl ?_)
  refine wops_nil ?_
  refine then_n ?_
  refine x_seq ?_
  refine x_seq ?_
  refine x_region rfl ?_
  refine w_plain rfl (st_move (v := .slice _ _ _) rfl ?_)
  refine w_plain rfl (st_call (ags := [_]) rfl rfl T.ent7 rfl (few_spec hl hT hlen) ?_)
  rintro _ w1 ⟨rfl, c2⟩
  replace HC := HC.then c2
  replace hl := hl.tr0 c2
  refine w_plain rfl (st_not rfl ?_)
  refine w_plain rfl (st_move (v := .bool _) rfl ?_)
  refine w_split (d := 17) rfl (fun g3 => ?_) (fun g3 => ?_)
  · skip
    try simp only [decide_eq_true_eq, decide_eq_false_iff_not, Bool.not_eq_true', Bool.not_eq_false', Bool.not_true, Bool.not_false, ne_eq, Int.toNat_natCast, Int.toNat_zero, Int.toNat_one, Bool.not_eq_true, Bool.not_eq_false] at g3
    refine w_no 3 17 false rfl rfl rfl (by first | exact .inl rfl | exact .inr rfl) ?_
    refine w_no 3 17 false rfl rfl rfl (by first | exact .inl rfl | exact .inr rfl) ?_
    refine w_no 3 17 false rfl rfl rfl (by first | exact .inl rfl | exact .inr rfl) ?_
    refine w_plain rfl (st_pick (b := true) (v := .bool _) rfl rfl ?_)
    refine wops_nil ?_
    refine then_n ?_
    refine x_cond (t := true) rfl (fun h0 => ?_) (fun h0 => ?_)
    rotate_left
    · exact absurd h0 (by decide)
    refine x_seq ?_
    refine x_region rfl ?_
    refine w_plain rfl (st_call (ags := []) rfl rfl T.ent8 rfl (awake_spec _) ?_)
    rintro _ w4 ⟨rfl, c5⟩
    replace HC := HC.then c5
    replace hl := hl.tr0 c5
    refine w_plain rfl (st_assign (v := .bool _) rfl ?_)
    refine wops_nil ?_
    refine then_n ?_
    refine x_ret ?_
    refine then_r ?_
    refine ret_tmp (v := .bool _) rfl rfl ?_
    exact ⟨rfl, HC⟩
  · skip
    try simp only [decide_eq_true_eq, decide_eq_false_iff_not, Bool.not_eq_true', Bool.not_eq_false', Bool.not_true, Bool.not_false, ne_eq, Int.toNat_natCast, Int.toNat_zero, Int.toNat_one, Bool.not_eq_true, Bool.not_eq_false] at g3
    refine w_yes 3 17 false rfl rfl rfl rfl (st_move (v := S _) rfl ?_)
    refine w_yes 3 17 false rfl rfl rfl rfl (st_slen (ct := #[9]) T.u9 rfl ?_)
    refine w_yes 3 17 false rfl rfl rfl rfl (st_gtr rfl rfl ?_)
    refine w_plain rfl (st_pick (b := false) (v := .bool _) rfl rfl ?_)
    refine wops_nil ?_
    refine then_n ?_
    refine x_cond rfl (fun h0 => ?_) (fun h0 => ?_)
    · skip
      try simp only [decide_eq_true_eq, decide_eq_false_iff_not, Bool.not_eq_true', Bool.not_eq_false', Bool.not_true, Bool.not_false, ne_eq, Int.toNat_natCast, Int.toNat_zero, Int.toNat_one, Bool.not_eq_true, Bool.not_eq_false] at h0
      refine x_seq ?_
      refine x_region rfl ?_
      refine w_plain rfl (st_call (ags := []) rfl rfl T.ent8 rfl (awake_spec _) ?_)
      rintro _ w6 ⟨rfl, c7⟩
      replace HC := HC.then c7
      replace hl := hl.tr0 c7
      refine w_plain rfl (st_assign (v := .bool _) rfl ?_)
      refine wops_nil ?_
      refine then_n ?_
      refine x_ret ?_
      refine then_r ?_
      refine ret_tmp (v := .bool _) rfl rfl ?_
      exact ⟨rfl, HC⟩
    · skip
      try simp only [decide_eq_true_eq, decide_eq_false_iff_not, Bool.not_eq_true', Bool.not_eq_false', Bool.not_true, Bool.not_false, ne_eq, Int.toNat_natCast, Int.toNat_zero, Int.toNat_one, Bool.not_eq_true, Bool.not_eq_false] at h0
      refine x_skip ?_
      refine then_n ?_
      refine x_seq ?_
      refine x_region rfl ?_
      refine w_plain rfl (st_alloc T.zero25 ?_)
      intro b5 w8 e9 c10 hb11
      have ge_b5 : w.heap.size ≤ b5 := by rw [e9]; exact HC.size
      have nf_hl_b5 : l = [] ∨ b5 ∉ ob (Al) := hl.fresh (by rw [e9]; exact Nat.le_refl _)
      replace HC := HC.then c10
      replace hl := hl.tr0 c10
      clear e9
      refine wops_nil ?_
      refine then_n ?_
      refine x_seq ?_
      refine x_seq ?_
      refine x_region rfl ?_
      refine w_plain rfl (st_assign (v := .int _ _) rfl ?_)
      refine wops_nil ?_
      refine then_n ?_
      refine x_block ?_
      have hseps : Blk w8 b5 (boolsV (sepF (ifs.take 0)) 0 256) 25 := hb11
      obtain ⟨hf1, hf2⟩ := few_of (l := l) (by assumption)
      refine x_loop (ι := Nat) [6, 23, 24, 25, 26, 27, 28, 29, 30, 31, 32] (fun i => [(6, .int .i64 (i : Int))]) (fun i W => (i ≤ ifs.length) ∧ (Chg [] w W) ∧ (Sl pE W D Al l) ∧ (Blk W b5 (boolsV (sepF (ifs.take i)) 0 256) 25)) (fun i => ifs.length - i) 0 ?_ ?_ ?_
      · exact ⟨rfl, trivial⟩
      · skip
        refine ⟨?_, HC, hl, hseps⟩
        exact Nat.zero_le _
      intro i G13 w12 ⟨hi, HC, hl, hseps⟩
      change wp _ _ _ _ _ (upds (over _ _ G13) [(6, .int .i64 (i : Int))]) _ _
      refine x_seq ?_
      refine x_seq ?_
      refine x_region rfl ?_
      refine w_plain rfl (st_move (v := .int _ _) rfl ?_)
      refine w_plain rfl (st_move (v := S _) rfl ?_)
      refine w_plain rfl (st_slen (ct := #[9]) T.u9 rfl ?_)
      refine w_plain rfl (st_lss rfl rfl ?_)
      refine wops_nil ?_
      refine then_n ?_
      refine x_cond rfl (fun h1 => ?_) (fun h1 => ?_)
      · skip
        try simp only [decide_eq_true_eq, decide_eq_false_iff_not, Bool.not_eq_true', Bool.not_eq_false', Bool.not_true, Bool.not_false, ne_eq, Int.toNat_natCast, Int.toNat_zero, Int.toNat_one, Bool.not_eq_true, Bool.not_eq_false] at h1
        refine x_skip ?_
        refine then_n ?_
        refine x_seq ?_
        refine x_block ?_
        refine x_region rfl ?_
        refine w_plain rfl (st_move (v := S _) rfl ?_)
        refine w_plain rfl (st_move (v := .int _ _) rfl ?_)
        refine w_plain rfl (st_sidx T.u9 rfl rfl (by omega) (by omega) ?_)
        refine w_plain rfl (st_arrAddr T.u25 T.size4 rfl rfl (by exact Int.natCast_nonneg _) (by have := (byte ifs i).toNat_lt; show ((byte ifs i).toNat : Int) < 256; omega) ?_)
        refine w_plain rfl (st_store (v := .bool _) T.size4 rfl rfl rfl hseps rfl (by simp only [boolsV_len, List.length_cons, List.length_nil, Int.toNat_natCast]; have := (byte ifs i).toNat_lt; omega) (by simp [Value.oneCell']) (by simp only [setVs]; exact seps_set _ (byte ifs i) _ (by simp)) ?_)
        intro w14 c15 hb16
        clear hseps
        rw [← show ifs.take (i + 1) = ifs.take i ++ [byte ifs i] from by have := take_byte (t := ifs) (i := i) (j := 0) (by omega) (Nat.zero_le _); simpa using this] at hb16
        replace HC := HC.then1 c15 ge_b5
        replace hl := hl.trF flat_flat c15 (by intro k hx; simp only [List.mem_singleton] at hx; subst hx; exact nf_hl_b5)
        refine wops_nil ?_
        refine block_n ?_
        refine then_n ?_
        refine x_region rfl ?_
        refine w_plain rfl (st_move (v := .int _ _) rfl ?_)
        refine w_plain rfl (st_addn rfl rfl (by constructor <;> omega) ?_)
        refine w_plain rfl (st_assign (v := .int _ _) rfl ?_)
        refine wops_nil ?_
        refine then_n ?_
        refine ⟨i + 1, ?_, ?_, rfl, ⟨rfl, trivial⟩, ?_⟩
        · skip
          refine ⟨?_, HC, hl, hb16⟩
          show i + 1 ≤ ifs.length; omega
        · skip
          show ifs.length - (i + 1) < ifs.length - i; omega
        repeat (first | exact agree_upds agree_over rfl | refine agree_upd ?_ rfl | refine agree_upds ?_ rfl | refine agree_over_sub ?_ rfl)
      · skip
        try simp only [decide_eq_true_eq, decide_eq_false_iff_not, Bool.not_eq_true', Bool.not_eq_false', Bool.not_true, Bool.not_false, ne_eq, Int.toNat_natCast, Int.toNat_zero, Int.toNat_one, Bool.not_eq_true, Bool.not_eq_false] at h1
        refine x_exit ?_
        refine then_x ?_
        refine then_x ?_
        refine block_x ?_
        refine then_n ?_
        refine x_seq ?_
        refine x_region rfl ?_
        refine w_plain rfl (st_assign (v := S _) rfl ?_)
        refine w_plain rfl (st_assign (v := S _) rfl ?_)
        refine wops_nil ?_
        refine then_n ?_
        refine x_seq ?_
        refine x_seq ?_
        refine x_region rfl ?_
        refine w_plain rfl (st_move (v := .slice _ _ _) rfl ?_)
        refine w_plain rfl (st_len (ct := #[22]) (by rw [show ((#[22] : Array TypeId)[0]?).bind Try.prog.underlying = some (.slice 27) from T.u22]; rfl) rfl ?_)
        refine w_plain rfl (st_move (v := .int _ _) rfl ?_)
        refine wops_nil ?_
        refine then_n ?_
        refine x_block ?_
        rw [List.take_of_length_le (l := ifs) (by omega)] at hseps
        refine x_loop (ι := Nat) [7, 10, 11, 35, 36, 37, 38, 39, 40, 41, 42, 43, 44, 45, 46, 47, 48, 49, 50, 51, 52, 53, 54, 55, 56, 57, 58, 59, 60, 61, 62, 63, 64, 65, 66, 67, 68, 69, 70, 71] (fun i => [(35, .int .i64 (i : Int)), (7, S (wantL ifs (l.take i)))]) (fun i W => (i ≤ l.length) ∧ (Chg [] w W) ∧ (Sl pE W D Al l) ∧ (Blk W b5 (boolsV (sepF ifs) 0 256) 25)) (fun i => l.length - i) 0 ?_ ?_ ?_
        · exact ⟨rfl, rfl, trivial⟩
        · skip
          refine ⟨?_, HC, hl, hseps⟩
          exact Nat.zero_le _
        intro i G18 w17 ⟨hi, HC, hl, hseps⟩
        change wp _ _ _ _ _ (upds (over _ _ G18) [(35, .int .i64 (i : Int)), (7, S (wantL ifs (l.take i)))]) _ _
        refine x_seq ?_
        refine x_region rfl ?_
        refine w_plain rfl (st_lss rfl rfl ?_)
        refine wops_nil ?_
        refine then_n ?_
        refine x_seq ?_
        refine x_cond rfl (fun h2 => ?_) (fun h2 => ?_)
        · skip
          try simp only [decide_eq_true_eq, decide_eq_false_iff_not, Bool.not_eq_true', Bool.not_eq_false', Bool.not_true, Bool.not_false, ne_eq, Int.toNat_natCast, Int.toNat_zero, Int.toNat_one, Bool.not_eq_true, Bool.not_eq_false] at h2
          refine x_skip ?_
          refine then_n ?_
          refine x_seq ?_
          refine x_block ?_
          refine x_seq ?_
          refine x_region rfl ?_
          obtain ⟨p, hx19⟩ : ∃ x, l[i]? = some x := ⟨_, List.getElem?_eq_getElem (by omega)⟩
          obtain ⟨_, _, vs23, hA20, hR22, hC21⟩ := hl.at hx19
          obtain rfl : vs23 = [.int .i64 p.kind, S p.text] := hR22
          refine w_plain rfl (st_indexAddr T.u22 T.size27 (congrArg (fun z => Value.slice z _ _) hA20) rfl (by omega) (by omega) ?_)
          refine w_plain rfl (st_loadA (vs := [_, _]) T.agg27 rfl hC21 rfl ?_)
          refine w_plain rfl (st_alloc T.zero27 ?_)
          intro b10 w24 e25 c26 hb27
          have ge_b10 : w.heap.size ≤ b10 := by rw [e25]; exact HC.size
          have ne_b5_b10 : b5 ≠ b10 := by rw [e25]; exact hseps.ne_size
          have nf_hl_b10 : l = [] ∨ b10 ∉ ob (Al) := hl.fresh (by rw [e25]; exact Nat.le_refl _)
          replace HC := HC.then c26
          replace hl := hl.tr0 c26
          replace hseps := hseps.tr0 c26
          clear e25
          refine w_plain rfl (st_store (v := .agg ⟨[_, _]⟩) T.size27 rfl rfl rfl hb27 rfl (Nat.le_of_ble_eq_true rfl) (by simp [Value.oneCell', S]) rfl ?_)
          intro w28 c29 hb30; simp only [setVs, setV] at hb30
          clear hb27
          replace HC := HC.then1 c29 ge_b10
          replace hl := hl.trF flat_flat c29 (by intro k hx; simp only [List.mem_singleton] at hx; subst hx; exact nf_hl_b10)
          replace hseps := hseps.tr1 c29 ne_b5_b10
          refine wops_nil ?_
          refine then_n ?_
          refine x_seq ?_
          have htx := texts_step hx19
          have htl := texts_take l (i + 1)
          have hwi := want_le ifs (l.take i)
          refine x_region rfl ?_
          refine w_plain rfl (st_assign (v := .int _ _) rfl ?_)
          refine wops_nil ?_
          refine then_n ?_
          refine x_block ?_
          refine x_loop (ι := Nat) [7, 11, 39, 40, 41, 42, 43, 44, 45, 46, 47, 48, 49, 50, 51, 52, 53, 54, 55, 56, 57, 58, 59, 60, 61, 62, 63, 64, 65, 66, 67, 68, 69, 70] (fun j => [(11, .int .i64 (j : Int)), (7, S (wantL ifs (l.take i) ++ wantF ifs p.kind (p.text.take j)))]) (fun j W => (j ≤ p.text.length ∧ (p.kind = 3 → j = 0)) ∧ (Chg [] w W) ∧ (Sl pE W D Al l) ∧ (Blk W b5 (boolsV (sepF ifs) 0 256) 25) ∧ (Blk W b10 [.int .i64 p.kind, S p.text] 27)) (fun j => p.text.length - j) 0 ?_ ?_ ?_
          · exact ⟨rfl, by simp [wantF]; rfl, trivial⟩
          · skip
            refine ⟨?_, HC, hl, hseps, hb30⟩
            exact ⟨Nat.zero_le _, fun _ => rfl⟩
          intro j G32 w31 ⟨⟨hj, hj3⟩, HC, hl, hseps, hb30⟩
          change wp _ _ _ _ _ (upds (over _ _ G32) [(11, .int .i64 (j : Int)), (7, S (wantL ifs (l.take i) ++ wantF ifs p.kind (p.text.take j)))]) _ _
          have hwj := wantF_len ifs p.kind (p.text.take j)
          refine x_seq ?_
          refine x_seq ?_
          refine x_region rfl ?_
          refine w_plain rfl (st_move (v := .int _ _) rfl ?_)
          refine w_plain rfl (st_fieldAddr T.fld27_1 rfl ?_)
          refine w_plain rfl (st_load1 (v := S _) T.one9 rfl (hb30.cell rfl) ?_)
          refine w_plain rfl (st_slen (ct := #[9]) T.u9 rfl ?_)
          refine w_plain rfl (st_lss rfl rfl ?_)
          refine w_plain rfl (st_move (v := .bool _) rfl ?_)
          refine w_split (d := 44) rfl (fun g33 => ?_) (fun g33 => ?_)
          · skip
            try simp only [decide_eq_true_eq, decide_eq_false_iff_not, Bool.not_eq_true', Bool.not_eq_false', Bool.not_true, Bool.not_false, ne_eq, Int.toNat_natCast, Int.toNat_zero, Int.toNat_one, Bool.not_eq_true, Bool.not_eq_false] at g33
            refine w_yes 5 44 true rfl rfl rfl rfl (st_fieldAddr T.fld27_0 rfl ?_)
            refine w_yes 5 44 true rfl rfl rfl rfl (st_load1 (v := .int _ _) T.one3 rfl (hb30.cell rfl) ?_)
            refine w_yes 5 44 true rfl rfl rfl rfl (st_neq rfl rfl ?_)
            refine w_plain rfl (st_pick (b := true) (v := .bool _) rfl rfl ?_)
            refine wops_nil ?_
            refine then_n ?_
            refine x_cond rfl (fun h3 => ?_) (fun h3 => ?_)
            · skip
              try simp only [decide_eq_true_eq, decide_eq_false_iff_not, Bool.not_eq_true', Bool.not_eq_false', Bool.not_true, Bool.not_false, ne_eq, Int.toNat_natCast, Int.toNat_zero, Int.toNat_one, Bool.not_eq_true, Bool.not_eq_false] at h3
              refine x_skip ?_
              refine then_n ?_
              refine x_seq ?_
              refine x_block ?_
              refine x_seq ?_
              refine x_region rfl ?_
              refine w_plain rfl (st_fieldAddr T.fld27_0 rfl ?_)
              refine w_plain rfl (st_load1 (v := .int _ _) T.one3 rfl (hb30.cell rfl) ?_)
              refine w_plain rfl (st_neq rfl rfl ?_)
              refine w_plain rfl (st_move (v := .bool _) rfl ?_)
              refine w_split (d := 54) rfl (fun g34 => ?_) (fun g34 => ?_)
              · skip
                try simp only [decide_eq_true_eq, decide_eq_false_iff_not, Bool.not_eq_true', Bool.not_eq_false', Bool.not_true, Bool.not_false, ne_eq, Int.toNat_natCast, Int.toNat_zero, Int.toNat_one, Bool.not_eq_true, Bool.not_eq_false] at g34
                refine w_no 3 54 false rfl rfl rfl (by first | exact .inl rfl | exact .inr rfl) ?_
                refine w_no 3 54 false rfl rfl rfl (by first | exact .inl rfl | exact .inr rfl) ?_
                refine w_no 3 54 false rfl rfl rfl (by first | exact .inl rfl | exact .inr rfl) ?_
                refine w_no 3 54 false rfl rfl rfl (by first | exact .inl rfl | exact .inr rfl) ?_
                refine w_no 3 54 false rfl rfl rfl (by first | exact .inl rfl | exact .inr rfl) ?_
                refine w_no 3 54 false rfl rfl rfl (by first | exact .inl rfl | exact .inr rfl) ?_
                refine w_no 3 54 false rfl rfl rfl (by first | exact .inl rfl | exact .inr rfl) ?_
                refine w_plain rfl (st_pick (b := true) (v := .bool _) rfl rfl ?_)
                refine wops_nil ?_
                refine then_n ?_
                refine x_cond (t := true) rfl (fun h4 => ?_) (fun h4 => ?_)
                rotate_left
                · exact absurd h4 (by decide)
                refine x_region rfl ?_
                refine w_plain rfl (st_move (v := S _) rfl ?_)
                refine w_plain rfl (st_fieldAddr T.fld27_1 rfl ?_)
                refine w_plain rfl (st_load1 (v := S _) T.one9 rfl (hb30.cell rfl) ?_)
                refine w_plain rfl (st_move (v := .int _ _) rfl ?_)
                refine w_plain rfl (st_move (v := .int _ _) rfl ?_)
                refine w_plain rfl (st_addn rfl rfl (by constructor <;> omega) ?_)
                refine w_plain rfl (st_sslice (i := j) (j := j + 1) T.u9 rfl ⟨_, rfl⟩ ⟨_, rfl⟩ (by omega) (by omega) ?_)
                refine w_plain rfl (st_sadd rfl rfl (by simp only [List.length_append, List.length_drop, List.length_take] at *; omega) ?_)
                refine w_plain rfl (st_assign (v := S _) rfl ?_)
                refine wops_nil ?_
                refine block_n ?_
                refine then_n ?_
                refine x_region rfl ?_
                refine w_plain rfl (st_move (v := .int _ _) rfl ?_)
                refine w_plain rfl (st_addn rfl rfl (by constructor <;> omega) ?_)
                refine w_plain rfl (st_assign (v := .int _ _) rfl ?_)
                refine wops_nil ?_
                refine then_n ?_
                refine ⟨j + 1, ?_, ?_, rfl, ⟨rfl, by rw [wantF_step (by omega), if_neg (by intro hh; rw [Bool.and_eq_true, decide_eq_true_eq] at hh; first | exact absurd hh.1 (by assumption) | exact absurd hh.2 (by rw [Bool.not_eq_true]; assumption)), ← List.append_assoc]; exact congrArg (fun z => S (_ ++ z)) (one_byte (by omega)), trivial⟩, ?_⟩
                · skip
                  refine ⟨?_, HC, hl, hseps, hb30⟩
                  exact ⟨by omega, fun h => absurd h (by assumption)⟩
                · skip
                  show p.text.length - (j + 1) < p.text.length - j; omega
                repeat (first | exact agree_upds agree_over rfl | refine agree_upd ?_ rfl | refine agree_upds ?_ rfl | refine agree_over_sub ?_ rfl)
              · skip
                try simp only [decide_eq_true_eq, decide_eq_false_iff_not, Bool.not_eq_true', Bool.not_eq_false', Bool.not_true, Bool.not_false, ne_eq, Int.toNat_natCast, Int.toNat_zero, Int.toNat_one, Bool.not_eq_true, Bool.not_eq_false] at g34
                refine w_yes 3 54 false rfl rfl rfl rfl (st_fieldAddr T.fld27_1 rfl ?_)
                refine w_yes 3 54 false rfl rfl rfl rfl (st_load1 (v := S _) T.one9 rfl (hb30.cell rfl) ?_)
                refine w_yes 3 54 false rfl rfl rfl rfl (st_move (v := .int _ _) rfl ?_)
                refine w_yes 3 54 false rfl rfl rfl rfl (st_sidx T.u9 rfl rfl (by omega) (by omega) ?_)
                refine w_yes 3 54 false rfl rfl rfl rfl (st_arrAddr T.u25 T.size4 rfl rfl (by exact Int.natCast_nonneg _) (by have := (byte p.text j).toNat_lt; show ((byte p.text j).toNat : Int) < 256; omega) ?_)
                refine w_yes 3 54 false rfl rfl rfl rfl (st_load1 (v := .bool _) T.one4 rfl (hseps.cell (v := .bool _) (seps_at ifs (byte p.text j) _ (by simp))) ?_)
                refine w_yes 3 54 false rfl rfl rfl rfl (st_not rfl ?_)
                refine w_plain rfl (st_pick (b := false) (v := .bool _) rfl rfl ?_)
                refine wops_nil ?_
                refine then_n ?_
                refine x_cond rfl (fun h4 => ?_) (fun h4 => ?_)
                · skip
                  try simp only [decide_eq_true_eq, decide_eq_false_iff_not, Bool.not_eq_true', Bool.not_eq_false', Bool.not_true, Bool.not_false, ne_eq, Int.toNat_natCast, Int.toNat_zero, Int.toNat_one, Bool.not_eq_true, Bool.not_eq_false] at h4
                  refine x_region rfl ?_
                  refine w_plain rfl (st_move (v := S _) rfl ?_)
                  refine w_plain rfl (st_fieldAddr T.fld27_1 rfl ?_)
                  refine w_plain rfl (st_load1 (v := S _) T.one9 rfl (hb30.cell rfl) ?_)
                  refine w_plain rfl (st_move (v := .int _ _) rfl ?_)
                  refine w_plain rfl (st_move (v := .int _ _) rfl ?_)
                  refine w_plain rfl (st_addn rfl rfl (by constructor <;> omega) ?_)
                  refine w_plain rfl (st_sslice (i := j) (j := j + 1) T.u9 rfl ⟨_, rfl⟩ ⟨_, rfl⟩ (by omega) (by omega) ?_)
                  refine w_plain rfl (st_sadd rfl rfl (by simp only [List.length_append, List.length_drop, List.length_take] at *; omega) ?_)
                  refine w_plain rfl (st_assign (v := S _) rfl ?_)
                  refine wops_nil ?_
                  refine block_n ?_
                  refine then_n ?_
                  refine x_region rfl ?_
                  refine w_plain rfl (st_move (v := .int _ _) rfl ?_)
                  refine w_plain rfl (st_addn rfl rfl (by constructor <;> omega) ?_)
                  refine w_plain rfl (st_assign (v := .int _ _) rfl ?_)
                  refine wops_nil ?_
                  refine then_n ?_
                  refine ⟨j + 1, ?_, ?_, rfl, ⟨rfl, by rw [wantF_step (by omega), if_neg (by intro hh; rw [Bool.and_eq_true, decide_eq_true_eq] at hh; first | exact absurd hh.1 (by assumption) | exact absurd hh.2 (by rw [Bool.not_eq_true]; assumption)), ← List.append_assoc]; exact congrArg (fun z => S (_ ++ z)) (one_byte (by omega)), trivial⟩, ?_⟩
                  · skip
                    refine ⟨?_, HC, hl, hseps, hb30⟩
                    exact ⟨by omega, fun h => absurd h (by assumption)⟩
                  · skip
                    show p.text.length - (j + 1) < p.text.length - j; omega
                  repeat (first | exact agree_upds agree_over rfl | refine agree_upd ?_ rfl | refine agree_upds ?_ rfl | refine agree_over_sub ?_ rfl)
                · skip
                  try simp only [decide_eq_true_eq, decide_eq_false_iff_not, Bool.not_eq_true', Bool.not_eq_false', Bool.not_true, Bool.not_false, ne_eq, Int.toNat_natCast, Int.toNat_zero, Int.toNat_one, Bool.not_eq_true, Bool.not_eq_false] at h4
                  refine x_skip ?_
                  refine block_n ?_
                  refine then_n ?_
                  refine x_region rfl ?_
                  refine w_plain rfl (st_move (v := .int _ _) rfl ?_)
                  refine w_plain rfl (st_addn rfl rfl (by constructor <;> omega) ?_)
                  refine w_plain rfl (st_assign (v := .int _ _) rfl ?_)
                  refine wops_nil ?_
                  refine then_n ?_
                  refine ⟨j + 1, ?_, ?_, rfl, ⟨rfl, by rw [wantF_step (by omega), if_pos (by rw [Bool.and_eq_true, decide_eq_true_eq]; exact ⟨by assumption, by assumption⟩), List.append_nil]; rfl, trivial⟩, ?_⟩
                  · skip
                    refine ⟨?_, HC, hl, hseps, hb30⟩
                    exact ⟨by omega, fun h => absurd h (by assumption)⟩
                  · skip
                    show p.text.length - (j + 1) < p.text.length - j; omega
                  repeat (first | exact agree_upds agree_over rfl | refine agree_upd ?_ rfl | refine agree_upds ?_ rfl | refine agree_over_sub ?_ rfl)
            · skip
              try simp only [decide_eq_true_eq, decide_eq_false_iff_not, Bool.not_eq_true', Bool.not_eq_false', Bool.not_true, Bool.not_false, ne_eq, Int.toNat_natCast, Int.toNat_zero, Int.toNat_one, Bool.not_eq_true, Bool.not_eq_false] at h3
              have hwantP : S (wantL ifs (l.take i) ++ wantP ifs p) = S (wantL ifs (l.take i) ++ wantF ifs p.kind (p.text.take j)) := by
                congr 2
                by_cases hk : p.kind = 3
                · rw [wantP, if_pos hk, hj3 hk]; rfl
                · rw [wantP, if_neg hk, List.take_of_length_le (by first | omega | exact absurd (by assumption) hk)]; rfl
              refine x_exit ?_
              refine then_x ?_
              refine then_x ?_
              refine block_x ?_
              refine block_n ?_
              refine then_n ?_
              refine x_region rfl ?_
              refine w_plain rfl (st_addn rfl rfl (by constructor <;> omega) ?_)
              refine w_plain rfl (st_move (v := .int _ _) rfl ?_)
              refine wops_nil ?_
              refine then_n ?_
              refine ⟨i + 1, ?_, ?_, rfl, ⟨rfl, by rw [want_step hx19]; exact hwantP.symm, trivial⟩, ?_⟩
              · skip
                refine ⟨?_, HC, hl, hseps⟩
                show i + 1 ≤ l.length; omega
              · skip
                show l.length - (i + 1) < l.length - i; omega
              repeat (first | exact agree_upds agree_over rfl | refine agree_upd ?_ rfl | refine agree_upds ?_ rfl | refine agree_over_sub ?_ rfl)
          · skip
            try simp only [decide_eq_true_eq, decide_eq_false_iff_not, Bool.not_eq_true', Bool.not_eq_false', Bool.not_true, Bool.not_false, ne_eq, Int.toNat_natCast, Int.toNat_zero, Int.toNat_one, Bool.not_eq_true, Bool.not_eq_false] at g33
            refine w_no 5 44 true rfl rfl rfl (by first | exact .inl rfl | exact .inr rfl) ?_
            refine w_no 5 44 true rfl rfl rfl (by first | exact .inl rfl | exact .inr rfl) ?_
            refine w_no 5 44 true rfl rfl rfl (by first | exact .inl rfl | exact .inr rfl) ?_
            refine w_plain rfl (st_pick (b := false) (v := .bool _) rfl rfl ?_)
            refine wops_nil ?_
            refine then_n ?_
            refine x_cond (t := false) rfl (fun h3 => ?_) (fun h3 => ?_)
            · exact absurd h3 (by decide)
            have hwantP : S (wantL ifs (l.take i) ++ wantP ifs p) = S (wantL ifs (l.take i) ++ wantF ifs p.kind (p.text.take j)) := by
              congr 2
              by_cases hk : p.kind = 3
              · rw [wantP, if_pos hk, hj3 hk]; rfl
              · rw [wantP, if_neg hk, List.take_of_length_le (by first | omega | exact absurd (by assumption) hk)]; rfl
            refine x_exit ?_
            refine then_x ?_
            refine then_x ?_
            refine block_x ?_
            refine block_n ?_
            refine then_n ?_
            refine x_region rfl ?_
            refine w_plain rfl (st_addn rfl rfl (by constructor <;> omega) ?_)
            refine w_plain rfl (st_move (v := .int _ _) rfl ?_)
            refine wops_nil ?_
            refine then_n ?_
            refine ⟨i + 1, ?_, ?_, rfl, ⟨rfl, by rw [want_step hx19]; exact hwantP.symm, trivial⟩, ?_⟩
            · skip
              refine ⟨?_, HC, hl, hseps⟩
              show i + 1 ≤ l.length; omega
            · skip
              show l.length - (i + 1) < l.length - i; omega
            repeat (first | exact agree_upds agree_over rfl | refine agree_upd ?_ rfl | refine agree_upds ?_ rfl | refine agree_over_sub ?_ rfl)
        · skip
          try simp only [decide_eq_true_eq, decide_eq_false_iff_not, Bool.not_eq_true', Bool.not_eq_false', Bool.not_true, Bool.not_false, ne_eq, Int.toNat_natCast, Int.toNat_zero, Int.toNat_one, Bool.not_eq_true, Bool.not_eq_false] at h2
          refine x_exit ?_
          refine then_x ?_
          refine then_x ?_
          refine block_x ?_
          refine then_n ?_
          refine x_seq ?_
          refine x_seq ?_
          refine x_region rfl ?_
          refine w_plain rfl (st_move (v := .slice _ _ _) rfl ?_)
          refine w_plain rfl (st_move (v := S _) rfl ?_)
          refine w_plain rfl (st_call (ags := [_, _]) rfl rfl T.ent9 rfl (Split_spec (l := l) ifs hl (by have := texts_bulk l; omega)) ?_)
          rintro _ w35 ⟨A, cap, rfl, hle, hcap, ha, c36⟩
          have hfit := split_fit ifs l
          have hall := split_all ifs l
          have hwl := want_le ifs l
          have hsln := split_len ifs l
          have htb := texts_bulk l
          replace ha := ha.mono (D' := fun _ => True) (fun _ _ _ => trivial)
          generalize hae : splitL l ifs = a at hle ha hfit hall hsln ⊢
          have hal := congrArg List.length hall
          replace HC := HC.then c36
          replace hl := hl.tr0 c36
          replace hseps := hseps.tr0 c36
          refine w_plain rfl (st_len (ct := #[28]) (by rw [show ((#[28] : Array TypeId)[0]?).bind Try.prog.underlying = some (.slice 31) from T.u28]; rfl) rfl ?_)
          refine w_plain rfl (st_move (v := .int _ _) rfl ?_)
          refine wops_nil ?_
          refine then_n ?_
          refine x_block ?_
          refine x_loop (ι := Nat) [4, 8, 13, 76, 77, 78, 79, 80, 81, 82, 83, 84, 85, 86, 87, 88, 89, 90, 91] (fun i => [(76, .int .i64 (i : Int)), (8, S (allF (a.take i)))]) (fun i W => (i ≤ a.length) ∧ (Chg [] w W) ∧ (Sl pE W D Al l) ∧ (Blk W b5 (boolsV (sepF ifs) 0 256) 25) ∧ (Sl fE W (fun _ => True) A a)) (fun i => a.length - i) 0 ?_ ?_ ?_
          · exact ⟨rfl, rfl, trivial⟩
          · skip
            refine ⟨?_, HC, hl, hseps, ha⟩
            exact Nat.zero_le _
          intro i G38 w37 ⟨hi, HC, hl, hseps, ha⟩
          change wp _ _ _ _ _ (upds (over _ _ G38) [(76, .int .i64 (i : Int)), (8, S (allF (a.take i)))]) _ _
          refine x_seq ?_
          refine x_region rfl ?_
          refine w_plain rfl (st_lss rfl rfl ?_)
          refine wops_nil ?_
          refine then_n ?_
          refine x_seq ?_
          refine x_cond rfl (fun h5 => ?_) (fun h5 => ?_)
          · skip
            try simp only [decide_eq_true_eq, decide_eq_false_iff_not, Bool.not_eq_true', Bool.not_eq_false', Bool.not_true, Bool.not_false, ne_eq, Int.toNat_natCast, Int.toNat_zero, Int.toNat_one, Bool.not_eq_true, Bool.not_eq_false] at h5
            refine x_skip ?_
            refine then_n ?_
            refine x_seq ?_
            refine x_block ?_
            refine x_seq ?_
            refine x_region rfl ?_
            obtain ⟨f, hx39⟩ : ∃ x, a[i]? = some x := ⟨_, List.getElem?_eq_getElem (by omega)⟩
            obtain ⟨_, _, vs43, hA40, hR42, hC41⟩ := ha.at hx39
            obtain rfl : vs43 = [S f.text, S f.quoted] := hR42
            refine w_plain rfl (st_indexAddr T.u28 T.size31 (congrArg (fun z => Value.slice z _ _) hA40) rfl (by omega) (by omega) ?_)
            refine w_plain rfl (st_loadA (vs := [_, _]) T.agg31 rfl hC41 rfl ?_)
            refine w_plain rfl (st_alloc T.zero31 ?_)
            intro b13 w44 e45 c46 hb47
            have ge_b13 : w.heap.size ≤ b13 := by rw [e45]; exact HC.size
            have ne_b5_b13 : b5 ≠ b13 := by rw [e45]; exact hseps.ne_size
            have nf_hl_b13 : l = [] ∨ b13 ∉ ob (Al) := hl.fresh (by rw [e45]; exact Nat.le_refl _)
            have nf_ha_b13 : a = [] ∨ b13 ∉ ob (A) := ha.fresh (by rw [e45]; exact Nat.le_refl _)
            replace HC := HC.then c46
            replace hl := hl.tr0 c46
            replace hseps := hseps.tr0 c46
            replace ha := ha.tr0 c46
            clear e45
            refine w_plain rfl (st_store (v := .agg ⟨[_, _]⟩) T.size31 rfl rfl rfl hb47 rfl (Nat.le_of_ble_eq_true rfl) (by simp [Value.oneCell', S]) rfl ?_)
            intro w48 c49 hb50; simp only [setVs, setV] at hb50
            clear hb47
            replace HC := HC.then1 c49 ge_b13
            replace hl := hl.trF flat_flat c49 (by intro k hx; simp only [List.mem_singleton] at hx; subst hx; exact nf_hl_b13)
            replace hseps := hseps.tr1 c49 ne_b5_b13
            replace ha := ha.trF flat_flat c49 (by intro k hx; simp only [List.mem_singleton] at hx; subst hx; exact nf_ha_b13)
            refine wops_nil ?_
            refine then_n ?_
            refine x_seq ?_
            refine x_seq ?_
            have hfi := hfit f (List.mem_of_getElem? hx39)
            have hat := allF_at hx39
            refine x_region rfl ?_
            refine w_plain rfl (st_fieldAddr T.fld31_1 rfl ?_)
            refine w_plain rfl (st_load1 (v := S _) T.one9 rfl (hb50.cell rfl) ?_)
            refine w_plain rfl (st_slen (ct := #[9]) T.u9 rfl ?_)
            refine w_plain rfl (st_fieldAddr T.fld31_0 rfl ?_)
            refine w_plain rfl (st_load1 (v := S _) T.one9 rfl (hb50.cell rfl) ?_)
            refine w_plain rfl (st_slen (ct := #[9]) T.u9 rfl ?_)
            refine w_plain rfl (st_neq rfl rfl ?_)
            refine wops_nil ?_
            refine then_n ?_
            refine x_cond rfl (fun h6 => ?_) (fun h6 => ?_)
            · skip
              try simp only [decide_eq_true_eq, decide_eq_false_iff_not, Bool.not_eq_true', Bool.not_eq_false', Bool.not_true, Bool.not_false, ne_eq, Int.toNat_natCast, Int.toNat_zero, Int.toNat_one, Bool.not_eq_true, Bool.not_eq_false] at h6
              exact absurd (by rw [hfi]) h6
            · skip
              try simp only [decide_eq_true_eq, decide_eq_false_iff_not, Bool.not_eq_true', Bool.not_eq_false', Bool.not_true, Bool.not_false, ne_eq, Int.toNat_natCast, Int.toNat_zero, Int.toNat_one, Bool.not_eq_true, Bool.not_eq_false] at h6
              refine x_skip ?_
              refine then_n ?_
              refine x_region rfl ?_
              refine w_plain rfl (st_move (v := S _) rfl ?_)
              refine w_plain rfl (st_fieldAddr T.fld31_0 rfl ?_)
              refine w_plain rfl (st_load1 (v := S _) T.one9 rfl (hb50.cell rfl) ?_)
              refine w_plain rfl (st_sadd rfl rfl (by simp only [List.length_append, List.length_cons, List.length_nil] at *; omega) ?_)
              refine w_plain rfl (st_assign (v := S _) rfl ?_)
              refine wops_nil ?_
              refine block_n ?_
              refine then_n ?_
              refine x_region rfl ?_
              refine w_plain rfl (st_addn rfl rfl (by constructor <;> omega) ?_)
              refine w_plain rfl (st_move (v := .int _ _) rfl ?_)
              refine wops_nil ?_
              refine then_n ?_
              refine ⟨i + 1, ?_, ?_, rfl, ⟨rfl, by rw [allF_step hx39]; rfl, trivial⟩, ?_⟩
              · skip
                refine ⟨?_, HC, hl, hseps, ha⟩
                show i + 1 ≤ a.length; omega
              · skip
                show a.length - (i + 1) < a.length - i; omega
              repeat (first | exact agree_upds agree_over rfl | refine agree_upd ?_ rfl | refine agree_upds ?_ rfl | refine agree_over_sub ?_ rfl)
          · skip
            try simp only [decide_eq_true_eq, decide_eq_false_iff_not, Bool.not_eq_true', Bool.not_eq_false', Bool.not_true, Bool.not_false, ne_eq, Int.toNat_natCast, Int.toNat_zero, Int.toNat_one, Bool.not_eq_true, Bool.not_eq_false] at h5
            refine x_exit ?_
            refine then_x ?_
            refine then_x ?_
            refine block_x ?_
            refine then_n ?_
            refine x_seq ?_
            refine x_region rfl ?_
            refine w_plain rfl (st_move (v := S _) rfl ?_)
            refine w_plain rfl (st_move (v := S _) rfl ?_)
            refine w_plain rfl (st_seql rfl rfl ?_)
            refine w_plain rfl (st_move (v := .bool _) rfl ?_)
            refine w_split (d := 95) rfl (fun g51 => ?_) (fun g51 => ?_)
            · skip
              try simp only [decide_eq_true_eq, decide_eq_false_iff_not, Bool.not_eq_true', Bool.not_eq_false', Bool.not_true, Bool.not_false, ne_eq, Int.toNat_natCast, Int.toNat_zero, Int.toNat_one, Bool.not_eq_true, Bool.not_eq_false] at g51
              refine w_yes 3 95 true rfl rfl rfl rfl (st_call (ags := []) rfl rfl T.ent8 rfl (awake_spec _) ?_)
              rintro _ w52 ⟨rfl, c53⟩
              replace HC := HC.then c53
              replace hl := hl.tr0 c53
              replace hseps := hseps.tr0 c53
              replace ha := ha.tr0 c53
              refine w_plain rfl (st_pick (b := true) (v := .bool _) rfl rfl ?_)
              refine w_plain rfl (st_assign (v := .bool _) rfl ?_)
              refine wops_nil ?_
              refine then_n ?_
              refine x_ret ?_
              refine ret_tmp (v := .bool _) rfl rfl ?_
              exact ⟨rfl, HC⟩
            · skip
              try simp only [decide_eq_true_eq, decide_eq_false_iff_not, Bool.not_eq_true', Bool.not_eq_false', Bool.not_true, Bool.not_false, ne_eq, Int.toNat_natCast, Int.toNat_zero, Int.toNat_one, Bool.not_eq_true, Bool.not_eq_false] at g51
              exact absurd (by rw [List.take_of_length_le (l := l) (by omega), List.take_of_length_le (l := a) (by omega)]; exact hall.symm) g51

end Go.Proofs.Ytbnbkndeodankaa.K
