/- Walks. -/
import Derived.Test.YtbnbkndeodankaaFd
import Derived.Test.YtbnbkndeodankaaFq
import Derived.Test.YtbnbkndeodankaaBs
import Derived.Test.YtbnbkndeodankaaTy
set_option linter.unusedVariables false
set_option linter.unusedSimpArgs false
set_option autoImplicit false
set_option maxRecDepth 20000
namespace Go.Proofs.Ytbnbkndeodankaa.K
open Go Go.Proofs Go.RowKit

theorem len_take_le {α : Type} (l : List α) (i : Nat) : (l.take i).length ≤ l.length := by simp; omega
theorem FieldPlain_spec {l : List Piece} {Al : Option Addr} {capl : Nat} {D : Nat → Prop} {w : World} (ifs : Bytes) (hl : Sl pE w D Al l) (hT : ∀ p, p ∈ l → p.text.length ≤ 140737488355328) (hlen : l.length ≤ 9223372036854775807) :
    CallR Try.prog 5 #[.slice Al l.length capl, S ifs] w fun v w' => v = .bool true ∧ Chg [] w w' := by
  replace hl := hl.mono (D' := fun k => k < w.heap.size) (fun k hk _ => hk)
  refine callR_of_wp (args := [_, _]) Try.func5 rfl (Nat.le_of_ble_eq_true rfl) ?_
  have HC : Chg [] w w := .refl _
  refine x_seq ?_
  refine x_region rfl ?_
  refine w_plain rfl (st_assign (v := .bool _) rfl ?_)
  refine wops_nil ?_
  refine then_n ?_
  refine x_seq ?_
  refine x_seq ?_
  refine x_region rfl ?_
  refine w_plain rfl (st_move (v := .slice _ _ _) rfl ?_)
  refine w_plain rfl (st_call (ags := [_]) rfl rfl T.ent7 rfl (few_spec hl hT hlen) ?_)
  rintro _ w1 ⟨rfl, c2⟩
  replace HC := HC.then c2
  replace hl := hl.tr0 c2
  refine w_plain rfl (st_not rfl ?_)
  refine w_plain rfl (st_move (v := .bool _) rfl ?_)
  refine w_split (d := 15) rfl (fun g3 => ?_) (fun g3 => ?_)
  · skip
    try simp only [decide_eq_true_eq, decide_eq_false_iff_not, Bool.not_eq_true', Bool.not_eq_false', Bool.not_true, Bool.not_false, ne_eq, Int.toNat_natCast, Int.toNat_zero, Int.toNat_one, Bool.not_eq_true, Bool.not_eq_false] at g3
    refine w_no 3 15 false rfl rfl rfl (by first | exact .inl rfl | exact .inr rfl) ?_
    refine w_no 3 15 false rfl rfl rfl (by first | exact .inl rfl | exact .inr rfl) ?_
    refine w_no 3 15 false rfl rfl rfl (by first | exact .inl rfl | exact .inr rfl) ?_
    refine w_plain rfl (st_pick (b := true) (v := .bool _) rfl rfl ?_)
    refine wops_nil ?_
    refine then_n ?_
    refine x_cond (t := true) rfl (fun h0 => ?_) (fun h0 => ?_)
    rotate_left
    · exact absurd h0 (by decide)
    refine x_seq ?_
    refine x_region rfl ?_
    refine w_plain rfl (st_call (ags := []) rfl rfl T.ent8 rfl (awake_spec _) ?_)
    rintro _ w4 ⟨rfl, c5⟩
    replace HC := HC.then c5
    replace hl := hl.tr0 c5
    refine w_plain rfl (st_assign (v := .bool _) rfl ?_)
    refine wops_nil ?_
    refine then_n ?_
    refine x_ret ?_
    refine then_r ?_
    refine ret_tmp (v := .bool _) rfl rfl ?_
    exact ⟨rfl, HC⟩
  · skip
    try simp only [decide_eq_true_eq, decide_eq_false_iff_not, Bool.not_eq_true', Bool.not_eq_false', Bool.not_true, Bool.not_false, ne_eq, Int.toNat_natCast, Int.toNat_zero, Int.toNat_one, Bool.not_eq_true, Bool.not_eq_false] at g3
    refine w_yes 3 15 false rfl rfl rfl rfl (st_move (v := S _) rfl ?_)
    refine w_yes 3 15 false rfl rfl rfl rfl (st_slen (ct := #[9]) T.u9 rfl ?_)
    refine w_yes 3 15 false rfl rfl rfl rfl (st_gtr rfl rfl ?_)
    refine w_plain rfl (st_pick (b := false) (v := .bool _) rfl rfl ?_)
    refine wops_nil ?_
    refine then_n ?_
    refine x_cond rfl (fun h0 => ?_) (fun h0 => ?_)
    · skip
      try simp only [decide_eq_true_eq, decide_eq_false_iff_not, Bool.not_eq_true', Bool.not_eq_false', Bool.not_true, Bool.not_false, ne_eq, Int.toNat_natCast, Int.toNat_zero, Int.toNat_one, Bool.not_eq_true, Bool.not_eq_false] at h0
      refine x_seq ?_
      refine x_region rfl ?_
      refine w_plain rfl (st_call (ags := []) rfl rfl T.ent8 rfl (awake_spec _) ?_)
      rintro _ w6 ⟨rfl, c7⟩
      replace HC := HC.then c7
      replace hl := hl.tr0 c7
      refine w_plain rfl (st_assign (v := .bool _) rfl ?_)
      refine wops_nil ?_
      refine then_n ?_
      refine x_ret ?_
      refine then_r ?_
      refine ret_tmp (v := .bool _) rfl rfl ?_
      exact ⟨rfl, HC⟩
    · skip
      try simp only [decide_eq_true_eq, decide_eq_false_iff_not, Bool.not_eq_true', Bool.not_eq_false', Bool.not_true, Bool.not_false, ne_eq, Int.toNat_natCast, Int.toNat_zero, Int.toNat_one, Bool.not_eq_true, Bool.not_eq_false] at h0
      refine x_skip ?_
      refine then_n ?_
      refine x_seq ?_
      refine x_region rfl ?_
      refine w_plain rfl (st_assign (v := .bool _) rfl ?_)
      refine wops_nil ?_
      refine then_n ?_
      refine x_seq ?_
      refine x_region rfl ?_
      refine w_plain rfl (st_assign (v := .slice _ _ _) rfl ?_)
      refine w_plain rfl (st_assign (v := .slice _ _ _) rfl ?_)
      refine wops_nil ?_
      refine then_n ?_
      refine x_seq ?_
      refine x_seq ?_
      refine x_region rfl ?_
      refine w_plain rfl (st_move (v := .slice _ _ _) rfl ?_)
      refine w_plain rfl (st_len (ct := #[22]) (by rw [show ((#[22] : Array TypeId)[0]?).bind Try.prog.underlying = some (.slice 27) from T.u22]; rfl) rfl ?_)
      refine w_plain rfl (st_move (v := .int _ _) rfl ?_)
      refine wops_nil ?_
      refine then_n ?_
      refine x_block ?_
      obtain ⟨hf1, hf2⟩ := few_of (l := l) (by assumption)
      have hbk0 := texts_bulk l
      have hp : Own pE 27 w1 (fun k => w.heap.size ≤ k) none 0 (plainL (l.take 0)) := Own.nil
      have ho : Own pE 27 w1 (fun k => w.heap.size ≤ k) none 0 (othersL (l.take 0)) := Own.nil
      have hdis : ∀ k, k ∈ ob (none : Option Addr) → k ∉ ob (none : Option Addr) := by simp [ob]
      refine x_loop (ι := Nat × Option Addr × Nat × Option Addr × Nat) [5, 6, 7, 9, 10, 23, 24, 25, 26, 27, 28, 29, 30, 31, 32, 33, 34, 35, 36, 37, 38, 39, 40, 41, 42, 43, 44, 45, 46, 47, 48, 49, 50, 51, 52, 53, 54, 55, 56, 57, 58, 59] (fun ⟨i, A1, cap1, A2, cap2⟩ => [(23, .int .i64 (i : Int)), (5, .bool (begB (l.take i))), (6, .slice A1 (plainL (l.take i)).length cap1), (7, .slice A2 (othersL (l.take i)).length cap2)]) (fun ⟨i, A1, cap1, A2, cap2⟩ W => (i ≤ l.length) ∧ (Chg [] w W) ∧ (Sl pE W (fun k => k < w.heap.size) Al l) ∧ (Own pE 27 W (fun k => w.heap.size ≤ k) A1 cap1 (plainL (l.take i))) ∧ (Own pE 27 W (fun k => w.heap.size ≤ k) A2 cap2 (othersL (l.take i))) ∧ (∀ k, k ∈ ob A1 → k ∉ ob A2)) (fun ⟨i, A1, cap1, A2, cap2⟩ => l.length - i) (0, none, 0, none, 0) ?_ ?_ ?_
      · exact ⟨rfl, rfl, rfl, rfl, trivial⟩
      · skip
        refine ⟨?_, HC, hl, hp, ho, hdis⟩
        exact Nat.zero_le _
      intro ⟨i, A1, cap1, A2, cap2⟩ G9 w8 ⟨hi, HC, hl, hp, ho, hdis⟩
      change wp _ _ _ _ _ (upds (over _ _ G9) [(23, .int .i64 (i : Int)), (5, .bool (begB (l.take i))), (6, .slice A1 (plainL (l.take i)).length cap1), (7, .slice A2 (othersL (l.take i)).length cap2)]) _ _
      have hlp := len_plain (l.take i)
      have hlo := len_take_le l i
      have hlq : (othersL (l.take i)).length = (l.take i).length := by simp [othersL]
      refine x_seq ?_
      refine x_region rfl ?_
      refine w_plain rfl (st_lss rfl rfl ?_)
      refine wops_nil ?_
      refine then_n ?_
      refine x_seq ?_
      refine x_cond rfl (fun h1 => ?_) (fun h1 => ?_)
      · skip
        try simp only [decide_eq_true_eq, decide_eq_false_iff_not, Bool.not_eq_true', Bool.not_eq_false', Bool.not_true, Bool.not_false, ne_eq, Int.toNat_natCast, Int.toNat_zero, Int.toNat_one, Bool.not_eq_true, Bool.not_eq_false] at h1
        refine x_skip ?_
        refine then_n ?_
        refine x_seq ?_
        refine x_block ?_
        refine x_seq ?_
        refine x_region rfl ?_
        obtain ⟨p, hx10⟩ : ∃ x, l[i]? = some x := ⟨_, List.getElem?_eq_getElem (by omega)⟩
        obtain ⟨lb15, _, vs14, hA11, hR13, hC12⟩ := hl.at hx10
        obtain rfl : vs14 = [.int .i64 p.kind, S p.text] := hR13
        refine w_plain rfl (st_indexAddr T.u22 T.size27 (congrArg (fun z => Value.slice z _ _) hA11) rfl (by omega) (by omega) ?_)
        refine w_plain rfl (st_loadA (vs := [_, _]) T.agg27 rfl hC12 rfl ?_)
        refine w_plain rfl (st_alloc T.zero27 ?_)
        intro b9 w16 e17 c18 hb19
        have ge_b9 : w.heap.size ≤ b9 := by rw [e17]; exact HC.size
        have na_pb9 : b9 ∉ ob A1 := hp.fresh (by rw [e17]; exact Nat.le_refl _)
        have na_ob9 : b9 ∉ ob A2 := ho.fresh (by rw [e17]; exact Nat.le_refl _)
        replace HC := HC.then c18
        replace hl := hl.tr0 c18
        replace hp := hp.tr0 c18
        replace ho := ho.tr0 c18
        clear e17
        refine w_plain rfl (st_store (v := .agg ⟨[.int _ _, S _]⟩) T.size27 rfl rfl rfl hb19 rfl (Nat.le_of_ble_eq_true rfl) (by simp [Value.oneCell', S]) rfl ?_)
        intro w20 c21 hb22; simp only [setVs, setV] at hb22
        clear hb19
        replace HC := HC.then1 c21 ge_b9
        replace hl := hl.tr c21 (by intro k hx hD; simp only [List.mem_singleton] at hx; subst hx; omega)
        replace hp := hp.trF flat_flat c21 (by intro k hk hx; simp only [List.mem_singleton] at hx; subst hx; exact na_pb9 hk)
        replace ho := ho.trF flat_flat c21 (by intro k hk hx; simp only [List.mem_singleton] at hx; subst hx; exact na_ob9 hk)
        refine wops_nil ?_
        refine then_n ?_
        refine x_seq ?_
        refine x_region rfl ?_
        refine w_plain rfl (st_loadA (vs := [_, _]) T.agg27 rfl (hb22.cells (n := 2) (vs := [_, _]) rfl) rfl ?_)
        refine w_plain rfl (st_alloc T.zero27 ?_)
        intro b10 w23 e24 c25 hb26
        have ge_b10 : w.heap.size ≤ b10 := by rw [e24]; exact HC.size
        have ne_b9_b10 : b9 ≠ b10 := by rw [e24]; exact hb22.ne_size
        have na_pb10 : b10 ∉ ob A1 := hp.fresh (by rw [e24]; exact Nat.le_refl _)
        have na_ob10 : b10 ∉ ob A2 := ho.fresh (by rw [e24]; exact Nat.le_refl _)
        replace HC := HC.then c25
        replace hl := hl.tr0 c25
        replace hp := hp.tr0 c25
        replace ho := ho.tr0 c25
        replace hb22 := hb22.tr0 c25
        clear e24
        refine w_plain rfl (st_store (v := .agg ⟨[.int _ _, S _]⟩) T.size27 rfl rfl rfl hb26 rfl (Nat.le_of_ble_eq_true rfl) (by simp [Value.oneCell', S]) rfl ?_)
        intro w27 c28 hb29; simp only [setVs, setV] at hb29
        clear hb26
        replace HC := HC.then1 c28 ge_b10
        replace hl := hl.tr c28 (by intro k hx hD; simp only [List.mem_singleton] at hx; subst hx; omega)
        replace hp := hp.trF flat_flat c28 (by intro k hk hx; simp only [List.mem_singleton] at hx; subst hx; exact na_pb10 hk)
        replace ho := ho.trF flat_flat c28 (by intro k hk hx; simp only [List.mem_singleton] at hx; subst hx; exact na_ob10 hk)
        replace hb22 := hb22.tr1 c28 ne_b9_b10
        refine wops_nil ?_
        refine then_n ?_
        refine x_seq ?_
        refine x_seq ?_
        refine x_region rfl ?_
        refine w_plain rfl (st_fieldAddr T.fld27_0 rfl ?_)
        refine w_plain rfl (st_load1 (v := .int _ _) T.one3 rfl (hb22.cell rfl) ?_)
        refine w_plain rfl (st_eql rfl rfl ?_)
        refine wops_nil ?_
        refine then_n ?_
        refine x_cond rfl (fun h2 => ?_) (fun h2 => ?_)
        · skip
          try simp only [decide_eq_true_eq, decide_eq_false_iff_not, Bool.not_eq_true', Bool.not_eq_false', Bool.not_true, Bool.not_false, ne_eq, Int.toNat_natCast, Int.toNat_zero, Int.toNat_one, Bool.not_eq_true, Bool.not_eq_false] at h2
          refine x_region rfl ?_
          refine w_plain rfl (st_fieldAddr T.fld27_0 rfl ?_)
          refine w_plain rfl (st_store (v := .int _ _) T.size3 rfl rfl rfl hb29 rfl (Nat.le_of_ble_eq_true rfl) (by simp [Value.oneCell', S]) rfl ?_)
          intro w30 c31 hb32; simp only [setVs, setV] at hb32
          clear hb29
          replace HC := HC.then1 c31 ge_b10
          replace hl := hl.tr c31 (by intro k hx hD; simp only [List.mem_singleton] at hx; subst hx; omega)
          replace hp := hp.trF flat_flat c31 (by intro k hk hx; simp only [List.mem_singleton] at hx; subst hx; exact na_pb10 hk)
          replace ho := ho.trF flat_flat c31 (by intro k hk hx; simp only [List.mem_singleton] at hx; subst hx; exact na_ob10 hk)
          replace hb22 := hb22.tr1 c31 ne_b9_b10
          refine wops_nil ?_
          refine then_n ?_
          refine x_seq ?_
          have hother : otherP p = ⟨0, p.text⟩ := by unfold otherP; rw [if_pos h2]
          replace hb32 : Blk w30 b10 [.int .i64 (otherP p).kind, S (otherP p).text] 27 := by rw [hother]; exact hb32
          refine x_region rfl ?_
          refine w_plain rfl (st_move (v := .slice _ _ _) rfl ?_)
          refine w_plain rfl (st_loadA (vs := [_, _]) T.agg27 rfl (hb32.cells (n := 2) (vs := [_, _]) rfl) rfl ?_)
          refine w_plain rfl (st_lit (ps := [(0, .tmp 33)]) (vs := [.int _ _, S _]) T.lit22 (by decide) rfl (by simp only [List.forall_mem_cons, List.not_mem_nil, false_imp_iff, implies_true, and_true]; exact rfl) rfl ?_)
          intro b33 w34 e35 c36 hb37
          have ge_b33 : w.heap.size ≤ b33 := by rw [e35]; exact HC.size
          have ne_b9_b33 : b9 ≠ b33 := by rw [e35]; exact hb22.ne_size
          have ne_b10_b33 : b10 ≠ b33 := by rw [e35]; exact hb32.ne_size
          have na_pb33 : b33 ∉ ob A1 := hp.fresh (by rw [e35]; exact Nat.le_refl _)
          have na_ob33 : b33 ∉ ob A2 := ho.fresh (by rw [e35]; exact Nat.le_refl _)
          replace HC := HC.then c36
          replace hl := hl.tr0 c36
          replace hp := hp.tr0 c36
          replace ho := ho.tr0 c36
          replace hb22 := hb22.tr0 c36
          replace hb32 := hb32.tr0 c36
          clear e35
          have hltO := hp.lt
          have hszA := HC.size
          refine w_plain rfl (st_append2 (c := pE) (D2 := fun _ => False) (xs := (othersL (l.take i))) (ys := [otherP p]) T.slice22 rfl rfl ho rfl rfl (one_elem rfl (hb37.cells (n := 2) rfl)) (fun _ _ h => h.elim) (fun k hk => by omega) (by simp only [List.length_cons, List.length_nil]; omega) (by simp only [List.length_cons, List.length_nil]; omega) ?_)
          intro A38 cap39 w40 ho41 c42 hg43
          replace HC := HC.trans c42 (fun k hk => .inr (ho.inD k hk))
          replace hl := hl.tr c42 (fun k hk hD => by have := ho.inD k hk; omega)
          replace hp := hp.trF flat_flat c42 (fun k hk hx => hdis k hk hx)
          replace hb22 := hb22.tr c42 (fun hx => by first | exact na_ob9 hx | exact hav _ hx (by simp))
          replace hb32 := hb32.tr c42 (fun hx => by first | exact na_ob10 hx | exact hav _ hx (by simp))
          replace hb37 := hb37.tr c42 (fun hx => by first | exact na_ob33 hx | exact hav _ hx (by simp))
          replace hdis : ∀ k, k ∈ ob A1 → k ∉ ob A38 := fun k hk hx => (hg43 k hx).elim (fun h => hdis k hk h) (fun h => by have := hltO k hk; omega)
          refine w_plain rfl (st_assign (v := .slice _ _ _) rfl ?_)
          refine wops_nil ?_
          refine then_n ?_
          refine x_seq ?_
          refine x_seq ?_
          refine x_region rfl ?_
          refine w_plain rfl (st_fieldAddr T.fld27_0 rfl ?_)
          refine w_plain rfl (st_load1 (v := .int _ _) T.one3 rfl (hb22.cell rfl) ?_)
          refine w_plain rfl (st_eql rfl rfl ?_)
          refine w_plain rfl (st_move (v := .bool _) rfl ?_)
          refine w_split (d := 39) rfl (fun g44 => ?_) (fun g44 => ?_)
          · skip
            try simp only [decide_eq_true_eq, decide_eq_false_iff_not, Bool.not_eq_true', Bool.not_eq_false', Bool.not_true, Bool.not_false, ne_eq, Int.toNat_natCast, Int.toNat_zero, Int.toNat_one, Bool.not_eq_true, Bool.not_eq_false] at g44
            refine w_no 3 39 false rfl rfl rfl (by first | exact .inl rfl | exact .inr rfl) ?_
            refine w_no 3 39 false rfl rfl rfl (by first | exact .inl rfl | exact .inr rfl) ?_
            refine w_no 3 39 false rfl rfl rfl (by first | exact .inl rfl | exact .inr rfl) ?_
            refine w_plain rfl (st_pick (b := true) (v := .bool _) rfl rfl ?_)
            refine wops_nil ?_
            refine then_n ?_
            refine x_cond (t := true) rfl (fun h3 => ?_) (fun h3 => ?_)
            rotate_left
            · exact absurd h3 (by decide)
            have hq : plainQ p = false := by unfold plainQ; first | (rw [decide_eq_true (show p.kind = 3 by assumption)]; rfl) | (rw [decide_eq_true (show p.kind = 2 by assumption), Bool.or_true]; rfl)
            refine x_exit ?_
            refine then_x ?_
            refine block_x ?_
            refine then_n ?_
            refine x_region rfl ?_
            refine w_plain rfl (st_addn rfl rfl (by constructor <;> omega) ?_)
            refine w_plain rfl (st_move (v := .int _ _) rfl ?_)
            refine wops_nil ?_
            refine then_n ?_
            refine ⟨(i + 1, A1, cap1, A38, cap39), ?_, ?_, rfl, ⟨rfl, congrArg Value.bool (beg_skip hx10 hq).symm, by rw [plain_skip hx10 hq]; rfl, by rw [others_step hx10]; rfl, trivial⟩, ?_⟩
            · skip
              refine ⟨?_, HC, hl, (by rw [plain_skip hx10 hq]; exact hp), (by rw [others_step hx10]; exact ho41), hdis⟩
              show i + 1 ≤ l.length; omega
            · skip
              show l.length - (i + 1) < l.length - i; omega
            repeat (first | exact agree_upds agree_over rfl | refine agree_upd ?_ rfl | refine agree_upds ?_ rfl | refine agree_over_sub ?_ rfl)
          · skip
            try simp only [decide_eq_true_eq, decide_eq_false_iff_not, Bool.not_eq_true', Bool.not_eq_false', Bool.not_true, Bool.not_false, ne_eq, Int.toNat_natCast, Int.toNat_zero, Int.toNat_one, Bool.not_eq_true, Bool.not_eq_false] at g44
            refine w_yes 3 39 false rfl rfl rfl rfl (st_fieldAddr T.fld27_0 rfl ?_)
            refine w_yes 3 39 false rfl rfl rfl rfl (st_load1 (v := .int _ _) T.one3 rfl (hb22.cell rfl) ?_)
            refine w_yes 3 39 false rfl rfl rfl rfl (st_eql rfl rfl ?_)
            refine w_plain rfl (st_pick (b := false) (v := .bool _) rfl rfl ?_)
            refine wops_nil ?_
            refine then_n ?_
            refine x_cond rfl (fun h3 => ?_) (fun h3 => ?_)
            · skip
              try simp only [decide_eq_true_eq, decide_eq_false_iff_not, Bool.not_eq_true', Bool.not_eq_false', Bool.not_true, Bool.not_false, ne_eq, Int.toNat_natCast, Int.toNat_zero, Int.toNat_one, Bool.not_eq_true, Bool.not_eq_false] at h3
              have hq : plainQ p = false := by unfold plainQ; first | (rw [decide_eq_true (show p.kind = 3 by assumption)]; rfl) | (rw [decide_eq_true (show p.kind = 2 by assumption), Bool.or_true]; rfl)
              refine x_exit ?_
              refine then_x ?_
              refine block_x ?_
              refine then_n ?_
              refine x_region rfl ?_
              refine w_plain rfl (st_addn rfl rfl (by constructor <;> omega) ?_)
              refine w_plain rfl (st_move (v := .int _ _) rfl ?_)
              refine wops_nil ?_
              refine then_n ?_
              refine ⟨(i + 1, A1, cap1, A38, cap39), ?_, ?_, rfl, ⟨rfl, congrArg Value.bool (beg_skip hx10 hq).symm, by rw [plain_skip hx10 hq]; rfl, by rw [others_step hx10]; rfl, trivial⟩, ?_⟩
              · skip
                refine ⟨?_, HC, hl, (by rw [plain_skip hx10 hq]; exact hp), (by rw [others_step hx10]; exact ho41), hdis⟩
                show i + 1 ≤ l.length; omega
              · skip
                show l.length - (i + 1) < l.length - i; omega
              repeat (first | exact agree_upds agree_over rfl | refine agree_upd ?_ rfl | refine agree_upds ?_ rfl | refine agree_over_sub ?_ rfl)
            · skip
              try simp only [decide_eq_true_eq, decide_eq_false_iff_not, Bool.not_eq_true', Bool.not_eq_false', Bool.not_true, Bool.not_false, ne_eq, Int.toNat_natCast, Int.toNat_zero, Int.toNat_one, Bool.not_eq_true, Bool.not_eq_false] at h3
              have hq : plainQ p = true := by unfold plainQ; rw [decide_eq_false (show ¬ p.kind = 3 by assumption), decide_eq_false (show ¬ p.kind = 2 by assumption)]; rfl
              refine x_skip ?_
              refine then_n ?_
              refine x_seq ?_
              refine x_region rfl ?_
              refine w_plain rfl (st_move (v := .slice _ _ _) rfl ?_)
              refine w_plain rfl (st_loadA (vs := [_, _]) T.agg27 rfl (hb22.cells (n := 2) (vs := [_, _]) rfl) rfl ?_)
              refine w_plain rfl (st_lit (ps := [(0, .tmp 45)]) (vs := [.int _ _, S _]) T.lit22 (by decide) rfl (by simp only [List.forall_mem_cons, List.not_mem_nil, false_imp_iff, implies_true, and_true]; exact rfl) rfl ?_)
              intro b45 w46 e47 c48 hb49
              have ge_b45 : w.heap.size ≤ b45 := by rw [e47]; exact HC.size
              have ne_b9_b45 : b9 ≠ b45 := by rw [e47]; exact hb22.ne_size
              have ne_b10_b45 : b10 ≠ b45 := by rw [e47]; exact hb32.ne_size
              have ne_b33_b45 : b33 ≠ b45 := by rw [e47]; exact hb37.ne_size
              have na_pb45 : b45 ∉ ob A1 := hp.fresh (by rw [e47]; exact Nat.le_refl _)
              have na_ob45 : b45 ∉ ob A38 := ho41.fresh (by rw [e47]; exact Nat.le_refl _)
              replace HC := HC.then c48
              replace hl := hl.tr0 c48
              replace hp := hp.tr0 c48
              replace ho41 := ho41.tr0 c48
              replace hb22 := hb22.tr0 c48
              replace hb32 := hb32.tr0 c48
              replace hb37 := hb37.tr0 c48
              clear e47
              have hltO := ho41.lt
              have hszA := HC.size
              refine w_plain rfl (st_append2 (c := pE) (D2 := fun _ => False) (xs := (plainL (l.take i))) (ys := [p]) T.slice22 rfl rfl hp rfl rfl (one_elem rfl (hb49.cells (n := 2) rfl)) (fun _ _ h => h.elim) (fun k hk => by omega) (by simp only [List.length_cons, List.length_nil]; omega) (by simp only [List.length_cons, List.length_nil]; omega) ?_)
              intro A50 cap51 w52 ho53 c54 hg55
              replace HC := HC.trans c54 (fun k hk => .inr (hp.inD k hk))
              replace hl := hl.tr c54 (fun k hk hD => by have := hp.inD k hk; omega)
              replace ho41 := ho41.trF flat_flat c54 (fun k hk hx => hdis k hx hk)
              replace hb22 := hb22.tr c54 (fun hx => by first | exact na_pb9 hx | exact hav _ hx (by simp))
              replace hb32 := hb32.tr c54 (fun hx => by first | exact na_pb10 hx | exact hav _ hx (by simp))
              replace hb37 := hb37.tr c54 (fun hx => by first | exact na_pb33 hx | exact hav _ hx (by simp))
              replace hb49 := hb49.tr c54 (fun hx => by first | exact na_pb45 hx | exact hav _ hx (by simp))
              replace hdis : ∀ k, k ∈ ob A50 → k ∉ ob A38 := fun k hk hx => (hg55 k hk).elim (fun h => hdis k h hx) (fun h => by have := hltO k hx; omega)
              refine w_plain rfl (st_assign (v := .slice _ _ _) rfl ?_)
              refine wops_nil ?_
              refine then_n ?_
              refine x_region rfl ?_
              refine w_plain rfl (st_move (v := .bool _) rfl ?_)
              refine w_plain rfl (st_move (v := .bool _) rfl ?_)
              refine w_split (d := 49) rfl (fun g56 => ?_) (fun g56 => ?_)
              · skip
                try simp only [decide_eq_true_eq, decide_eq_false_iff_not, Bool.not_eq_true', Bool.not_eq_false', Bool.not_true, Bool.not_false, ne_eq, Int.toNat_natCast, Int.toNat_zero, Int.toNat_one, Bool.not_eq_true, Bool.not_eq_false] at g56
                refine w_no 1 49 false rfl rfl rfl (by first | exact .inl rfl | exact .inr rfl) ?_
                refine w_no 1 49 false rfl rfl rfl (by first | exact .inl rfl | exact .inr rfl) ?_
                refine w_no 1 49 false rfl rfl rfl (by first | exact .inl rfl | exact .inr rfl) ?_
                refine w_plain rfl (st_pick (b := true) (v := .bool _) rfl rfl ?_)
                refine w_plain rfl (st_move (v := .bool _) rfl ?_)
                refine w_no 6 54 false rfl rfl rfl (by first | exact .inl rfl | exact .inr rfl) ?_
                refine w_no 6 54 false rfl rfl rfl (by first | exact .inl rfl | exact .inr rfl) ?_
                refine w_no 6 54 false rfl rfl rfl (by first | exact .inl rfl | exact .inr rfl) ?_
                refine w_plain rfl (st_pick (b := true) (v := .bool _) rfl rfl ?_)
                refine w_plain rfl (st_assign (v := .bool _) rfl ?_)
                refine wops_nil ?_
                refine block_n ?_
                refine then_n ?_
                refine x_region rfl ?_
                refine w_plain rfl (st_addn rfl rfl (by constructor <;> omega) ?_)
                refine w_plain rfl (st_move (v := .int _ _) rfl ?_)
                refine wops_nil ?_
                refine then_n ?_
                refine ⟨(i + 1, A50, cap51, A38, cap39), ?_, ?_, rfl, ⟨rfl, (show Value.bool true = _ from congrArg Value.bool (by rw [beg_step hx10 hq]; first | (rw [show begB (l.take i) = true by assumption]; rfl) | (rw [show begB (l.take i) = false by assumption, decide_eq_true (show p.kind = 1 by assumption)]; rfl) | (rw [show begB (l.take i) = false by assumption, decide_eq_false (show ¬ p.kind = 1 by assumption)]; rfl))), by rw [plain_step hx10 hq]; rfl, by rw [others_step hx10]; rfl, trivial⟩, ?_⟩
                · skip
                  refine ⟨?_, HC, hl, (by rw [plain_step hx10 hq]; exact ho53), (by rw [others_step hx10]; exact ho41), hdis⟩
                  show i + 1 ≤ l.length; omega
                · skip
                  show l.length - (i + 1) < l.length - i; omega
                repeat (first | exact agree_upds agree_over rfl | refine agree_upd ?_ rfl | refine agree_upds ?_ rfl | refine agree_over_sub ?_ rfl)
              · skip
                try simp only [decide_eq_true_eq, decide_eq_false_iff_not, Bool.not_eq_true', Bool.not_eq_false', Bool.not_true, Bool.not_false, ne_eq, Int.toNat_natCast, Int.toNat_zero, Int.toNat_one, Bool.not_eq_true, Bool.not_eq_false] at g56
                refine w_yes 1 49 false rfl rfl rfl rfl (st_fieldAddr T.fld27_0 rfl ?_)
                refine w_yes 1 49 false rfl rfl rfl rfl (st_load1 (v := .int _ _) T.one3 rfl (hb22.cell rfl) ?_)
                refine w_yes 1 49 false rfl rfl rfl rfl (st_eql rfl rfl ?_)
                refine w_plain rfl (st_pick (b := false) (v := .bool _) rfl rfl ?_)
                refine w_plain rfl (st_move (v := .bool _) rfl ?_)
                refine w_split (d := 54) rfl (fun g57 => ?_) (fun g57 => ?_)
                · skip
                  try simp only [decide_eq_true_eq, decide_eq_false_iff_not, Bool.not_eq_true', Bool.not_eq_false', Bool.not_true, Bool.not_false, ne_eq, Int.toNat_natCast, Int.toNat_zero, Int.toNat_one, Bool.not_eq_true, Bool.not_eq_false] at g57
                  refine w_no 6 54 false rfl rfl rfl (by first | exact .inl rfl | exact .inr rfl) ?_
                  refine w_no 6 54 false rfl rfl rfl (by first | exact .inl rfl | exact .inr rfl) ?_
                  refine w_no 6 54 false rfl rfl rfl (by first | exact .inl rfl | exact .inr rfl) ?_
                  refine w_plain rfl (st_pick (b := true) (v := .bool _) rfl rfl ?_)
                  refine w_plain rfl (st_assign (v := .bool _) rfl ?_)
                  refine wops_nil ?_
                  refine block_n ?_
                  refine then_n ?_
                  refine x_region rfl ?_
                  refine w_plain rfl (st_addn rfl rfl (by constructor <;> omega) ?_)
                  refine w_plain rfl (st_move (v := .int _ _) rfl ?_)
                  refine wops_nil ?_
                  refine then_n ?_
                  refine ⟨(i + 1, A50, cap51, A38, cap39), ?_, ?_, rfl, ⟨rfl, (show Value.bool true = _ from congrArg Value.bool (by rw [beg_step hx10 hq]; first | (rw [show begB (l.take i) = true by assumption]; rfl) | (rw [show begB (l.take i) = false by assumption, decide_eq_true (show p.kind = 1 by assumption)]; rfl) | (rw [show begB (l.take i) = false by assumption, decide_eq_false (show ¬ p.kind = 1 by assumption)]; rfl))), by rw [plain_step hx10 hq]; rfl, by rw [others_step hx10]; rfl, trivial⟩, ?_⟩
                  · skip
                    refine ⟨?_, HC, hl, (by rw [plain_step hx10 hq]; exact ho53), (by rw [others_step hx10]; exact ho41), hdis⟩
                    show i + 1 ≤ l.length; omega
                  · skip
                    show l.length - (i + 1) < l.length - i; omega
                  repeat (first | exact agree_upds agree_over rfl | refine agree_upd ?_ rfl | refine agree_upds ?_ rfl | refine agree_over_sub ?_ rfl)
                · skip
                  try simp only [decide_eq_true_eq, decide_eq_false_iff_not, Bool.not_eq_true', Bool.not_eq_false', Bool.not_true, Bool.not_false, ne_eq, Int.toNat_natCast, Int.toNat_zero, Int.toNat_one, Bool.not_eq_true, Bool.not_eq_false] at g57
                  refine w_yes 6 54 false rfl rfl rfl rfl (st_fieldAddr T.fld27_1 rfl ?_)
                  refine w_yes 6 54 false rfl rfl rfl rfl (st_load1 (v := S _) T.one9 rfl (hb22.cell rfl) ?_)
                  refine w_yes 6 54 false rfl rfl rfl rfl (st_sneq rfl rfl ?_)
                  refine w_plain rfl (st_pick (b := false) (v := .bool _) rfl rfl ?_)
                  refine w_plain rfl (st_assign (v := .bool _) rfl ?_)
                  refine wops_nil ?_
                  refine block_n ?_
                  refine then_n ?_
                  refine x_region rfl ?_
                  refine w_plain rfl (st_addn rfl rfl (by constructor <;> omega) ?_)
                  refine w_plain rfl (st_move (v := .int _ _) rfl ?_)
                  refine wops_nil ?_
                  refine then_n ?_
                  refine ⟨(i + 1, A50, cap51, A38, cap39), ?_, ?_, rfl, ⟨rfl, (show Value.bool (!decide (p.text = [])) = _ from congrArg Value.bool (by rw [beg_step hx10 hq]; first | (rw [show begB (l.take i) = true by assumption]; rfl) | (rw [show begB (l.take i) = false by assumption, decide_eq_true (show p.kind = 1 by assumption)]; rfl) | (rw [show begB (l.take i) = false by assumption, decide_eq_false (show ¬ p.kind = 1 by assumption)]; rfl))), by rw [plain_step hx10 hq]; rfl, by rw [others_step hx10]; rfl, trivial⟩, ?_⟩
                  · skip
                    refine ⟨?_, HC, hl, (by rw [plain_step hx10 hq]; exact ho53), (by rw [others_step hx10]; exact ho41), hdis⟩
                    show i + 1 ≤ l.length; omega
                  · skip
                    show l.length - (i + 1) < l.length - i; omega
                  repeat (first | exact agree_upds agree_over rfl | refine agree_upd ?_ rfl | refine agree_upds ?_ rfl | refine agree_over_sub ?_ rfl)
        · skip
          try simp only [decide_eq_true_eq, decide_eq_false_iff_not, Bool.not_eq_true', Bool.not_eq_false', Bool.not_true, Bool.not_false, ne_eq, Int.toNat_natCast, Int.toNat_zero, Int.toNat_one, Bool.not_eq_true, Bool.not_eq_false] at h2
          have hother : otherP p = p := by unfold otherP; rw [if_neg h2]
          replace hb29 : Blk w27 b10 [.int .i64 (otherP p).kind, S (otherP p).text] 27 := by rw [hother]; exact hb29
          refine x_skip ?_
          refine then_n ?_
          refine x_seq ?_
          refine x_region rfl ?_
          refine w_plain rfl (st_move (v := .slice _ _ _) rfl ?_)
          refine w_plain rfl (st_loadA (vs := [_, _]) T.agg27 rfl (hb29.cells (n := 2) (vs := [_, _]) rfl) rfl ?_)
          refine w_plain rfl (st_lit (ps := [(0, .tmp 33)]) (vs := [.int _ _, S _]) T.lit22 (by decide) rfl (by simp only [List.forall_mem_cons, List.not_mem_nil, false_imp_iff, implies_true, and_true]; exact rfl) rfl ?_)
          intro b58 w59 e60 c61 hb62
          have ge_b58 : w.heap.size ≤ b58 := by rw [e60]; exact HC.size
          have ne_b9_b58 : b9 ≠ b58 := by rw [e60]; exact hb22.ne_size
          have ne_b10_b58 : b10 ≠ b58 := by rw [e60]; exact hb29.ne_size
          have na_pb58 : b58 ∉ ob A1 := hp.fresh (by rw [e60]; exact Nat.le_refl _)
          have na_ob58 : b58 ∉ ob A2 := ho.fresh (by rw [e60]; exact Nat.le_refl _)
          replace HC := HC.then c61
          replace hl := hl.tr0 c61
          replace hp := hp.tr0 c61
          replace ho := ho.tr0 c61
          replace hb22 := hb22.tr0 c61
          replace hb29 := hb29.tr0 c61
          clear e60
          have hltO := hp.lt
          have hszA := HC.size
          refine w_plain rfl (st_append2 (c := pE) (D2 := fun _ => False) (xs := (othersL (l.take i))) (ys := [otherP p]) T.slice22 rfl rfl ho rfl rfl (one_elem rfl (hb62.cells (n := 2) rfl)) (fun _ _ h => h.elim) (fun k hk => by omega) (by simp only [List.length_cons, List.length_nil]; omega) (by simp only [List.length_cons, List.length_nil]; omega) ?_)
          intro A63 cap64 w65 ho66 c67 hg68
          replace HC := HC.trans c67 (fun k hk => .inr (ho.inD k hk))
          replace hl := hl.tr c67 (fun k hk hD => by have := ho.inD k hk; omega)
          replace hp := hp.trF flat_flat c67 (fun k hk hx => hdis k hk hx)
          replace hb22 := hb22.tr c67 (fun hx => by first | exact na_ob9 hx | exact hav _ hx (by simp))
          replace hb29 := hb29.tr c67 (fun hx => by first | exact na_ob10 hx | exact hav _ hx (by simp))
          replace hb62 := hb62.tr c67 (fun hx => by first | exact na_ob58 hx | exact hav _ hx (by simp))
          replace hdis : ∀ k, k ∈ ob A1 → k ∉ ob A63 := fun k hk hx => (hg68 k hx).elim (fun h => hdis k hk h) (fun h => by have := hltO k hk; omega)
          refine w_plain rfl (st_assign (v := .slice _ _ _) rfl ?_)
          refine wops_nil ?_
          refine then_n ?_
          refine x_seq ?_
          refine x_seq ?_
          refine x_region rfl ?_
          refine w_plain rfl (st_fieldAddr T.fld27_0 rfl ?_)
          refine w_plain rfl (st_load1 (v := .int _ _) T.one3 rfl (hb22.cell rfl) ?_)
          refine w_plain rfl (st_eql rfl rfl ?_)
          refine w_plain rfl (st_move (v := .bool _) rfl ?_)
          refine w_split (d := 39) rfl (fun g69 => ?_) (fun g69 => ?_)
          · skip
            try simp only [decide_eq_true_eq, decide_eq_false_iff_not, Bool.not_eq_true', Bool.not_eq_false', Bool.not_true, Bool.not_false, ne_eq, Int.toNat_natCast, Int.toNat_zero, Int.toNat_one, Bool.not_eq_true, Bool.not_eq_false] at g69
            refine w_no 3 39 false rfl rfl rfl (by first | exact .inl rfl | exact .inr rfl) ?_
            refine w_no 3 39 false rfl rfl rfl (by first | exact .inl rfl | exact .inr rfl) ?_
            refine w_no 3 39 false rfl rfl rfl (by first | exact .inl rfl | exact .inr rfl) ?_
            refine w_plain rfl (st_pick (b := true) (v := .bool _) rfl rfl ?_)
            refine wops_nil ?_
            refine then_n ?_
            refine x_cond (t := true) rfl (fun h3 => ?_) (fun h3 => ?_)
            rotate_left
            · exact absurd h3 (by decide)
            have hq : plainQ p = false := by unfold plainQ; first | (rw [decide_eq_true (show p.kind = 3 by assumption)]; rfl) | (rw [decide_eq_true (show p.kind = 2 by assumption), Bool.or_true]; rfl)
            refine x_exit ?_
            refine then_x ?_
            refine block_x ?_
            refine then_n ?_
            refine x_region rfl ?_
            refine w_plain rfl (st_addn rfl rfl (by constructor <;> omega) ?_)
            refine w_plain rfl (st_move (v := .int _ _) rfl ?_)
            refine wops_nil ?_
            refine then_n ?_
            refine ⟨(i + 1, A1, cap1, A63, cap64), ?_, ?_, rfl, ⟨rfl, congrArg Value.bool (beg_skip hx10 hq).symm, by rw [plain_skip hx10 hq]; rfl, by rw [others_step hx10]; rfl, trivial⟩, ?_⟩
            · skip
              refine ⟨?_, HC, hl, (by rw [plain_skip hx10 hq]; exact hp), (by rw [others_step hx10]; exact ho66), hdis⟩
              show i + 1 ≤ l.length; omega
            · skip
              show l.length - (i + 1) < l.length - i; omega
            repeat (first | exact agree_upds agree_over rfl | refine agree_upd ?_ rfl | refine agree_upds ?_ rfl | refine agree_over_sub ?_ rfl)
          · skip
            try simp only [decide_eq_true_eq, decide_eq_false_iff_not, Bool.not_eq_true', Bool.not_eq_false', Bool.not_true, Bool.not_false, ne_eq, Int.toNat_natCast, Int.toNat_zero, Int.toNat_one, Bool.not_eq_true, Bool.not_eq_false] at g69
            refine w_yes 3 39 false rfl rfl rfl rfl (st_fieldAddr T.fld27_0 rfl ?_)
            refine w_yes 3 39 false rfl rfl rfl rfl (st_load1 (v := .int _ _) T.one3 rfl (hb22.cell rfl) ?_)
            refine w_yes 3 39 false rfl rfl rfl rfl (st_eql rfl rfl ?_)
            refine w_plain rfl (st_pick (b := false) (v := .bool _) rfl rfl ?_)
            refine wops_nil ?_
            refine then_n ?_
            refine x_cond rfl (fun h3 => ?_) (fun h3 => ?_)
            · skip
              try simp only [decide_eq_true_eq, decide_eq_false_iff_not, Bool.not_eq_true', Bool.not_eq_false', Bool.not_true, Bool.not_false, ne_eq, Int.toNat_natCast, Int.toNat_zero, Int.toNat_one, Bool.not_eq_true, Bool.not_eq_false] at h3
              have hq : plainQ p = false := by unfold plainQ; first | (rw [decide_eq_true (show p.kind = 3 by assumption)]; rfl) | (rw [decide_eq_true (show p.kind = 2 by assumption), Bool.or_true]; rfl)
              refine x_exit ?_
              refine then_x ?_
              refine block_x ?_
              refine then_n ?_
              refine x_region rfl ?_
              refine w_plain rfl (st_addn rfl rfl (by constructor <;> omega) ?_)
              refine w_plain rfl (st_move (v := .int _ _) rfl ?_)
              refine wops_nil ?_
              refine then_n ?_
              refine ⟨(i + 1, A1, cap1, A63, cap64), ?_, ?_, rfl, ⟨rfl, congrArg Value.bool (beg_skip hx10 hq).symm, by rw [plain_skip hx10 hq]; rfl, by rw [others_step hx10]; rfl, trivial⟩, ?_⟩
              · skip
                refine ⟨?_, HC, hl, (by rw [plain_skip hx10 hq]; exact hp), (by rw [others_step hx10]; exact ho66), hdis⟩
                show i + 1 ≤ l.length; omega
              · skip
                show l.length - (i + 1) < l.length - i; omega
              repeat (first | exact agree_upds agree_over rfl | refine agree_upd ?_ rfl | refine agree_upds ?_ rfl | refine agree_over_sub ?_ rfl)
            · skip
              try simp only [decide_eq_true_eq, decide_eq_false_iff_not, Bool.not_eq_true', Bool.not_eq_false', Bool.not_true, Bool.not_false, ne_eq, Int.toNat_natCast, Int.toNat_zero, Int.toNat_one, Bool.not_eq_true, Bool.not_eq_false] at h3
              have hq : plainQ p = true := by unfold plainQ; rw [decide_eq_false (show ¬ p.kind = 3 by assumption), decide_eq_false (show ¬ p.kind = 2 by assumption)]; rfl
              refine x_skip ?_
              refine then_n ?_
              refine x_seq ?_
              refine x_region rfl ?_
              refine w_plain rfl (st_move (v := .slice _ _ _) rfl ?_)
              refine w_plain rfl (st_loadA (vs := [_, _]) T.agg27 rfl (hb22.cells (n := 2) (vs := [_, _]) rfl) rfl ?_)
              refine w_plain rfl (st_lit (ps := [(0, .tmp 45)]) (vs := [.int _ _, S _]) T.lit22 (by decide) rfl (by simp only [List.forall_mem_cons, List.not_mem_nil, false_imp_iff, implies_true, and_true]; exact rfl) rfl ?_)
              intro b70 w71 e72 c73 hb74
              have ge_b70 : w.heap.size ≤ b70 := by rw [e72]; exact HC.size
              have ne_b9_b70 : b9 ≠ b70 := by rw [e72]; exact hb22.ne_size
              have ne_b10_b70 : b10 ≠ b70 := by rw [e72]; exact hb29.ne_size
              have ne_b58_b70 : b58 ≠ b70 := by rw [e72]; exact hb62.ne_size
              have na_pb70 : b70 ∉ ob A1 := hp.fresh (by rw [e72]; exact Nat.le_refl _)
              have na_ob70 : b70 ∉ ob A63 := ho66.fresh (by rw [e72]; exact Nat.le_refl _)
              replace HC := HC.then c73
              replace hl := hl.tr0 c73
              replace hp := hp.tr0 c73
              replace ho66 := ho66.tr0 c73
              replace hb22 := hb22.tr0 c73
              replace hb29 := hb29.tr0 c73
              replace hb62 := hb62.tr0 c73
              clear e72
              have hltO := ho66.lt
              have hszA := HC.size
              refine w_plain rfl (st_append2 (c := pE) (D2 := fun _ => False) (xs := (plainL (l.take i))) (ys := [p]) T.slice22 rfl rfl hp rfl rfl (one_elem rfl (hb74.cells (n := 2) rfl)) (fun _ _ h => h.elim) (fun k hk => by omega) (by simp only [List.length_cons, List.length_nil]; omega) (by simp only [List.length_cons, List.length_nil]; omega) ?_)
              intro A75 cap76 w77 ho78 c79 hg80
              replace HC := HC.trans c79 (fun k hk => .inr (hp.inD k hk))
              replace hl := hl.tr c79 (fun k hk hD => by have := hp.inD k hk; omega)
              replace ho66 := ho66.trF flat_flat c79 (fun k hk hx => hdis k hx hk)
              replace hb22 := hb22.tr c79 (fun hx => by first | exact na_pb9 hx | exact hav _ hx (by simp))
              replace hb29 := hb29.tr c79 (fun hx => by first | exact na_pb10 hx | exact hav _ hx (by simp))
              replace hb62 := hb62.tr c79 (fun hx => by first | exact na_pb58 hx | exact hav _ hx (by simp))
              replace hb74 := hb74.tr c79 (fun hx => by first | exact na_pb70 hx | exact hav _ hx (by simp))
              replace hdis : ∀ k, k ∈ ob A75 → k ∉ ob A63 := fun k hk hx => (hg80 k hk).elim (fun h => hdis k h hx) (fun h => by have := hltO k hx; omega)
              refine w_plain rfl (st_assign (v := .slice _ _ _) rfl ?_)
              refine wops_nil ?_
              refine then_n ?_
              refine x_region rfl ?_
              refine w_plain rfl (st_move (v := .bool _) rfl ?_)
              refine w_plain rfl (st_move (v := .bool _) rfl ?_)
              refine w_split (d := 49) rfl (fun g81 => ?_) (fun g81 => ?_)
              · skip
                try simp only [decide_eq_true_eq, decide_eq_false_iff_not, Bool.not_eq_true', Bool.not_eq_false', Bool.not_true, Bool.not_false, ne_eq, Int.toNat_natCast, Int.toNat_zero, Int.toNat_one, Bool.not_eq_true, Bool.not_eq_false] at g81
                refine w_no 1 49 false rfl rfl rfl (by first | exact .inl rfl | exact .inr rfl) ?_
                refine w_no 1 49 false rfl rfl rfl (by first | exact .inl rfl | exact .inr rfl) ?_
                refine w_no 1 49 false rfl rfl rfl (by first | exact .inl rfl | exact .inr rfl) ?_
                refine w_plain rfl (st_pick (b := true) (v := .bool _) rfl rfl ?_)
                refine w_plain rfl (st_move (v := .bool _) rfl ?_)
                refine w_no 6 54 false rfl rfl rfl (by first | exact .inl rfl | exact .inr rfl) ?_
                refine w_no 6 54 false rfl rfl rfl (by first | exact .inl rfl | exact .inr rfl) ?_
                refine w_no 6 54 false rfl rfl rfl (by first | exact .inl rfl | exact .inr rfl) ?_
                refine w_plain rfl (st_pick (b := true) (v := .bool _) rfl rfl ?_)
                refine w_plain rfl (st_assign (v := .bool _) rfl ?_)
                refine wops_nil ?_
                refine block_n ?_
                refine then_n ?_
                refine x_region rfl ?_
                refine w_plain rfl (st_addn rfl rfl (by constructor <;> omega) ?_)
                refine w_plain rfl (st_move (v := .int _ _) rfl ?_)
                refine wops_nil ?_
                refine then_n ?_
                refine ⟨(i + 1, A75, cap76, A63, cap64), ?_, ?_, rfl, ⟨rfl, (show Value.bool true = _ from congrArg Value.bool (by rw [beg_step hx10 hq]; first | (rw [show begB (l.take i) = true by assumption]; rfl) | (rw [show begB (l.take i) = false by assumption, decide_eq_true (show p.kind = 1 by assumption)]; rfl) | (rw [show begB (l.take i) = false by assumption, decide_eq_false (show ¬ p.kind = 1 by assumption)]; rfl))), by rw [plain_step hx10 hq]; rfl, by rw [others_step hx10]; rfl, trivial⟩, ?_⟩
                · skip
                  refine ⟨?_, HC, hl, (by rw [plain_step hx10 hq]; exact ho78), (by rw [others_step hx10]; exact ho66), hdis⟩
                  show i + 1 ≤ l.length; omega
                · skip
                  show l.length - (i + 1) < l.length - i; omega
                repeat (first | exact agree_upds agree_over rfl | refine agree_upd ?_ rfl | refine agree_upds ?_ rfl | refine agree_over_sub ?_ rfl)
              · skip
                try simp only [decide_eq_true_eq, decide_eq_false_iff_not, Bool.not_eq_true', Bool.not_eq_false', Bool.not_true, Bool.not_false, ne_eq, Int.toNat_natCast, Int.toNat_zero, Int.toNat_one, Bool.not_eq_true, Bool.not_eq_false] at g81
                refine w_yes 1 49 false rfl rfl rfl rfl (st_fieldAddr T.fld27_0 rfl ?_)
                refine w_yes 1 49 false rfl rfl rfl rfl (st_load1 (v := .int _ _) T.one3 rfl (hb22.cell rfl) ?_)
                refine w_yes 1 49 false rfl rfl rfl rfl (st_eql rfl rfl ?_)
                refine w_plain rfl (st_pick (b := false) (v := .bool _) rfl rfl ?_)
                refine w_plain rfl (st_move (v := .bool _) rfl ?_)
                refine w_split (d := 54) rfl (fun g82 => ?_) (fun g82 => ?_)
                · skip
                  try simp only [decide_eq_true_eq, decide_eq_false_iff_not, Bool.not_eq_true', Bool.not_eq_false', Bool.not_true, Bool.not_false, ne_eq, Int.toNat_natCast, Int.toNat_zero, Int.toNat_one, Bool.not_eq_true, Bool.not_eq_false] at g82
                  refine w_no 6 54 false rfl rfl rfl (by first | exact .inl rfl | exact .inr rfl) ?_
                  refine w_no 6 54 false rfl rfl rfl (by first | exact .inl rfl | exact .inr rfl) ?_
                  refine w_no 6 54 false rfl rfl rfl (by first | exact .inl rfl | exact .inr rfl) ?_
                  refine w_plain rfl (st_pick (b := true) (v := .bool _) rfl rfl ?_)
                  refine w_plain rfl (st_assign (v := .bool _) rfl ?_)
                  refine wops_nil ?_
                  refine block_n ?_
                  refine then_n ?_
                  refine x_region rfl ?_
                  refine w_plain rfl (st_addn rfl rfl (by constructor <;> omega) ?_)
                  refine w_plain rfl (st_move (v := .int _ _) rfl ?_)
                  refine wops_nil ?_
                  refine then_n ?_
                  refine ⟨(i + 1, A75, cap76, A63, cap64), ?_, ?_, rfl, ⟨rfl, (show Value.bool true = _ from congrArg Value.bool (by rw [beg_step hx10 hq]; first | (rw [show begB (l.take i) = true by assumption]; rfl) | (rw [show begB (l.take i) = false by assumption, decide_eq_true (show p.kind = 1 by assumption)]; rfl) | (rw [show begB (l.take i) = false by assumption, decide_eq_false (show ¬ p.kind = 1 by assumption)]; rfl))), by rw [plain_step hx10 hq]; rfl, by rw [others_step hx10]; rfl, trivial⟩, ?_⟩
                  · skip
                    refine ⟨?_, HC, hl, (by rw [plain_step hx10 hq]; exact ho78), (by rw [others_step hx10]; exact ho66), hdis⟩
                    show i + 1 ≤ l.length; omega
                  · skip
                    show l.length - (i + 1) < l.length - i; omega
                  repeat (first | exact agree_upds agree_over rfl | refine agree_upd ?_ rfl | refine agree_upds ?_ rfl | refine agree_over_sub ?_ rfl)
                · skip
                  try simp only [decide_eq_true_eq, decide_eq_false_iff_not, Bool.not_eq_true', Bool.not_eq_false', Bool.not_true, Bool.not_false, ne_eq, Int.toNat_natCast, Int.toNat_zero, Int.toNat_one, Bool.not_eq_true, Bool.not_eq_false] at g82
                  refine w_yes 6 54 false rfl rfl rfl rfl (st_fieldAddr T.fld27_1 rfl ?_)
                  refine w_yes 6 54 false rfl rfl rfl rfl (st_load1 (v := S _) T.one9 rfl (hb22.cell rfl) ?_)
                  refine w_yes 6 54 false rfl rfl rfl rfl (st_sneq rfl rfl ?_)
                  refine w_plain rfl (st_pick (b := false) (v := .bool _) rfl rfl ?_)
                  refine w_plain rfl (st_assign (v := .bool _) rfl ?_)
                  refine wops_nil ?_
                  refine block_n ?_
                  refine then_n ?_
                  refine x_region rfl ?_
                  refine w_plain rfl (st_addn rfl rfl (by constructor <;> omega) ?_)
                  refine w_plain rfl (st_move (v := .int _ _) rfl ?_)
                  refine wops_nil ?_
                  refine then_n ?_
                  refine ⟨(i + 1, A75, cap76, A63, cap64), ?_, ?_, rfl, ⟨rfl, (show Value.bool (!decide (p.text = [])) = _ from congrArg Value.bool (by rw [beg_step hx10 hq]; first | (rw [show begB (l.take i) = true by assumption]; rfl) | (rw [show begB (l.take i) = false by assumption, decide_eq_true (show p.kind = 1 by assumption)]; rfl) | (rw [show begB (l.take i) = false by assumption, decide_eq_false (show ¬ p.kind = 1 by assumption)]; rfl))), by rw [plain_step hx10 hq]; rfl, by rw [others_step hx10]; rfl, trivial⟩, ?_⟩
                  · skip
                    refine ⟨?_, HC, hl, (by rw [plain_step hx10 hq]; exact ho78), (by rw [others_step hx10]; exact ho66), hdis⟩
                    show i + 1 ≤ l.length; omega
                  · skip
                    show l.length - (i + 1) < l.length - i; omega
                  repeat (first | exact agree_upds agree_over rfl | refine agree_upd ?_ rfl | refine agree_upds ?_ rfl | refine agree_over_sub ?_ rfl)
      · skip
        try simp only [decide_eq_true_eq, decide_eq_false_iff_not, Bool.not_eq_true', Bool.not_eq_false', Bool.not_true, Bool.not_false, ne_eq, Int.toNat_natCast, Int.toNat_zero, Int.toNat_one, Bool.not_eq_true, Bool.not_eq_false] at h1
        refine x_exit ?_
        refine then_x ?_
        refine then_x ?_
        refine block_x ?_
        refine then_n ?_
        refine x_seq ?_
        have hlt : l.take i = l := List.take_of_length_le (by omega)
        have hp9 : Own pE 27 w8 (fun k => w.heap.size ≤ k) A1 cap1 (plainL l) := hlt ▸ hp
        have ho9 : Own pE 27 w8 (fun k => w.heap.size ≤ k) A2 cap2 (othersL l) := hlt ▸ ho
        rw [hlt]
        refine x_region rfl ?_
        refine w_plain rfl (st_move (v := .slice _ _ _) rfl ?_)
        refine w_plain rfl (st_move (v := S _) rfl ?_)
        refine w_plain rfl (st_call (ags := [_, _]) rfl rfl T.ent9 rfl (Split_spec (l := plainL l) ifs hp9.sl (by have := bulk_plain l; omega)) ?_)
        rintro _ w83 ⟨Aa21, capa21, rfl, hlea21, hcapa21, ha21, c84⟩
        replace ha21 := ha21.mono (D' := fun _ => True) (fun _ _ _ => trivial)
        have hAa21 := plain_law ifs l
        generalize haea21 : splitL (plainL l) ifs = a21 at hlea21 ha21 hAa21 ⊢
        replace HC := HC.then c84
        replace hl := hl.tr0 c84
        replace hp9 := hp9.tr0 c84
        replace ho9 := ho9.tr0 c84
        refine w_plain rfl (st_assign (v := .slice _ _ _) rfl ?_)
        refine wops_nil ?_
        refine then_n ?_
        refine x_seq ?_
        refine x_seq ?_
        refine x_split (d := 5) rfl (fun g85 => ?_) (fun g85 => ?_)
        · skip
          try simp only [decide_eq_true_eq, decide_eq_false_iff_not, Bool.not_eq_true', Bool.not_eq_false', Bool.not_true, Bool.not_false, ne_eq, Int.toNat_natCast, Int.toNat_zero, Int.toNat_one, Bool.not_eq_true, Bool.not_eq_false] at g85
          rw [if_pos g85] at hAa21
          have hl1 : a21.length = 1 := by rw [hAa21]; rfl
          obtain ⟨x86, hx87⟩ : ∃ x, a21[0]? = some x := ⟨_, List.getElem?_eq_getElem (by omega)⟩
          obtain ⟨lb92, _, vs91, hA88, hR90, hC89⟩ := ha21.at hx87
          obtain rfl : vs91 = [S x86.text, S x86.quoted] := hR90
          refine x_draw [(0, 0), (1, 0), (2, 0), (3, 0), (4, 0), (5, 0), (6, 0), (7, 0), (8, 0), (9, 0), (10, 0), (11, 0), (12, 0), (13, 0), (14, 0), (15, 0), (16, 0), (17, 0), (18, 1), (19, 0), (20, 0), (21, 0), (22, 0)] T.mixed rfl rfl rfl (fun W => W.heap[lb92]? = w83.heap[lb92]? ∧ True) ⟨rfl, trivial⟩ ?_
          have c94 := Chg.drew w83
          generalize World.drew w83 = w93 at c94 ⊢
          have ht_lb92 : lb92 < w93.heap.size ∧ w93.heap[lb92]? = w83.heap[lb92]? := ⟨Nat.lt_of_lt_of_le hC89.lt c94.size, c94.block lb92 hC89.lt (by simp)⟩
          replace HC := HC.then c94
          replace hl := hl.tr0 c94
          replace hp9 := hp9.tr0 c94
          replace ho9 := ho9.tr0 c94
          replace ha21 := ha21.tr0 c94
          refine sq_q rfl (fun W hT => r_move (v := .bool _) rfl) ?_
          refine sq_q rfl (fun W hT => r_not rfl) ?_
          refine sq_q rfl (fun W hT => r_move (v := .bool _) rfl) ?_
          refine sq_no rfl rfl ?_
          refine sq_no rfl rfl ?_
          refine sq_no rfl rfl ?_
          refine sq_q rfl (fun W hT => r_pick (b := false) (v := .bool _) rfl rfl) ?_
          refine sq_q rfl (fun W hT => r_move (v := .bool _) rfl) ?_
          refine sq_q rfl (fun W hT => r_move (v := .bool _) rfl) ?_
          refine sq_q rfl (fun W hT => r_move (v := .bool _) rfl) ?_
          refine sq_q rfl (fun W hT => r_move (v := .slice _ _ _) rfl) ?_
          refine sq_q rfl (fun W hT => r_len (ct := #[28]) (by rw [show ((#[28] : Array TypeId)[0]?).bind Try.prog.underlying = some (.slice 31) from T.u28]; rfl) rfl) ?_
          refine sq_q rfl (fun W hT => r_neq rfl rfl) ?_
          refine sq_q rfl (fun W hT => r_move (v := .bool _) rfl) ?_
          refine sq_split (d := 76) rfl (fun g95 => ?_) (fun g95 => ?_)
          · skip
            try simp only [decide_eq_true_eq, decide_eq_false_iff_not, Bool.not_eq_true', Bool.not_eq_false', Bool.not_true, Bool.not_false, ne_eq, Int.toNat_natCast, Int.toNat_zero, Int.toNat_one, Bool.not_eq_true, Bool.not_eq_false] at g95
            exact absurd (by rw [hl1]; rfl) g95
          · skip
            try simp only [decide_eq_true_eq, decide_eq_false_iff_not, Bool.not_eq_true', Bool.not_eq_false', Bool.not_true, Bool.not_false, ne_eq, Int.toNat_natCast, Int.toNat_zero, Int.toNat_one, Bool.not_eq_true, Bool.not_eq_false] at g95
            refine sq_q rfl (fun W hT => r_move (v := .slice _ _ _) rfl) ?_
            refine sq_q rfl (fun W hT => r_indexAddr T.u28 T.size31 (congrArg (fun z => Value.slice z _ _) hA88) rfl (by omega) (by omega)) ?_
            refine sq_q rfl (fun W hT => r_loadA (vs := [_, _]) T.agg31 rfl (Cells.tr hC89 hT.1) rfl) ?_
            refine sq_q rfl (fun W hT => r_move (v := .slice _ _ _) rfl) ?_
            refine sq_call1 rfl (r_call (ags := [_]) rfl rfl T.ent10 rfl) (Join_spec hp9.sl (by have := bulk_plain l; omega)) ?_
            rintro _ w96 ⟨rfl, c97⟩
            replace HC := HC.then c97
            replace hl := hl.tr0 c97
            replace hp9 := hp9.tr0 c97
            replace ho9 := ho9.tr0 c97
            replace ha21 := ha21.tr0 c97
            replace ht_lb92 := And.intro (Nat.lt_of_lt_of_le ht_lb92.1 c97.size) ((c97.block lb92 ht_lb92.1 (by simp)).trans ht_lb92.2)
            refine ⟨_, fun _ h => h, ⟨(by first | assumption | exact ht_lb92.2), trivial⟩, ?_⟩
            refine sq_q rfl (fun W hT => r_aneq (va := [_, _]) (vb := [_, _]) T.eq31 rfl rfl rfl) ?_
            refine sq_q rfl (fun W hT => r_pick (b := false) (v := .bool _) rfl rfl) ?_
            refine sq_q rfl (fun W hT => r_pick (b := true) (v := .bool _) rfl rfl) ?_
            refine sq_q rfl (fun W hT => r_pick (b := false) (v := .bool _) rfl rfl) ?_
            refine sq_nil ?_
            refine then_n ?_
            refine x_cond rfl (fun h4 => ?_) (fun h4 => ?_)
            · skip
              try simp only [decide_eq_true_eq, decide_eq_false_iff_not, Bool.not_eq_true', Bool.not_eq_false', Bool.not_true, Bool.not_false, ne_eq, Int.toNat_natCast, Int.toNat_zero, Int.toNat_one, Bool.not_eq_true, Bool.not_eq_false] at h4
              have hx0 := hx87
              rw [hAa21] at hx0
              simp only [List.getElem?_cons_zero, Option.some.injEq] at hx0
              subst hx0
              simp at h4
            · skip
              try simp only [decide_eq_true_eq, decide_eq_false_iff_not, Bool.not_eq_true', Bool.not_eq_false', Bool.not_true, Bool.not_false, ne_eq, Int.toNat_natCast, Int.toNat_zero, Int.toNat_one, Bool.not_eq_true, Bool.not_eq_false] at h4
              refine x_skip ?_
              refine then_n ?_
              refine x_seq ?_
              refine x_region rfl ?_
              refine w_plain rfl (st_move (v := .slice _ _ _) rfl ?_)
              refine w_plain rfl (st_call (ags := [_, _]) rfl rfl T.ent9 rfl (Split_spec (l := l) [] hl (by omega)) ?_)
              rintro _ w98 ⟨Aa22, capa22, rfl, hlea22, hcapa22, ha22, c99⟩
              replace ha22 := ha22.mono (D' := fun _ => True) (fun _ _ _ => trivial)
              generalize haea22 : splitL l [] = a22 at hlea22 ha22 ⊢
              replace HC := HC.then c99
              replace hl := hl.tr0 c99
              replace hp9 := hp9.tr0 c99
              replace ho9 := ho9.tr0 c99
              replace ha21 := ha21.tr0 c99
              replace ht_lb92 := And.intro (Nat.lt_of_lt_of_le ht_lb92.1 c99.size) ((c99.block lb92 ht_lb92.1 (by simp)).trans ht_lb92.2)
              refine w_plain rfl (st_move (v := .slice _ _ _) rfl ?_)
              refine w_plain rfl (st_move (v := S _) rfl ?_)
              refine w_plain rfl (st_call (ags := [_, _]) rfl rfl T.ent9 rfl (Split_spec (l := othersL l) ifs ho9.sl (by rw [bulk_others]; omega)) ?_)
              rintro _ w100 ⟨Aa23, capa23, rfl, hlea23, hcapa23, ha23, c101⟩
              replace ha23 := ha23.mono (D' := fun _ => True) (fun _ _ _ => trivial)
              generalize haea23 : splitL (othersL l) ifs = a23 at hlea23 ha23 ⊢
              replace HC := HC.then c101
              replace hl := hl.tr0 c101
              replace hp9 := hp9.tr0 c101
              replace ho9 := ho9.tr0 c101
              replace ha21 := ha21.tr0 c101
              replace ht_lb92 := And.intro (Nat.lt_of_lt_of_le ht_lb92.1 c101.size) ((c101.block lb92 ht_lb92.1 (by simp)).trans ht_lb92.2)
              replace ha22 := ha22.tr0 c101
              refine w_plain rfl (st_call (ags := [_, _]) rfl rfl T.ent11 rfl (RSame_spec ha22 ha23 (by omega)) ?_)
              rintro _ w102 ⟨rfl, c103⟩
              replace HC := HC.then c103
              replace hl := hl.tr0 c103
              replace hp9 := hp9.tr0 c103
              replace ho9 := ho9.tr0 c103
              replace ha21 := ha21.tr0 c103
              replace ht_lb92 := And.intro (Nat.lt_of_lt_of_le ht_lb92.1 c103.size) ((c103.block lb92 ht_lb92.1 (by simp)).trans ht_lb92.2)
              replace ha22 := ha22.tr0 c103
              replace ha23 := ha23.tr0 c103
              refine w_plain rfl (st_move (v := .bool _) rfl ?_)
              refine w_split (d := 92) rfl (fun g104 => ?_) (fun g104 => ?_)
              · skip
                try simp only [decide_eq_true_eq, decide_eq_false_iff_not, Bool.not_eq_true', Bool.not_eq_false', Bool.not_true, Bool.not_false, ne_eq, Int.toNat_natCast, Int.toNat_zero, Int.toNat_one, Bool.not_eq_true, Bool.not_eq_false] at g104
                refine w_yes 6 92 true rfl rfl rfl rfl (st_call (ags := []) rfl rfl T.ent8 rfl (awake_spec _) ?_)
                rintro _ w105 ⟨rfl, c106⟩
                replace HC := HC.then c106
                replace hl := hl.tr0 c106
                replace hp9 := hp9.tr0 c106
                replace ho9 := ho9.tr0 c106
                replace ha21 := ha21.tr0 c106
                replace ht_lb92 := And.intro (Nat.lt_of_lt_of_le ht_lb92.1 c106.size) ((c106.block lb92 ht_lb92.1 (by simp)).trans ht_lb92.2)
                replace ha22 := ha22.tr0 c106
                replace ha23 := ha23.tr0 c106
                refine w_plain rfl (st_pick (b := true) (v := .bool _) rfl rfl ?_)
                refine w_plain rfl (st_assign (v := .bool _) rfl ?_)
                refine wops_nil ?_
                refine then_n ?_
                refine x_ret ?_
                refine ret_tmp (v := .bool _) rfl rfl ?_
                exact ⟨rfl, HC⟩
              · skip
                try simp only [decide_eq_true_eq, decide_eq_false_iff_not, Bool.not_eq_true', Bool.not_eq_false', Bool.not_true, Bool.not_false, ne_eq, Int.toNat_natCast, Int.toNat_zero, Int.toNat_one, Bool.not_eq_true, Bool.not_eq_false] at g104
                exact absurd (by rw [← haea22, ← haea23]; exact others_law ifs l) g104
        · skip
          try simp only [decide_eq_true_eq, decide_eq_false_iff_not, Bool.not_eq_true', Bool.not_eq_false', Bool.not_true, Bool.not_false, ne_eq, Int.toNat_natCast, Int.toNat_zero, Int.toNat_one, Bool.not_eq_true, Bool.not_eq_false] at g85
          rw [if_neg (by rw [g85]; simp)] at hAa21
          have hl1 : a21.length = 0 := by rw [hAa21]; rfl
          refine x_draw [(0, 0), (1, 0), (2, 0), (3, 0), (4, 0), (5, 0), (6, 0), (7, 0), (8, 0), (9, 0), (10, 0), (11, 0), (12, 0), (13, 0), (14, 0), (15, 0), (16, 0), (17, 0), (18, 1), (19, 0), (20, 0), (21, 0), (22, 0)] T.mixed rfl rfl rfl (fun _ => True) trivial ?_
          have c108 := Chg.drew w83
          generalize World.drew w83 = w107 at c108 ⊢
          replace HC := HC.then c108
          replace hl := hl.tr0 c108
          replace hp9 := hp9.tr0 c108
          replace ho9 := ho9.tr0 c108
          replace ha21 := ha21.tr0 c108
          refine sq_q rfl (fun W hT => r_move (v := .bool _) rfl) ?_
          refine sq_q rfl (fun W hT => r_not rfl) ?_
          refine sq_q rfl (fun W hT => r_move (v := .bool _) rfl) ?_
          refine sq_q rfl (fun W hT => r_move (v := .slice _ _ _) rfl) ?_
          refine sq_q rfl (fun W hT => r_len (ct := #[28]) (by rw [show ((#[28] : Array TypeId)[0]?).bind Try.prog.underlying = some (.slice 31) from T.u28]; rfl) rfl) ?_
          refine sq_q rfl (fun W hT => r_neq rfl rfl) ?_
          refine sq_q rfl (fun W hT => r_pick (b := true) (v := .bool _) rfl rfl) ?_
          refine sq_q rfl (fun W hT => r_move (v := .bool _) rfl) ?_
          refine sq_split (d := 70) rfl (fun g109 => ?_) (fun g109 => ?_)
          · skip
            try simp only [decide_eq_true_eq, decide_eq_false_iff_not, Bool.not_eq_true', Bool.not_eq_false', Bool.not_true, Bool.not_false, ne_eq, Int.toNat_natCast, Int.toNat_zero, Int.toNat_one, Bool.not_eq_true, Bool.not_eq_false] at g109
            exact absurd (by rw [hl1]; rfl) g109
          · skip
            try simp only [decide_eq_true_eq, decide_eq_false_iff_not, Bool.not_eq_true', Bool.not_eq_false', Bool.not_true, Bool.not_false, ne_eq, Int.toNat_natCast, Int.toNat_zero, Int.toNat_one, Bool.not_eq_true, Bool.not_eq_false] at g109
            refine sq_q rfl (fun W hT => r_move (v := .bool _) rfl) ?_
            refine sq_q rfl (fun W hT => r_move (v := .bool _) rfl) ?_
            refine sq_no rfl rfl ?_
            refine sq_no rfl rfl ?_
            refine sq_no rfl rfl ?_
            refine sq_no rfl rfl ?_
            refine sq_no rfl rfl ?_
            refine sq_no rfl rfl ?_
            refine sq_no rfl rfl ?_
            refine sq_no rfl rfl ?_
            refine sq_no rfl rfl ?_
            refine sq_no rfl rfl ?_
            refine sq_no rfl rfl ?_
            refine sq_q rfl (fun W hT => r_pick (b := false) (v := .bool _) rfl rfl) ?_
            refine sq_q rfl (fun W hT => r_pick (b := false) (v := .bool _) rfl rfl) ?_
            refine sq_nil ?_
            refine then_n ?_
            refine x_cond (t := false) rfl (fun h4 => ?_) (fun h4 => ?_)
            · exact absurd h4 (by decide)
            refine x_skip ?_
            refine then_n ?_
            refine x_seq ?_
            refine x_region rfl ?_
            refine w_plain rfl (st_move (v := .slice _ _ _) rfl ?_)
            refine w_plain rfl (st_call (ags := [_, _]) rfl rfl T.ent9 rfl (Split_spec (l := l) [] hl (by omega)) ?_)
            rintro _ w110 ⟨Aa22, capa22, rfl, hlea22, hcapa22, ha22, c111⟩
            replace ha22 := ha22.mono (D' := fun _ => True) (fun _ _ _ => trivial)
            generalize haea22 : splitL l [] = a22 at hlea22 ha22 ⊢
            replace HC := HC.then c111
            replace hl := hl.tr0 c111
            replace hp9 := hp9.tr0 c111
            replace ho9 := ho9.tr0 c111
            replace ha21 := ha21.tr0 c111
            refine w_plain rfl (st_move (v := .slice _ _ _) rfl ?_)
            refine w_plain rfl (st_move (v := S _) rfl ?_)
            refine w_plain rfl (st_call (ags := [_, _]) rfl rfl T.ent9 rfl (Split_spec (l := othersL l) ifs ho9.sl (by rw [bulk_others]; omega)) ?_)
            rintro _ w112 ⟨Aa23, capa23, rfl, hlea23, hcapa23, ha23, c113⟩
            replace ha23 := ha23.mono (D' := fun _ => True) (fun _ _ _ => trivial)
            generalize haea23 : splitL (othersL l) ifs = a23 at hlea23 ha23 ⊢
            replace HC := HC.then c113
            replace hl := hl.tr0 c113
            replace hp9 := hp9.tr0 c113
            replace ho9 := ho9.tr0 c113
            replace ha21 := ha21.tr0 c113
            replace ha22 := ha22.tr0 c113
            refine w_plain rfl (st_call (ags := [_, _]) rfl rfl T.ent11 rfl (RSame_spec ha22 ha23 (by omega)) ?_)
            rintro _ w114 ⟨rfl, c115⟩
            replace HC := HC.then c115
            replace hl := hl.tr0 c115
            replace hp9 := hp9.tr0 c115
            replace ho9 := ho9.tr0 c115
            replace ha21 := ha21.tr0 c115
            replace ha22 := ha22.tr0 c115
            replace ha23 := ha23.tr0 c115
            refine w_plain rfl (st_move (v := .bool _) rfl ?_)
            refine w_split (d := 92) rfl (fun g116 => ?_) (fun g116 => ?_)
            · skip
              try simp only [decide_eq_true_eq, decide_eq_false_iff_not, Bool.not_eq_true', Bool.not_eq_false', Bool.not_true, Bool.not_false, ne_eq, Int.toNat_natCast, Int.toNat_zero, Int.toNat_one, Bool.not_eq_true, Bool.not_eq_false] at g116
              refine w_yes 6 92 true rfl rfl rfl rfl (st_call (ags := []) rfl rfl T.ent8 rfl (awake_spec _) ?_)
              rintro _ w117 ⟨rfl, c118⟩
              replace HC := HC.then c118
              replace hl := hl.tr0 c118
              replace hp9 := hp9.tr0 c118
              replace ho9 := ho9.tr0 c118
              replace ha21 := ha21.tr0 c118
              replace ha22 := ha22.tr0 c118
              replace ha23 := ha23.tr0 c118
              refine w_plain rfl (st_pick (b := true) (v := .bool _) rfl rfl ?_)
              refine w_plain rfl (st_assign (v := .bool _) rfl ?_)
              refine wops_nil ?_
              refine then_n ?_
              refine x_ret ?_
              refine ret_tmp (v := .bool _) rfl rfl ?_
              exact ⟨rfl, HC⟩
            · skip
              try simp only [decide_eq_true_eq, decide_eq_false_iff_not, Bool.not_eq_true', Bool.not_eq_false', Bool.not_true, Bool.not_false, ne_eq, Int.toNat_natCast, Int.toNat_zero, Int.toNat_one, Bool.not_eq_true, Bool.not_eq_false] at g116
              exact absurd (by rw [← haea22, ← haea23]; exact others_law ifs l) g116

end Go.Proofs.Ytbnbkndeodankaa.K
