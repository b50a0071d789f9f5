/- Walks. -/
import Derived.Test.YtbnbkndeodankaaFb
import Derived.Test.YtbnbkndeodankaaFw
import Derived.Test.YtbnbkndeodankaaTy
set_option linter.unusedVariables false
set_option linter.unusedSimpArgs false
set_option autoImplicit false
set_option maxRecDepth 20000
namespace Go.Proofs.Ytbnbkndeodankaa.K
open Go Go.Proofs Go.RowKit

theorem few_spec {l : List Piece} {Al : Option Addr} {capl : Nat} {D : Nat → Prop} {w : World} (hl : Sl pE w D Al l) (hT : ∀ p, p ∈ l → p.text.length ≤ 140737488355328) (hlen : l.length ≤ 9223372036854775807) :
    CallR Try.prog 7 #[.slice Al l.length capl] w fun v w' => v = .bool (fewB l) ∧ Chg [] w w' := by
  refine callR_of_wp (args := [_]) Try.func7 rfl (Nat.le_of_ble_eq_true rfl) ?_
  have HC : Chg [] w w := .refl _
  refine x_seq ?_
  refine x_region rfl ?_
  refine w_plain rfl (st_assign (v := .bool _) rfl ?_)
  refine wops_nil ?_
  refine then_n ?_
  refine x_seq ?_
  refine x_region rfl ?_
  refine w_plain rfl (st_assign (v := .int _ _) rfl ?_)
  refine wops_nil ?_
  refine then_n ?_
  refine x_seq ?_
  refine x_seq ?_
  refine x_region rfl ?_
  refine w_plain rfl (st_move (v := .slice _ _ _) rfl ?_)
  refine w_plain rfl (st_len (ct := #[22]) (by rw [show ((#[22] : Array TypeId)[0]?).bind Try.prog.underlying = some (.slice 27) from T.u22]; rfl) rfl ?_)
  refine w_plain rfl (st_move (v := .int _ _) rfl ?_)
  refine wops_nil ?_
  refine then_n ?_
  refine x_block ?_
  refine x_loop (ι := Nat) [2, 3, 5, 8, 9, 10, 11, 12, 13, 14, 15, 16, 17, 18, 19, 20, 21, 22, 23] (fun i => [(8, .int .i64 (i : Int)), (3, .int .i64 (textsP (l.take i) : Int))]) (fun i W => (i ≤ l.length ∧ textsP (l.take i) ≤ 2000) ∧ (Chg [] w W) ∧ (Sl pE W D Al l)) (fun i => l.length - i) 0 ?_ ?_ ?_
  · exact ⟨rfl, rfl, trivial⟩
  · skip
    refine ⟨?_, HC, hl⟩
    exact ⟨Nat.zero_le _, Nat.zero_le _⟩
  intro i G2 w1 ⟨⟨hi, ht⟩, HC, hl⟩
  change wp _ _ _ _ _ (upds (over _ _ G2) [(8, .int .i64 (i : Int)), (3, .int .i64 (textsP (l.take i) : Int))]) _ _
  refine x_seq ?_
  refine x_region rfl ?_
  refine w_plain rfl (st_lss rfl rfl ?_)
  refine wops_nil ?_
  refine then_n ?_
  refine x_seq ?_
  refine x_cond rfl (fun h0 => ?_) (fun h0 => ?_)
  · skip
    try simp only [decide_eq_true_eq, decide_eq_false_iff_not, Bool.not_eq_true', Bool.not_eq_false', Bool.not_true, Bool.not_false, ne_eq, Int.toNat_natCast, Int.toNat_zero, Int.toNat_one, Bool.not_eq_true, Bool.not_eq_false] at h0
    refine x_skip ?_
    refine then_n ?_
    refine x_seq ?_
    refine x_block ?_
    refine x_seq ?_
    refine x_region rfl ?_
    obtain ⟨p, hx3⟩ : ∃ x, l[i]? = some x := ⟨_, List.getElem?_eq_getElem (by omega)⟩
    obtain ⟨_, _, vs7, hA4, hR6, hC5⟩ := hl.at hx3
    obtain rfl : vs7 = [.int .i64 p.kind, S p.text] := hR6
    refine w_plain rfl (st_indexAddr T.u22 T.size27 (congrArg (fun z => Value.slice z _ _) hA4) rfl (by omega) (by omega) ?_)
    refine w_plain rfl (st_loadA (vs := [_, _]) T.agg27 rfl hC5 rfl ?_)
    refine w_plain rfl (st_alloc T.zero27 ?_)
    intro b5 w8 e9 c10 hb11
    have ge_b5 : w.heap.size ≤ b5 := by rw [e9]; exact HC.size
    have nf_hl_b5 : l = [] ∨ b5 ∉ ob (Al) := hl.fresh (by rw [e9]; exact Nat.le_refl _)
    replace HC := HC.then c10
    replace hl := hl.tr0 c10
    clear e9
    refine w_plain rfl (st_store (v := .agg ⟨[_, _]⟩) T.size27 rfl rfl rfl hb11 rfl (Nat.le_of_ble_eq_true rfl) (by simp [Value.oneCell', S]) rfl ?_)
    intro w12 c13 hb14; simp only [setVs, setV] at hb14
    clear hb11
    replace HC := HC.then1 c13 ge_b5
    replace hl := hl.trF flat_flat c13 (by intro k hx; simp only [List.mem_singleton] at hx; subst hx; exact nf_hl_b5)
    refine wops_nil ?_
    refine then_n ?_
    refine x_seq ?_
    have hpt := hT p (List.mem_of_getElem? hx3)
    have hts := texts_step hx3
    have htt := texts_take l (i + 1)
    refine x_region rfl ?_
    refine w_plain rfl (st_move (v := .int _ _) rfl ?_)
    refine w_plain rfl (st_fieldAddr T.fld27_1 rfl ?_)
    refine w_plain rfl (st_load1 (v := S _) T.one9 rfl (hb14.cell rfl) ?_)
    refine w_plain rfl (st_slen (ct := #[9]) T.u9 rfl ?_)
    refine w_plain rfl (st_addn rfl rfl (by constructor <;> omega) ?_)
    refine w_plain rfl (st_assign (v := .int _ _) rfl ?_)
    refine wops_nil ?_
    refine then_n ?_
    refine x_seq ?_
    refine x_region rfl ?_
    refine w_plain rfl (st_move (v := .int _ _) rfl ?_)
    refine w_plain rfl (st_gtr rfl rfl ?_)
    refine w_plain rfl (st_move (v := .bool _) rfl ?_)
    refine w_split (d := 19) rfl (fun g15 => ?_) (fun g15 => ?_)
    · skip
      try simp only [decide_eq_true_eq, decide_eq_false_iff_not, Bool.not_eq_true', Bool.not_eq_false', Bool.not_true, Bool.not_false, ne_eq, Int.toNat_natCast, Int.toNat_zero, Int.toNat_one, Bool.not_eq_true, Bool.not_eq_false] at g15
      refine w_no 2 19 false rfl rfl rfl (by first | exact .inl rfl | exact .inr rfl) ?_
      refine w_no 2 19 false rfl rfl rfl (by first | exact .inl rfl | exact .inr rfl) ?_
      refine w_plain rfl (st_pick (b := true) (v := .bool _) rfl rfl ?_)
      refine wops_nil ?_
      refine then_n ?_
      refine x_cond (t := true) rfl (fun h1 => ?_) (fun h1 => ?_)
      rotate_left
      · exact absurd h1 (by decide)
      refine x_seq ?_
      refine x_region rfl ?_
      refine w_plain rfl (st_assign (v := .bool _) rfl ?_)
      refine wops_nil ?_
      refine then_n ?_
      refine x_ret ?_
      refine block_r ?_
      refine then_r ?_
      refine then_r ?_
      refine block_r ?_
      refine then_r ?_
      refine ret_tmp (v := .bool _) rfl rfl ?_
      refine ⟨?_, HC⟩
      rw [fewB, show decide (textsP l ≤ 2000) = false by rw [decide_eq_false_iff_not]; omega]; rfl
    · skip
      try simp only [decide_eq_true_eq, decide_eq_false_iff_not, Bool.not_eq_true', Bool.not_eq_false', Bool.not_true, Bool.not_false, ne_eq, Int.toNat_natCast, Int.toNat_zero, Int.toNat_one, Bool.not_eq_true, Bool.not_eq_false] at g15
      refine w_yes 2 19 false rfl rfl rfl rfl (st_move (v := .int _ _) rfl ?_)
      refine w_yes 2 19 false rfl rfl rfl rfl (st_lss rfl rfl ?_)
      refine w_plain rfl (st_pick (b := false) (v := .bool _) rfl rfl ?_)
      refine wops_nil ?_
      refine then_n ?_
      refine x_cond rfl (fun h1 => ?_) (fun h1 => ?_)
      · skip
        try simp only [decide_eq_true_eq, decide_eq_false_iff_not, Bool.not_eq_true', Bool.not_eq_false', Bool.not_true, Bool.not_false, ne_eq, Int.toNat_natCast, Int.toNat_zero, Int.toNat_one, Bool.not_eq_true, Bool.not_eq_false] at h1
        refine x_seq ?_
        refine x_region rfl ?_
        refine w_plain rfl (st_assign (v := .bool _) rfl ?_)
        refine wops_nil ?_
        refine then_n ?_
        refine x_ret ?_
        refine block_r ?_
        refine then_r ?_
        refine then_r ?_
        refine block_r ?_
        refine then_r ?_
        refine ret_tmp (v := .bool _) rfl rfl ?_
        refine ⟨?_, HC⟩
        rw [fewB, show decide (textsP l ≤ 2000) = false by rw [decide_eq_false_iff_not]; omega]; rfl
      · skip
        try simp only [decide_eq_true_eq, decide_eq_false_iff_not, Bool.not_eq_true', Bool.not_eq_false', Bool.not_true, Bool.not_false, ne_eq, Int.toNat_natCast, Int.toNat_zero, Int.toNat_one, Bool.not_eq_true, Bool.not_eq_false] at h1
        refine x_skip ?_
        refine block_n ?_
        refine then_n ?_
        refine x_region rfl ?_
        refine w_plain rfl (st_addn rfl rfl (by constructor <;> omega) ?_)
        refine w_plain rfl (st_move (v := .int _ _) rfl ?_)
        refine wops_nil ?_
        refine then_n ?_
        refine ⟨i + 1, ?_, ?_, rfl, ⟨rfl, by rw [hts]; rfl, trivial⟩, ?_⟩
        · skip
          refine ⟨?_, HC, hl⟩
          exact ⟨by omega, by omega⟩
        · skip
          show l.length - (i + 1) < l.length - i; omega
        repeat (first | exact agree_upds agree_over rfl | refine agree_upd ?_ rfl)
  · skip
    try simp only [decide_eq_true_eq, decide_eq_false_iff_not, Bool.not_eq_true', Bool.not_eq_false', Bool.not_true, Bool.not_false, ne_eq, Int.toNat_natCast, Int.toNat_zero, Int.toNat_one, Bool.not_eq_true, Bool.not_eq_false] at h0
    refine x_exit ?_
    refine then_x ?_
    refine then_x ?_
    refine block_x ?_
    refine then_n ?_
    refine x_seq ?_
    refine x_region rfl ?_
    refine w_plain rfl (st_move (v := .slice _ _ _) rfl ?_)
    refine w_plain rfl (st_len (ct := #[22]) (by rw [show ((#[22] : Array TypeId)[0]?).bind Try.prog.underlying = some (.slice 27) from T.u22]; rfl) rfl ?_)
    refine w_plain rfl (st_leq rfl rfl ?_)
    refine w_plain rfl (st_assign (v := .bool _) rfl ?_)
    refine wops_nil ?_
    refine then_n ?_
    refine x_ret ?_
    refine ret_tmp (v := .bool _) rfl rfl ?_
    refine ⟨?_, HC⟩
    have e : l.take i = l := List.take_of_length_le (by omega); rw [e] at ht; rw [fewB, show decide (textsP l ≤ 2000) = true by rw [decide_eq_true_eq]; omega, Bool.true_and]; congr 1; simp only [decide_eq_decide]; omega

theorem awake1_spec (s ifs : Bytes) (w : World) (hs : s.length ≤ 1000) : CallR Try.prog 15 #[S s, S ifs] w fun v w' => v = S (showF (splitL [⟨2, s⟩] ifs)) ∧ Chg [] w w' := by
  refine callR_of_wp (args := [_, _]) Try.func15 rfl (Nat.le_of_ble_eq_true rfl) ?_
  have HC : Chg [] w w := .refl _
  refine x_seq ?_
  refine x_region rfl ?_
  refine w_plain rfl (st_assign (v := S _) rfl ?_)
  refine wops_nil ?_
  refine then_n ?_
  refine x_seq ?_
  refine x_region rfl ?_
  refine w_plain rfl (st_assign (v := S _) rfl ?_)
  refine wops_nil ?_
  refine then_n ?_
  refine x_seq ?_
  refine x_seq ?_
  refine x_region rfl ?_
  refine w_plain rfl (st_move (v := S _) rfl ?_)
  refine w_plain rfl (st_bld (ps := [(0, .const (.int .i64 2)), (1, .tmp 8)]) (vs := [_, _]) T.bld27 rfl ?_)
  refine w_plain rfl (st_lit (ps := [(0, .tmp 9)]) (vs := [_, _]) T.lit22 (by decide) rfl (by simp only [List.forall_mem_cons, List.not_mem_nil, false_imp_iff, implies_true, and_true]; exact rfl) rfl ?_)
  intro b1 w2 e3 c4 hb5
  have ge_b1 : w.heap.size ≤ b1 := by rw [e3]; exact HC.size
  replace HC := HC.then c4
  clear e3
  refine w_plain rfl (st_move (v := S _) rfl ?_)
  refine w_plain rfl (st_call (ags := [_, _]) rfl rfl T.ent9 rfl (Split_spec (l := [⟨2, s⟩]) ifs (Sl.of_one (c := pE) (x := ⟨2, s⟩) (D := fun _ => True) hb5 rfl trivial) (by simp only [bulkP]; omega)) ?_)
  rintro _ w6 ⟨A, cap, rfl, hle, hcap, ha, c7⟩
  have hsl := show_split ifs [⟨2, s⟩]
  have hsb : bulkP [⟨2, s⟩] ≤ 1001 := by simp only [bulkP]; omega
  replace ha := ha.mono (D' := fun _ => True) (fun _ _ _ => trivial)
  generalize hae : splitL [⟨2, s⟩] ifs = a at hle ha hsl ⊢
  replace HC := HC.then c7
  replace hb5 := hb5.tr0 c7
  refine w_plain rfl (st_len (ct := #[28]) (by rw [show ((#[28] : Array TypeId)[0]?).bind Try.prog.underlying = some (.slice 31) from T.u28]; rfl) rfl ?_)
  refine w_plain rfl (st_move (v := .int _ _) rfl ?_)
  refine wops_nil ?_
  refine then_n ?_
  refine x_block ?_
  refine x_loop (ι := Nat) [5, 7, 14, 15, 16, 17, 18, 19, 20, 21, 22, 23, 24] (fun i => [(14, .int .i64 (i : Int)), (5, S (showF (a.take i)))]) (fun i W => (i ≤ a.length) ∧ (Chg [] w W) ∧ (Sl fE W (fun _ => True) A a)) (fun i => a.length - i) 0 ?_ ?_ ?_
  · exact ⟨rfl, rfl, trivial⟩
  · skip
    refine ⟨?_, HC, ha⟩
    exact Nat.zero_le _
  intro i G9 w8 ⟨hi, HC, ha⟩
  change wp _ _ _ _ _ (upds (over _ _ G9) [(14, .int .i64 (i : Int)), (5, S (showF (a.take i)))]) _ _
  refine x_seq ?_
  refine x_region rfl ?_
  refine w_plain rfl (st_lss rfl rfl ?_)
  refine wops_nil ?_
  refine then_n ?_
  refine x_seq ?_
  refine x_cond rfl (fun h0 => ?_) (fun h0 => ?_)
  · skip
    try simp only [decide_eq_true_eq, decide_eq_false_iff_not, Bool.not_eq_true', Bool.not_eq_false', Bool.not_true, Bool.not_false, ne_eq, Int.toNat_natCast, Int.toNat_zero, Int.toNat_one, Bool.not_eq_true, Bool.not_eq_false] at h0
    refine x_skip ?_
    refine then_n ?_
    refine x_seq ?_
    refine x_block ?_
    refine x_seq ?_
    refine x_region rfl ?_
    obtain ⟨p, hx10⟩ : ∃ x, a[i]? = some x := ⟨_, List.getElem?_eq_getElem (by omega)⟩
    obtain ⟨_, _, vs14, hA11, hR13, hC12⟩ := ha.at hx10
    obtain rfl : vs14 = [S p.text, S p.quoted] := hR13
    refine w_plain rfl (st_indexAddr T.u28 T.size31 (congrArg (fun z => Value.slice z _ _) hA11) rfl (by omega) (by omega) ?_)
    refine w_plain rfl (st_loadA (vs := [_, _]) T.agg31 rfl hC12 rfl ?_)
    refine w_plain rfl (st_alloc T.zero31 ?_)
    intro b7 w15 e16 c17 hb18
    have ge_b7 : w.heap.size ≤ b7 := by rw [e16]; exact HC.size
    have nf_ha_b7 : a = [] ∨ b7 ∉ ob (A) := ha.fresh (by rw [e16]; exact Nat.le_refl _)
    replace HC := HC.then c17
    replace ha := ha.tr0 c17
    clear e16
    refine w_plain rfl (st_store (v := .agg ⟨[_, _]⟩) T.size31 rfl rfl rfl hb18 rfl (Nat.le_of_ble_eq_true rfl) (by simp [Value.oneCell', S]) rfl ?_)
    intro w19 c20 hb21; simp only [setVs, setV] at hb21
    clear hb18
    replace HC := HC.then1 c20 ge_b7
    replace ha := ha.trF flat_flat c20 (by intro k hx; simp only [List.mem_singleton] at hx; subst hx; exact nf_ha_b7)
    refine wops_nil ?_
    refine then_n ?_
    have hat := showF_at hx10
    refine x_region rfl ?_
    refine w_plain rfl (st_move (v := S _) rfl ?_)
    refine w_plain rfl (st_fieldAddr T.fld31_0 rfl ?_)
    refine w_plain rfl (st_load1 (v := S _) T.one9 rfl (hb21.cell rfl) ?_)
    refine w_plain rfl (st_sadd rfl rfl (by simp only [List.length_append, List.length_cons, List.length_nil] at *; omega) ?_)
    refine w_plain rfl (st_sadd rfl rfl (by simp only [List.length_append, List.length_cons, List.length_nil] at *; omega) ?_)
    refine w_plain rfl (st_sadd rfl rfl (by simp only [List.length_append, List.length_cons, List.length_nil] at *; omega) ?_)
    refine w_plain rfl (st_assign (v := S _) rfl ?_)
    refine wops_nil ?_
    refine block_n ?_
    refine then_n ?_
    refine x_region rfl ?_
    refine w_plain rfl (st_addn rfl rfl (by constructor <;> omega) ?_)
    refine w_plain rfl (st_move (v := .int _ _) rfl ?_)
    refine wops_nil ?_
    refine then_n ?_
    refine ⟨i + 1, ?_, ?_, rfl, ⟨rfl, by rw [showF_step hx10]; rfl, trivial⟩, ?_⟩
    · skip
      refine ⟨?_, HC, ha⟩
      show i + 1 ≤ a.length; omega
    · skip
      show a.length - (i + 1) < a.length - i; omega
    repeat (first | exact agree_upds agree_over rfl | refine agree_upd ?_ rfl)
  · skip
    try simp only [decide_eq_true_eq, decide_eq_false_iff_not, Bool.not_eq_true', Bool.not_eq_false', Bool.not_true, Bool.not_false, ne_eq, Int.toNat_natCast, Int.toNat_zero, Int.toNat_one, Bool.not_eq_true, Bool.not_eq_false] at h0
    refine x_exit ?_
    refine then_x ?_
    refine then_x ?_
    refine block_x ?_
    refine then_n ?_
    refine x_seq ?_
    refine x_region rfl ?_
    refine w_plain rfl (st_move (v := S _) rfl ?_)
    refine w_plain rfl (st_assign (v := S _) rfl ?_)
    refine wops_nil ?_
    refine then_n ?_
    refine x_ret ?_
    refine ret_tmp (v := S _) rfl rfl ?_
    refine ⟨?_, HC⟩
    rw [List.take_of_length_le (by omega)]

end Go.Proofs.Ytbnbkndeodankaa.K
