/- Forms of operations. -/
import Derived.Test.YtcgcbpknbjafcaaDoorCk
import Derived.Test.YtcgcbpknbjafcaaDoorKitO
set_option linter.unusedVariables false
set_option linter.unusedSimpArgs false
set_option autoImplicit false
set_option maxRecDepth 20000
namespace Go.Proofs.YtcgcbpknbjafcaaDoor.K
open Go Go.Proofs Go.RowKit

theorem un_one (c : UInt8) : decide (0 ≤ Lib.indexByte [43, 45, 33, 126] c) = decide ([c] ∈ unL) := by
  rw [decide_eq_decide]
  have hm : ([c] ∈ unL) ↔ (43 = c ∨ 45 = c ∨ 33 = c ∨ 126 = c) := by simp [unL, eq_comm]
  rw [hm]
  simp only [Lib.indexByte, beq_iff_eq]
  by_cases h1 : 43 = c
  · simp [h1]
  · by_cases h2 : 45 = c
    · simp [h1, h2]
    · by_cases h3 : 33 = c
      · simp [h1, h2, h3]
      · by_cases h4 : 126 = c
        · simp [h1, h2, h3, h4]
        · simp [h1, h2, h3, h4]
theorem SContains_un (s : Bytes) (w : World) (h : s.length = 1) : CallR Tryd.prog 86 #[S [43, 45, 33, 126], S s] w fun v w' => v = .bool (decide (s ∈ unL)) ∧ Chg [] w w' := by
  match s, h with
  | [c], _ => exact CallR.of (Tryd.strings_Contains_one ⟨⟨[43, 45, 33, 126]⟩⟩ c w) fun e w' ⟨h1, h2⟩ => ⟨_, h1, by rw [← un_one], .refl' h2⟩
theorem unL_len {s : Bytes} (h : s ∈ unL) : s.length = 1 := by revert s; decide
theorem ops_lv : ∀ o, o ∈ opsB → 0 < levelV o := by decide
theorem lvls_flat : lvls.flatten = opsB := by decide
theorem bin_yes {s : Bytes} {i : Nat} (h : s ∈ lvls.getD i []) : 0 < levelV s := by
  apply ops_lv
  rw [← lvls_flat, List.mem_flatten]
  rw [List.getD_eq_getElem?_getD] at h
  cases hx : lvls[i]? with
  | none => rw [hx] at h; cases h
  | some l => rw [hx] at h; exact ⟨l, List.mem_of_getElem? hx, h⟩
theorem bin_no {s : Bytes} (h : ∀ j, j < 10 → ¬ s ∈ lvls.getD j []) : ¬ 0 < levelV s := by
  intro hl
  have := lvl_in hl
  rw [← lvls_flat, List.mem_flatten] at this
  obtain ⟨l, h1, h2⟩ := this
  obtain ⟨i, hi, he⟩ := List.mem_iff_getElem.1 h1
  exact h i hi (by rw [List.getD_eq_getElem?_getD, List.getElem?_eq_getElem hi, he]; exact h2)

theorem AUnary_spec (s : Bytes) (w : World) : CallR Tryd.prog 69 #[S s] w fun v w' => v = .bool (decide (s ∈ unL)) ∧ Chg [] w w' := by
 refine callR_of_wp (args := [_]) Tryd.func69 rfl (Nat.le_of_ble_eq_true rfl) ?_
 have HC : Chg [] w w := .refl _
 refine x_seq ?_
 refine x_region rfl ?_
 refine w_plain rfl (st_assign (v := .bool _) rfl ?_)
 refine wops_nil ?_
 refine then_n ?_
 refine x_seq ?_
 refine x_region rfl ?_
 refine w_plain rfl (st_move (v := S _) rfl ?_)
 refine w_plain rfl (st_slen (ct := #[9]) T.u9 rfl ?_)
 refine w_plain rfl (st_eql rfl rfl ?_)
 refine w_plain rfl (st_move (v := .bool _) rfl ?_)
 refine w_split (d := 6) rfl (fun g1 => ?_) (fun g1 => ?_)
 ·skip
  try simp only [nm, ne_eq] at g1
  refine w_yes 3 6 true (st_move (v := S _) rfl ?_)
  refine w_yes 3 6 true (st_call (ags := [_, _]) rfl rfl T.ent86 rfl (SContains_un s _ (by omega)) ?_)
  rintro _ w2 ⟨rfl, c3⟩
  replace HC := HC.then c3
  refine w_plain rfl (st_pick (b := true) (v := .bool _) rfl rfl ?_)
  refine w_plain rfl (st_assign (v := .bool _) rfl ?_)
  refine wops_nil ?_
  refine then_n ?_
  refine x_ret ?_
  refine ret_tmp (v := .bool _) rfl rfl ?_
  refine ⟨congrArg Value.bool ?_, HC⟩
  first | rfl | (rw [decide_eq_false (fun h => by have := unL_len h; omega)]; done)
 ·skip
  try simp only [nm, ne_eq] at g1
  refine w_no 3 6 true ?_
  refine w_no 3 6 true ?_
  refine w_plain rfl (st_pick (b := false) (v := .bool _) rfl rfl ?_)
  refine w_plain rfl (st_assign (v := .bool _) rfl ?_)
  refine wops_nil ?_
  refine then_n ?_
  refine x_ret ?_
  refine ret_tmp (v := .bool _) rfl rfl ?_
  refine ⟨congrArg Value.bool ?_, HC⟩
  first | rfl | (rw [decide_eq_false (fun h => by have := unL_len h; omega)]; done)

theorem ABinary_spec (s : Bytes) (w : World) : CallR Tryd.prog 70 #[S s] w fun v w' => v = .bool (decide (0 < levelV s)) ∧ Chg [] w w' := by
 refine callR_of_wp (args := [_]) Tryd.func70 rfl (Nat.le_of_ble_eq_true rfl) ?_
 have HC : Chg [] w w := .refl _
 refine x_seq ?_
 refine x_region rfl ?_
 refine w_plain rfl (st_assign (v := .bool _) rfl ?_)
 refine wops_nil ?_
 refine then_n ?_
 refine x_seq ?_
 refine x_seq ?_
 refine x_region rfl ?_
 refine w_plain rfl (st_call (ags := []) rfl rfl T.ent87 rfl (levels_spec _) ?_)
 rintro _ w1 ⟨L0, L1, L2, L3, L4, L5, L6, L7, L8, L9, lc0, lc1, lc2, lc3, lc4, lc5, lc6, lc7, lc8, lc9, rfl, hlv, c2⟩
 replace HC := HC.then c2
 refine w_plain rfl (st_move (v := .int _ _) rfl ?_)
 refine wops_nil ?_
 refine then_n ?_
 refine x_block ?_
 refine x_loop (ι := Nat) [2, 4, 6, 7, 8, 9, 10, 11, 12] (fun i => [(6, .int .i64 (i : Int))]) (fun i W => (i ≤ 10 ∧ ∀ j, j < i → ¬ s ∈ lvls.getD j []) ∧ (Chg [] w W) ∧ (LvAt W (fun k => w.heap.size ≤ k ∧ k < w1.heap.size) [.slice L0 1 lc0, .slice L1 1 lc1, .slice L2 1 lc2, .slice L3 1 lc3, .slice L4 1 lc4, .slice L5 2 lc5, .slice L6 4 lc6, .slice L7 2 lc7, .slice L8 2 lc8, .slice L9 3 lc9] lvls)) (fun i => 10 - i) 0 ?_ ?_ ?_
 · exact ⟨rfl, trivial⟩
 ·skip
  refine ⟨?_, HC, hlv⟩
  exact ⟨by omega, fun j hj => absurd hj (by omega)⟩
 intro i G4 w3 ⟨⟨hi, hno⟩, HC, hlv⟩
 change wp _ _ _ _ _ (upds (over _ _ G4) [(6, .int .i64 (i : Int))]) _ _
 refine x_seq ?_
 refine x_region rfl ?_
 refine w_plain rfl (st_lss rfl rfl ?_)
 refine wops_nil ?_
 refine then_n ?_
 refine x_seq ?_
 refine x_cond rfl (fun h0 => ?_) (fun h0 => ?_)
 ·skip
  try simp only [nm, ne_eq] at h0
  refine x_skip ?_
  refine then_n ?_
  refine x_seq ?_
  refine x_block ?_
  refine x_seq ?_
  obtain ⟨Av, cv, hnv, hvS⟩ := hlv.get (n := i) (by show i < 10; omega)
  refine x_region rfl ?_
  refine w_plain rfl (st_aidx T.u94 T.size72 T.u72 rfl rfl (by omega) (by omega) (by exact hnv) ?_)
  refine w_plain rfl (st_assign (v := .slice _ _ _) rfl ?_)
  refine wops_nil ?_
  refine then_n ?_
  refine x_seq ?_
  refine x_region rfl ?_
  refine w_plain rfl (st_move (v := .slice _ _ _) rfl ?_)
  refine w_plain rfl (st_move (v := S _) rfl ?_)
  refine w_plain rfl (st_call (ags := [_, _]) rfl rfl T.ent78 rfl (Contains_spec (l := lvls.getD i []) s hvS (lv_len i)) ?_)
  rintro _ w5 ⟨rfl, c6⟩
  replace HC := HC.then c6
  replace hlv := hlv.tr c6 (fun k hx => absurd hx (by simp))
  refine wops_nil ?_
  refine then_n ?_
  refine x_cond rfl (fun h1 => ?_) (fun h1 => ?_)
  ·skip
   try simp only [nm, ne_eq] at h1
   refine x_seq ?_
   refine x_region rfl ?_
   refine w_plain rfl (st_assign (v := .bool _) rfl ?_)
   refine wops_nil ?_
   refine then_n ?_
   refine x_ret ?_
   refine block_r ?_
   refine then_r ?_
   refine then_r ?_
   refine block_r ?_
   refine then_r ?_
   refine ret_tmp (v := .bool _) rfl rfl ?_
   refine ⟨congrArg Value.bool ?_, HC⟩
   first | (rw [decide_eq_true (bin_yes h1)]; done) | (rw [decide_eq_false (bin_no (fun j hj => hno j (by omega)))]; done)
  ·skip
   try simp only [nm, ne_eq] at h1
   refine x_skip ?_
   refine block_n ?_
   refine then_n ?_
   refine x_region rfl ?_
   refine w_plain rfl (st_addn rfl rfl (by constructor <;> omega) ?_)
   refine w_plain rfl (st_move (v := .int _ _) rfl ?_)
   refine wops_nil ?_
   refine then_n ?_
   refine ⟨i + 1, ?_, ?_, rfl, ⟨rfl, trivial⟩, ?_⟩
   ·skip
    refine ⟨?_, HC, hlv⟩
    exact ⟨by omega, fun j hj => if hji : j = i then by subst hji; exact h1 else hno j (by omega)⟩
   ·skip
    show 10 - (i + 1) < 10 - i; omega
   repeat (first | exact agree_upds agree_over rfl | refine agree_upd ?_ rfl | refine agree_upds ?_ rfl | refine agree_over_sub ?_ rfl)
 ·skip
  try simp only [nm, ne_eq] at h0
  refine x_exit ?_
  refine then_x ?_
  refine then_x ?_
  refine block_x ?_
  refine then_n ?_
  refine x_seq ?_
  refine x_region rfl ?_
  refine w_plain rfl (st_assign (v := .bool _) rfl ?_)
  refine wops_nil ?_
  refine then_n ?_
  refine x_ret ?_
  refine ret_tmp (v := .bool _) rfl rfl ?_
  refine ⟨congrArg Value.bool ?_, HC⟩
  first | (rw [decide_eq_true (bin_yes h1)]; done) | (rw [decide_eq_false (bin_no (fun j hj => hno j (by omega)))]; done)

theorem AForm_spec {D : Nat → Prop} {x : Nd} {vs : List Value} {w : World} (hx : ndE.R w D x vs) (ht : Tab w) : CallR Tryd.prog 47 #[.agg ⟨vs⟩] w fun v w' => v = .bool (formP x) ∧ Chg [] w w' := by
 have ht1 := ht.lt
 obtain ⟨K, cx, rfl, hk1, hk2, hk3⟩ := hx
 refine callR_of_wp (args := [_]) Tryd.func47 rfl (Nat.le_of_ble_eq_true rfl) ?_
 have HC : Chg [] w w := .refl _
 refine x_seq ?_
 refine x_region rfl ?_
 refine w_plain rfl (st_box (v := .agg ⟨[S _, .int _ _, S _, .slice _ _ _]⟩) (vs := [_, _, _, _]) rfl rfl ?_)
 intro b1 w2 e3 c4 hb5
 have ge_b1 : w.heap.size ≤ b1 := by rw [e3]; exact HC.size
 replace HC := HC.then c4
 replace ht := ht.tr0 c4
 clear e3
 refine w_plain rfl (st_assign (v := .bool _) rfl ?_)
 refine wops_nil ?_
 refine then_n ?_
 refine x_seq ?_
 refine x_region rfl ?_
 refine w_plain rfl (st_assign (v := .int _ _) rfl ?_)
 refine w_plain rfl (st_assign (v := .bool _) rfl ?_)
 refine wops_nil ?_
 refine then_n ?_
 refine x_seq ?_
 refine x_block ?_
 refine x_seq ?_
 refine x_region rfl ?_
 refine w_plain rfl (st_fieldAddr T.fld60_0 rfl ?_)
 refine w_plain rfl (st_load1 (v := S _) T.one9 rfl (hb5.cell rfl) ?_)
 refine w_plain rfl (st_seql rfl rfl ?_)
 refine w_plain rfl (st_assign (v := .bool _) rfl ?_)
 refine wops_nil ?_
 refine then_n ?_
 refine x_cond rfl (fun h0 => ?_) (fun h0 => ?_)
 ·skip
  try simp only [nm, ne_eq] at h0
  refine x_seq ?_
  refine x_region rfl ?_
  refine w_plain rfl (st_fieldAddr T.fld60_3 rfl ?_)
  refine w_plain rfl (st_load1 (v := .slice _ _ _) T.one58 rfl (hb5.cell rfl) ?_)
  refine w_plain rfl (st_len (ct := #[58]) (by rw [show ((#[58] : Array TypeId)[0]?).bind Tryd.prog.underlying = some (.slice 3) from T.u58]; rfl) rfl ?_)
  refine w_plain rfl (st_eql rfl rfl ?_)
  refine w_plain rfl (st_move (v := .bool _) rfl ?_)
  refine w_split (d := 13) rfl (fun g6 => ?_) (fun g6 => ?_)
  ·skip
   try simp only [nm, ne_eq] at g6
   refine w_yes 4 13 true (st_fieldAddr T.fld60_2 rfl ?_)
   refine w_yes 4 13 true (st_load1 (v := S _) T.one9 rfl (hb5.cell rfl) ?_)
   refine w_yes 4 13 true (st_seql rfl rfl ?_)
   refine w_plain rfl (st_pick (b := true) (v := .bool _) rfl rfl ?_)
   refine w_plain rfl (st_move (v := .bool _) rfl ?_)
   refine w_split (d := 18) rfl (fun g7 => ?_) (fun g7 => ?_)
   ·skip
    try simp only [nm, ne_eq] at g7
    refine w_yes 9 18 true (st_fieldAddr T.fld60_1 rfl ?_)
    refine w_yes 9 18 true (st_load1 (v := .int _ _) T.one2 rfl (hb5.cell rfl) ?_)
    refine w_yes 9 18 true (st_geq rfl rfl ?_)
    refine w_plain rfl (st_pick (b := true) (v := .bool _) rfl rfl ?_)
    refine w_plain rfl (st_assign (v := .bool _) rfl ?_)
    refine wops_nil ?_
    refine then_n ?_
    refine x_ret ?_
    refine block_r ?_
    refine then_r ?_
    refine ret_tmp (v := .bool _) rfl rfl ?_
    refine ⟨congrArg Value.bool ?_, HC⟩
    rw [Bool.eq_iff_iff]
    unfold formP
    first | (simp_all; done) | (simp_all; intros; omega)
   ·skip
    try simp only [nm, ne_eq] at g7
    refine w_no 9 18 true ?_
    refine w_no 9 18 true ?_
    refine w_no 9 18 true ?_
    refine w_plain rfl (st_pick (b := false) (v := .bool _) rfl rfl ?_)
    refine w_plain rfl (st_assign (v := .bool _) rfl ?_)
    refine wops_nil ?_
    refine then_n ?_
    refine x_ret ?_
    refine block_r ?_
    refine then_r ?_
    refine ret_tmp (v := .bool _) rfl rfl ?_
    refine ⟨congrArg Value.bool ?_, HC⟩
    rw [Bool.eq_iff_iff]
    unfold formP
    first | (simp_all; done) | (simp_all; intros; omega)
  ·skip
   try simp only [nm, ne_eq] at g6
   refine w_no 4 13 true ?_
   refine w_no 4 13 true ?_
   refine w_no 4 13 true ?_
   refine w_plain rfl (st_pick (b := false) (v := .bool _) rfl rfl ?_)
   refine w_plain rfl (st_move (v := .bool _) rfl ?_)
   refine w_no 9 18 true ?_
   refine w_no 9 18 true ?_
   refine w_no 9 18 true ?_
   refine w_plain rfl (st_pick (b := false) (v := .bool _) rfl rfl ?_)
   refine w_plain rfl (st_assign (v := .bool _) rfl ?_)
   refine wops_nil ?_
   refine then_n ?_
   refine x_ret ?_
   refine block_r ?_
   refine then_r ?_
   refine ret_tmp (v := .bool _) rfl rfl ?_
   refine ⟨congrArg Value.bool ?_, HC⟩
   rw [Bool.eq_iff_iff]
   unfold formP
   first | (simp_all; done) | (simp_all; intros; omega)
 ·skip
  try simp only [nm, ne_eq] at h0
  refine x_seq ?_
  refine x_region rfl ?_
  refine w_plain rfl (st_fieldAddr T.fld60_0 rfl ?_)
  refine w_plain rfl (st_load1 (v := S _) T.one9 rfl (hb5.cell rfl) ?_)
  refine w_plain rfl (st_seql rfl rfl ?_)
  refine w_plain rfl (st_assign (v := .bool _) rfl ?_)
  refine wops_nil ?_
  refine then_n ?_
  refine x_cond rfl (fun h1 => ?_) (fun h1 => ?_)
  ·skip
   try simp only [nm, ne_eq] at h1
   refine x_region rfl ?_
   refine w_plain rfl (st_assign (v := .bool _) rfl ?_)
   refine wops_nil ?_
   refine block_n ?_
   refine then_n ?_
   refine x_seq ?_
   refine x_region rfl ?_
   refine w_plain rfl (st_fieldAddr T.fld60_3 rfl ?_)
   refine w_plain rfl (st_load1 (v := .slice _ _ _) T.one58 rfl (hb5.cell rfl) ?_)
   refine w_plain rfl (st_len (ct := #[58]) (by rw [show ((#[58] : Array TypeId)[0]?).bind Tryd.prog.underlying = some (.slice 3) from T.u58]; rfl) rfl ?_)
   refine w_plain rfl (st_move (v := .int _ _) rfl ?_)
   refine w_plain rfl (st_eql rfl rfl ?_)
   refine w_plain rfl (st_move (v := .bool _) rfl ?_)
   refine w_split (d := 61) rfl (fun g8 => ?_) (fun g8 => ?_)
   ·skip
    try simp only [nm, ne_eq] at g8
    refine w_yes 5 61 true (st_fieldAddr T.fld60_1 rfl ?_)
    refine w_yes 5 61 true (st_load1 (v := .int _ _) T.one2 rfl (hb5.cell rfl) ?_)
    refine w_yes 5 61 true (st_eql rfl rfl ?_)
    refine w_plain rfl (st_pick (b := true) (v := .bool _) rfl rfl ?_)
    refine w_plain rfl (st_move (v := .bool _) rfl ?_)
    refine w_split (d := 66) rfl (fun g9 => ?_) (fun g9 => ?_)
    ·skip
     try simp only [nm, ne_eq] at g9
     refine w_yes 10 66 true (st_move (v := .bool _) rfl ?_)
     refine w_yes 10 66 true (st_move (v := .bool _) rfl ?_)
     refine w_yes 12 68 true (st_fieldAddr T.fld60_2 rfl ?_)
     refine w_yes 12 68 true (st_load1 (v := S _) T.one9 rfl (hb5.cell rfl) ?_)
     refine w_yes 12 68 true (st_call (ags := [_]) rfl rfl T.ent71 rfl (CName_spec _ _) ?_)
     rintro _ w10 ⟨rfl, c11⟩
     replace HC := HC.then c11
     replace ht := ht.tr0 c11
     replace hb5 := hb5.tr0 c11
     refine w_yes 10 66 true (st_pick (b := true) (v := .bool _) rfl rfl ?_)
     refine w_yes 10 66 true (st_move (v := .bool _) rfl ?_)
     refine w_split (d := 73) rfl (fun g12 => ?_) (fun g12 => ?_)
     ·skip
      try simp only [nm, ne_eq] at g12
      refine w_no 17 73 false ?_
      refine w_no 17 73 false ?_
      refine w_no 17 73 false ?_
      refine w_no 20 76 true ?_
      refine w_no 20 76 true ?_
      refine w_no 20 76 true ?_
      refine w_no 17 73 false ?_
      refine w_yes 10 66 true (st_pick (b := true) (v := .bool _) rfl rfl ?_)
      refine w_plain rfl (st_pick (b := true) (v := .bool _) rfl rfl ?_)
      refine w_plain rfl (st_assign (v := .bool _) rfl ?_)
      refine wops_nil ?_
      refine then_n ?_
      refine x_ret ?_
      refine ret_tmp (v := .bool _) rfl rfl ?_
      refine ⟨congrArg Value.bool ?_, HC⟩
      rw [Bool.eq_iff_iff]
      unfold formP
      first | (simp_all; done) | (simp_all; intros; omega)
     ·skip
      try simp only [nm, ne_eq] at g12
      refine w_yes 17 73 false (st_move (v := .bool _) rfl ?_)
      refine w_yes 17 73 false (st_not rfl ?_)
      refine w_yes 17 73 false (st_move (v := .bool _) rfl ?_)
      refine w_no 20 76 true ?_
      refine w_no 20 76 true ?_
      refine w_no 20 76 true ?_
      refine w_yes 17 73 false (st_pick (b := false) (v := .bool _) rfl rfl ?_)
      refine w_yes 10 66 true (st_pick (b := false) (v := .bool _) rfl rfl ?_)
      refine w_plain rfl (st_pick (b := true) (v := .bool _) rfl rfl ?_)
      refine w_plain rfl (st_assign (v := .bool _) rfl ?_)
      refine wops_nil ?_
      refine then_n ?_
      refine x_ret ?_
      refine ret_tmp (v := .bool _) rfl rfl ?_
      refine ⟨congrArg Value.bool ?_, HC⟩
      rw [Bool.eq_iff_iff]
      unfold formP
      first | (simp_all; done) | (simp_all; intros; omega)
    ·skip
     try simp only [nm, ne_eq] at g9
     refine w_no 10 66 true ?_
     refine w_no 10 66 true ?_
     refine w_no 12 68 true ?_
     refine w_no 12 68 true ?_
     refine w_no 12 68 true ?_
     refine w_no 10 66 true ?_
     refine w_no 10 66 true ?_
     refine w_no 17 73 false ?_
     refine w_no 17 73 false ?_
     refine w_no 17 73 false ?_
     refine w_no 20 76 true ?_
     refine w_no 20 76 true ?_
     refine w_no 20 76 true ?_
     refine w_no 17 73 false ?_
     refine w_no 10 66 true ?_
     refine w_plain rfl (st_pick (b := false) (v := .bool _) rfl rfl ?_)
     refine w_plain rfl (st_assign (v := .bool _) rfl ?_)
     refine wops_nil ?_
     refine then_n ?_
     refine x_ret ?_
     refine ret_tmp (v := .bool _) rfl rfl ?_
     refine ⟨congrArg Value.bool ?_, HC⟩
     rw [Bool.eq_iff_iff]
     unfold formP
     first | (simp_all; done) | (simp_all; intros; omega)
   ·skip
    try simp only [nm, ne_eq] at g8
    refine w_no 5 61 true ?_
    refine w_no 5 61 true ?_
    refine w_no 5 61 true ?_
    refine w_plain rfl (st_pick (b := false) (v := .bool _) rfl rfl ?_)
    refine w_plain rfl (st_move (v := .bool _) rfl ?_)
    refine w_no 10 66 true ?_
    refine w_no 10 66 true ?_
    refine w_no 12 68 true ?_
    refine w_no 12 68 true ?_
    refine w_no 12 68 true ?_
    refine w_no 10 66 true ?_
    refine w_no 10 66 true ?_
    refine w_no 17 73 false ?_
    refine w_no 17 73 false ?_
    refine w_no 17 73 false ?_
    refine w_no 20 76 true ?_
    refine w_no 20 76 true ?_
    refine w_no 20 76 true ?_
    refine w_no 17 73 false ?_
    refine w_no 10 66 true ?_
    refine w_plain rfl (st_pick (b := false) (v := .bool _) rfl rfl ?_)
    refine w_plain rfl (st_assign (v := .bool _) rfl ?_)
    refine wops_nil ?_
    refine then_n ?_
    refine x_ret ?_
    refine ret_tmp (v := .bool _) rfl rfl ?_
    refine ⟨congrArg Value.bool ?_, HC⟩
    rw [Bool.eq_iff_iff]
    unfold formP
    first | (simp_all; done) | (simp_all; intros; omega)
  ·skip
   try simp only [nm, ne_eq] at h1
   refine x_seq ?_
   refine x_region rfl ?_
   refine w_plain rfl (st_fieldAddr T.fld60_0 rfl ?_)
   refine w_plain rfl (st_load1 (v := S _) T.one9 rfl (hb5.cell rfl) ?_)
   refine w_plain rfl (st_call (ags := [_]) rfl rfl T.ent58 rfl (assigns_spec _ _ ht) ?_)
   rintro _ w13 ⟨rfl, c14⟩
   replace HC := HC.then c14
   replace ht := ht.tr0 c14
   replace hb5 := hb5.tr0 c14
   refine w_plain rfl (st_assign (v := .bool _) rfl ?_)
   refine wops_nil ?_
   refine then_n ?_
   refine x_cond rfl (fun h2 => ?_) (fun h2 => ?_)
   ·skip
    try simp only [nm, ne_eq] at h2
    refine x_region rfl ?_
    refine w_plain rfl (st_assign (v := .int _ _) rfl ?_)
    refine w_plain rfl (st_assign (v := .bool _) rfl ?_)
    refine wops_nil ?_
    refine block_n ?_
    refine then_n ?_
    refine x_seq ?_
    refine x_region rfl ?_
    refine w_plain rfl (st_fieldAddr T.fld60_3 rfl ?_)
    refine w_plain rfl (st_load1 (v := .slice _ _ _) T.one58 rfl (hb5.cell rfl) ?_)
    refine w_plain rfl (st_len (ct := #[58]) (by rw [show ((#[58] : Array TypeId)[0]?).bind Tryd.prog.underlying = some (.slice 3) from T.u58]; rfl) rfl ?_)
    refine w_plain rfl (st_move (v := .int _ _) rfl ?_)
    refine w_plain rfl (st_eql rfl rfl ?_)
    refine w_plain rfl (st_move (v := .bool _) rfl ?_)
    refine w_split (d := 61) rfl (fun g15 => ?_) (fun g15 => ?_)
    ·skip
     try simp only [nm, ne_eq] at g15
     refine w_yes 5 61 true (st_fieldAddr T.fld60_1 rfl ?_)
     refine w_yes 5 61 true (st_load1 (v := .int _ _) T.one2 rfl (hb5.cell rfl) ?_)
     refine w_yes 5 61 true (st_eql rfl rfl ?_)
     refine w_plain rfl (st_pick (b := true) (v := .bool _) rfl rfl ?_)
     refine w_plain rfl (st_move (v := .bool _) rfl ?_)
     refine w_split (d := 66) rfl (fun g16 => ?_) (fun g16 => ?_)
     ·skip
      try simp only [nm, ne_eq] at g16
      refine w_yes 10 66 true (st_move (v := .bool _) rfl ?_)
      refine w_yes 10 66 true (st_move (v := .bool _) rfl ?_)
      refine w_yes 12 68 true (st_fieldAddr T.fld60_2 rfl ?_)
      refine w_yes 12 68 true (st_load1 (v := S _) T.one9 rfl (hb5.cell rfl) ?_)
      refine w_yes 12 68 true (st_call (ags := [_]) rfl rfl T.ent71 rfl (CName_spec _ _) ?_)
      rintro _ w17 ⟨rfl, c18⟩
      replace HC := HC.then c18
      replace ht := ht.tr0 c18
      replace hb5 := hb5.tr0 c18
      refine w_yes 10 66 true (st_pick (b := true) (v := .bool _) rfl rfl ?_)
      refine w_yes 10 66 true (st_move (v := .bool _) rfl ?_)
      refine w_split (d := 73) rfl (fun g19 => ?_) (fun g19 => ?_)
      ·skip
       try simp only [nm, ne_eq] at g19
       refine w_no 17 73 false ?_
       refine w_no 17 73 false ?_
       refine w_no 17 73 false ?_
       refine w_no 20 76 true ?_
       refine w_no 20 76 true ?_
       refine w_no 20 76 true ?_
       refine w_no 17 73 false ?_
       refine w_yes 10 66 true (st_pick (b := true) (v := .bool _) rfl rfl ?_)
       refine w_plain rfl (st_pick (b := true) (v := .bool _) rfl rfl ?_)
       refine w_plain rfl (st_assign (v := .bool _) rfl ?_)
       refine wops_nil ?_
       refine then_n ?_
       refine x_ret ?_
       refine ret_tmp (v := .bool _) rfl rfl ?_
       refine ⟨congrArg Value.bool ?_, HC⟩
       rw [Bool.eq_iff_iff]
       unfold formP
       first | (simp_all; done) | (simp_all; intros; omega)
      ·skip
       try simp only [nm, ne_eq] at g19
       refine w_yes 17 73 false (st_move (v := .bool _) rfl ?_)
       refine w_yes 17 73 false (st_not rfl ?_)
       refine w_yes 17 73 false (st_move (v := .bool _) rfl ?_)
       refine w_no 20 76 true ?_
       refine w_no 20 76 true ?_
       refine w_no 20 76 true ?_
       refine w_yes 17 73 false (st_pick (b := false) (v := .bool _) rfl rfl ?_)
       refine w_yes 10 66 true (st_pick (b := false) (v := .bool _) rfl rfl ?_)
       refine w_plain rfl (st_pick (b := true) (v := .bool _) rfl rfl ?_)
       refine w_plain rfl (st_assign (v := .bool _) rfl ?_)
       refine wops_nil ?_
       refine then_n ?_
       refine x_ret ?_
       refine ret_tmp (v := .bool _) rfl rfl ?_
       refine ⟨congrArg Value.bool ?_, HC⟩
       rw [Bool.eq_iff_iff]
       unfold formP
       first | (simp_all; done) | (simp_all; intros; omega)
     ·skip
      try simp only [nm, ne_eq] at g16
      refine w_no 10 66 true ?_
      refine w_no 10 66 true ?_
      refine w_no 12 68 true ?_
      refine w_no 12 68 true ?_
      refine w_no 12 68 true ?_
      refine w_no 10 66 true ?_
      refine w_no 10 66 true ?_
      refine w_no 17 73 false ?_
      refine w_no 17 73 false ?_
      refine w_no 17 73 false ?_
      refine w_no 20 76 true ?_
      refine w_no 20 76 true ?_
      refine w_no 20 76 true ?_
      refine w_no 17 73 false ?_
      refine w_no 10 66 true ?_
      refine w_plain rfl (st_pick (b := false) (v := .bool _) rfl rfl ?_)
      refine w_plain rfl (st_assign (v := .bool _) rfl ?_)
      refine wops_nil ?_
      refine then_n ?_
      refine x_ret ?_
      refine ret_tmp (v := .bool _) rfl rfl ?_
      refine ⟨congrArg Value.bool ?_, HC⟩
      rw [Bool.eq_iff_iff]
      unfold formP
      first | (simp_all; done) | (simp_all; intros; omega)
    ·skip
     try simp only [nm, ne_eq] at g15
     refine w_no 5 61 true ?_
     refine w_no 5 61 true ?_
     refine w_no 5 61 true ?_
     refine w_plain rfl (st_pick (b := false) (v := .bool _) rfl rfl ?_)
     refine w_plain rfl (st_move (v := .bool _) rfl ?_)
     refine w_no 10 66 true ?_
     refine w_no 10 66 true ?_
     refine w_no 12 68 true ?_
     refine w_no 12 68 true ?_
     refine w_no 12 68 true ?_
     refine w_no 10 66 true ?_
     refine w_no 10 66 true ?_
     refine w_no 17 73 false ?_
     refine w_no 17 73 false ?_
     refine w_no 17 73 false ?_
     refine w_no 20 76 true ?_
     refine w_no 20 76 true ?_
     refine w_no 20 76 true ?_
     refine w_no 17 73 false ?_
     refine w_no 10 66 true ?_
     refine w_plain rfl (st_pick (b := false) (v := .bool _) rfl rfl ?_)
     refine w_plain rfl (st_assign (v := .bool _) rfl ?_)
     refine wops_nil ?_
     refine then_n ?_
     refine x_ret ?_
     refine ret_tmp (v := .bool _) rfl rfl ?_
     refine ⟨congrArg Value.bool ?_, HC⟩
     rw [Bool.eq_iff_iff]
     unfold formP
     first | (simp_all; done) | (simp_all; intros; omega)
   ·skip
    try simp only [nm, ne_eq] at h2
    refine x_seq ?_
    refine x_region rfl ?_
    refine w_plain rfl (st_fieldAddr T.fld60_0 rfl ?_)
    refine w_plain rfl (st_load1 (v := S _) T.one9 rfl (hb5.cell rfl) ?_)
    refine w_plain rfl (st_slen (ct := #[9]) T.u9 rfl ?_)
    refine w_plain rfl (st_eql rfl rfl ?_)
    refine w_plain rfl (st_move (v := .bool _) rfl ?_)
    refine w_split (d := 36) rfl (fun g20 => ?_) (fun g20 => ?_)
    ·skip
     try simp only [nm, ne_eq] at g20
     refine w_yes 4 36 true (st_fieldAddr T.fld60_0 rfl ?_)
     refine w_yes 4 36 true (st_load1 (v := S _) T.one9 rfl (hb5.cell rfl) ?_)
     refine w_yes 4 36 true (st_sidx T.u9 rfl rfl (by omega) (by omega) ?_)
     refine w_yes 4 36 true (st_eql rfl rfl ?_)
     refine w_plain rfl (st_pick (b := true) (v := .bool _) rfl rfl ?_)
     refine w_plain rfl (st_move (v := .bool _) rfl ?_)
     refine w_split (d := 42) rfl (fun g21 => ?_) (fun g21 => ?_)
     ·skip
      try simp only [nm, ne_eq] at g21
      refine w_yes 10 42 true (st_fieldAddr T.fld60_0 rfl ?_)
      refine w_yes 10 42 true (st_load1 (v := S _) T.one9 rfl (hb5.cell rfl) ?_)
      refine w_yes 10 42 true (st_sslo (i := 1) T.u9 rfl ⟨_, rfl⟩ (by omega) ?_)
      refine w_yes 10 42 true (st_call (ags := [_]) rfl rfl T.ent69 rfl (AUnary_spec _ _) ?_)
      rintro _ w22 ⟨rfl, c23⟩
      replace HC := HC.then c23
      replace ht := ht.tr0 c23
      replace hb5 := hb5.tr0 c23
      refine w_plain rfl (st_pick (b := true) (v := .bool _) rfl rfl ?_)
      refine w_plain rfl (st_assign (v := .bool _) rfl ?_)
      refine wops_nil ?_
      refine then_n ?_
      refine x_cond rfl (fun h3 => ?_) (fun h3 => ?_)
      ·skip
       try simp only [nm, ne_eq] at h3
       refine x_region rfl ?_
       refine w_plain rfl (st_assign (v := .int _ _) rfl ?_)
       refine wops_nil ?_
       refine block_n ?_
       refine then_n ?_
       refine x_seq ?_
       refine x_region rfl ?_
       refine w_plain rfl (st_fieldAddr T.fld60_3 rfl ?_)
       refine w_plain rfl (st_load1 (v := .slice _ _ _) T.one58 rfl (hb5.cell rfl) ?_)
       refine w_plain rfl (st_len (ct := #[58]) (by rw [show ((#[58] : Array TypeId)[0]?).bind Tryd.prog.underlying = some (.slice 3) from T.u58]; rfl) rfl ?_)
       refine w_plain rfl (st_move (v := .int _ _) rfl ?_)
       refine w_plain rfl (st_eql rfl rfl ?_)
       refine w_plain rfl (st_move (v := .bool _) rfl ?_)
       refine w_split (d := 61) rfl (fun g24 => ?_) (fun g24 => ?_)
       ·skip
        try simp only [nm, ne_eq] at g24
        refine w_yes 5 61 true (st_fieldAddr T.fld60_1 rfl ?_)
        refine w_yes 5 61 true (st_load1 (v := .int _ _) T.one2 rfl (hb5.cell rfl) ?_)
        refine w_yes 5 61 true (st_eql rfl rfl ?_)
        refine w_plain rfl (st_pick (b := true) (v := .bool _) rfl rfl ?_)
        refine w_plain rfl (st_move (v := .bool _) rfl ?_)
        refine w_split (d := 66) rfl (fun g25 => ?_) (fun g25 => ?_)
        ·skip
         try simp only [nm, ne_eq] at g25
         refine w_yes 10 66 true (st_move (v := .bool _) rfl ?_)
         refine w_yes 10 66 true (st_move (v := .bool _) rfl ?_)
         refine w_no 12 68 true ?_
         refine w_no 12 68 true ?_
         refine w_no 12 68 true ?_
         refine w_yes 10 66 true (st_pick (b := false) (v := .bool _) rfl rfl ?_)
         refine w_yes 10 66 true (st_move (v := .bool _) rfl ?_)
         refine w_yes 17 73 false (st_move (v := .bool _) rfl ?_)
         refine w_yes 17 73 false (st_not rfl ?_)
         refine w_yes 17 73 false (st_move (v := .bool _) rfl ?_)
         refine w_yes 20 76 true (st_fieldAddr T.fld60_2 rfl ?_)
         refine w_yes 20 76 true (st_load1 (v := S _) T.one9 rfl (hb5.cell rfl) ?_)
         refine w_yes 20 76 true (st_seql rfl rfl ?_)
         refine w_yes 17 73 false (st_pick (b := true) (v := .bool _) rfl rfl ?_)
         refine w_yes 10 66 true (st_pick (b := false) (v := .bool _) rfl rfl ?_)
         refine w_plain rfl (st_pick (b := true) (v := .bool _) rfl rfl ?_)
         refine w_plain rfl (st_assign (v := .bool _) rfl ?_)
         refine wops_nil ?_
         refine then_n ?_
         refine x_ret ?_
         refine ret_tmp (v := .bool _) rfl rfl ?_
         refine ⟨congrArg Value.bool ?_, HC⟩
         rw [Bool.eq_iff_iff]
         unfold formP
         first | (simp_all; done) | (simp_all; intros; omega)
        ·skip
         try simp only [nm, ne_eq] at g25
         refine w_no 10 66 true ?_
         refine w_no 10 66 true ?_
         refine w_no 12 68 true ?_
         refine w_no 12 68 true ?_
         refine w_no 12 68 true ?_
         refine w_no 10 66 true ?_
         refine w_no 10 66 true ?_
         refine w_no 17 73 false ?_
         refine w_no 17 73 false ?_
         refine w_no 17 73 false ?_
         refine w_no 20 76 true ?_
         refine w_no 20 76 true ?_
         refine w_no 20 76 true ?_
         refine w_no 17 73 false ?_
         refine w_no 10 66 true ?_
         refine w_plain rfl (st_pick (b := false) (v := .bool _) rfl rfl ?_)
         refine w_plain rfl (st_assign (v := .bool _) rfl ?_)
         refine wops_nil ?_
         refine then_n ?_
         refine x_ret ?_
         refine ret_tmp (v := .bool _) rfl rfl ?_
         refine ⟨congrArg Value.bool ?_, HC⟩
         rw [Bool.eq_iff_iff]
         unfold formP
         first | (simp_all; done) | (simp_all; intros; omega)
       ·skip
        try simp only [nm, ne_eq] at g24
        refine w_no 5 61 true ?_
        refine w_no 5 61 true ?_
        refine w_no 5 61 true ?_
        refine w_plain rfl (st_pick (b := false) (v := .bool _) rfl rfl ?_)
        refine w_plain rfl (st_move (v := .bool _) rfl ?_)
        refine w_no 10 66 true ?_
        refine w_no 10 66 true ?_
        refine w_no 12 68 true ?_
        refine w_no 12 68 true ?_
        refine w_no 12 68 true ?_
        refine w_no 10 66 true ?_
        refine w_no 10 66 true ?_
        refine w_no 17 73 false ?_
        refine w_no 17 73 false ?_
        refine w_no 17 73 false ?_
        refine w_no 20 76 true ?_
        refine w_no 20 76 true ?_
        refine w_no 20 76 true ?_
        refine w_no 17 73 false ?_
        refine w_no 10 66 true ?_
        refine w_plain rfl (st_pick (b := false) (v := .bool _) rfl rfl ?_)
        refine w_plain rfl (st_assign (v := .bool _) rfl ?_)
        refine wops_nil ?_
        refine then_n ?_
        refine x_ret ?_
        refine ret_tmp (v := .bool _) rfl rfl ?_
        refine ⟨congrArg Value.bool ?_, HC⟩
        rw [Bool.eq_iff_iff]
        unfold formP
        first | (simp_all; done) | (simp_all; intros; omega)
      ·skip
       try simp only [nm, ne_eq] at h3
       refine x_seq ?_
       refine x_region rfl ?_
       refine w_plain rfl (st_fieldAddr T.fld60_0 rfl ?_)
       refine w_plain rfl (st_load1 (v := S _) T.one9 rfl (hb5.cell rfl) ?_)
       refine w_plain rfl (st_seql rfl rfl ?_)
       refine w_plain rfl (st_assign (v := .bool _) rfl ?_)
       refine wops_nil ?_
       refine then_n ?_
       refine x_cond rfl (fun h4 => ?_) (fun h4 => ?_)
       ·skip
        try simp only [nm, ne_eq] at h4
        refine x_region rfl ?_
        refine w_plain rfl (st_assign (v := .int _ _) rfl ?_)
        refine wops_nil ?_
        refine block_n ?_
        refine then_n ?_
        refine x_seq ?_
        refine x_region rfl ?_
        refine w_plain rfl (st_fieldAddr T.fld60_3 rfl ?_)
        refine w_plain rfl (st_load1 (v := .slice _ _ _) T.one58 rfl (hb5.cell rfl) ?_)
        refine w_plain rfl (st_len (ct := #[58]) (by rw [show ((#[58] : Array TypeId)[0]?).bind Tryd.prog.underlying = some (.slice 3) from T.u58]; rfl) rfl ?_)
        refine w_plain rfl (st_move (v := .int _ _) rfl ?_)
        refine w_plain rfl (st_eql rfl rfl ?_)
        refine w_plain rfl (st_move (v := .bool _) rfl ?_)
        refine w_split (d := 61) rfl (fun g26 => ?_) (fun g26 => ?_)
        ·skip
         try simp only [nm, ne_eq] at g26
         refine w_yes 5 61 true (st_fieldAddr T.fld60_1 rfl ?_)
         refine w_yes 5 61 true (st_load1 (v := .int _ _) T.one2 rfl (hb5.cell rfl) ?_)
         refine w_yes 5 61 true (st_eql rfl rfl ?_)
         refine w_plain rfl (st_pick (b := true) (v := .bool _) rfl rfl ?_)
         refine w_plain rfl (st_move (v := .bool _) rfl ?_)
         refine w_split (d := 66) rfl (fun g27 => ?_) (fun g27 => ?_)
         ·skip
          try simp only [nm, ne_eq] at g27
          refine w_yes 10 66 true (st_move (v := .bool _) rfl ?_)
          refine w_yes 10 66 true (st_move (v := .bool _) rfl ?_)
          refine w_no 12 68 true ?_
          refine w_no 12 68 true ?_
          refine w_no 12 68 true ?_
          refine w_yes 10 66 true (st_pick (b := false) (v := .bool _) rfl rfl ?_)
          refine w_yes 10 66 true (st_move (v := .bool _) rfl ?_)
          refine w_yes 17 73 false (st_move (v := .bool _) rfl ?_)
          refine w_yes 17 73 false (st_not rfl ?_)
          refine w_yes 17 73 false (st_move (v := .bool _) rfl ?_)
          refine w_yes 20 76 true (st_fieldAddr T.fld60_2 rfl ?_)
          refine w_yes 20 76 true (st_load1 (v := S _) T.one9 rfl (hb5.cell rfl) ?_)
          refine w_yes 20 76 true (st_seql rfl rfl ?_)
          refine w_yes 17 73 false (st_pick (b := true) (v := .bool _) rfl rfl ?_)
          refine w_yes 10 66 true (st_pick (b := false) (v := .bool _) rfl rfl ?_)
          refine w_plain rfl (st_pick (b := true) (v := .bool _) rfl rfl ?_)
          refine w_plain rfl (st_assign (v := .bool _) rfl ?_)
          refine wops_nil ?_
          refine then_n ?_
          refine x_ret ?_
          refine ret_tmp (v := .bool _) rfl rfl ?_
          refine ⟨congrArg Value.bool ?_, HC⟩
          rw [Bool.eq_iff_iff]
          unfold formP
          first | (simp_all; done) | (simp_all; intros; omega)
         ·skip
          try simp only [nm, ne_eq] at g27
          refine w_no 10 66 true ?_
          refine w_no 10 66 true ?_
          refine w_no 12 68 true ?_
          refine w_no 12 68 true ?_
          refine w_no 12 68 true ?_
          refine w_no 10 66 true ?_
          refine w_no 10 66 true ?_
          refine w_no 17 73 false ?_
          refine w_no 17 73 false ?_
          refine w_no 17 73 false ?_
          refine w_no 20 76 true ?_
          refine w_no 20 76 true ?_
          refine w_no 20 76 true ?_
          refine w_no 17 73 false ?_
          refine w_no 10 66 true ?_
          refine w_plain rfl (st_pick (b := false) (v := .bool _) rfl rfl ?_)
          refine w_plain rfl (st_assign (v := .bool _) rfl ?_)
          refine wops_nil ?_
          refine then_n ?_
          refine x_ret ?_
          refine ret_tmp (v := .bool _) rfl rfl ?_
          refine ⟨congrArg Value.bool ?_, HC⟩
          rw [Bool.eq_iff_iff]
          unfold formP
          first | (simp_all; done) | (simp_all; intros; omega)
        ·skip
         try simp only [nm, ne_eq] at g26
         refine w_no 5 61 true ?_
         refine w_no 5 61 true ?_
         refine w_no 5 61 true ?_
         refine w_plain rfl (st_pick (b := false) (v := .bool _) rfl rfl ?_)
         refine w_plain rfl (st_move (v := .bool _) rfl ?_)
         refine w_no 10 66 true ?_
         refine w_no 10 66 true ?_
         refine w_no 12 68 true ?_
         refine w_no 12 68 true ?_
         refine w_no 12 68 true ?_
         refine w_no 10 66 true ?_
         refine w_no 10 66 true ?_
         refine w_no 17 73 false ?_
         refine w_no 17 73 false ?_
         refine w_no 17 73 false ?_
         refine w_no 20 76 true ?_
         refine w_no 20 76 true ?_
         refine w_no 20 76 true ?_
         refine w_no 17 73 false ?_
         refine w_no 10 66 true ?_
         refine w_plain rfl (st_pick (b := false) (v := .bool _) rfl rfl ?_)
         refine w_plain rfl (st_assign (v := .bool _) rfl ?_)
         refine wops_nil ?_
         refine then_n ?_
         refine x_ret ?_
         refine ret_tmp (v := .bool _) rfl rfl ?_
         refine ⟨congrArg Value.bool ?_, HC⟩
         rw [Bool.eq_iff_iff]
         unfold formP
         first | (simp_all; done) | (simp_all; intros; omega)
       ·skip
        try simp only [nm, ne_eq] at h4
        refine x_seq ?_
        refine x_region rfl ?_
        refine w_plain rfl (st_fieldAddr T.fld60_0 rfl ?_)
        refine w_plain rfl (st_load1 (v := S _) T.one9 rfl (hb5.cell rfl) ?_)
        refine w_plain rfl (st_call (ags := [_]) rfl rfl T.ent70 rfl (ABinary_spec _ _) ?_)
        rintro _ w28 ⟨rfl, c29⟩
        replace HC := HC.then c29
        replace ht := ht.tr0 c29
        replace hb5 := hb5.tr0 c29
        refine w_plain rfl (st_assign (v := .bool _) rfl ?_)
        refine wops_nil ?_
        refine then_n ?_
        refine x_cond rfl (fun h5 => ?_) (fun h5 => ?_)
        ·skip
         try simp only [nm, ne_eq] at h5
         refine x_region rfl ?_
         refine w_plain rfl (st_assign (v := .int _ _) rfl ?_)
         refine wops_nil ?_
         refine block_n ?_
         refine then_n ?_
         refine x_seq ?_
         refine x_region rfl ?_
         refine w_plain rfl (st_fieldAddr T.fld60_3 rfl ?_)
         refine w_plain rfl (st_load1 (v := .slice _ _ _) T.one58 rfl (hb5.cell rfl) ?_)
         refine w_plain rfl (st_len (ct := #[58]) (by rw [show ((#[58] : Array TypeId)[0]?).bind Tryd.prog.underlying = some (.slice 3) from T.u58]; rfl) rfl ?_)
         refine w_plain rfl (st_move (v := .int _ _) rfl ?_)
         refine w_plain rfl (st_eql rfl rfl ?_)
         refine w_plain rfl (st_move (v := .bool _) rfl ?_)
         refine w_split (d := 61) rfl (fun g30 => ?_) (fun g30 => ?_)
         ·skip
          try simp only [nm, ne_eq] at g30
          refine w_yes 5 61 true (st_fieldAddr T.fld60_1 rfl ?_)
          refine w_yes 5 61 true (st_load1 (v := .int _ _) T.one2 rfl (hb5.cell rfl) ?_)
          refine w_yes 5 61 true (st_eql rfl rfl ?_)
          refine w_plain rfl (st_pick (b := true) (v := .bool _) rfl rfl ?_)
          refine w_plain rfl (st_move (v := .bool _) rfl ?_)
          refine w_split (d := 66) rfl (fun g31 => ?_) (fun g31 => ?_)
          ·skip
           try simp only [nm, ne_eq] at g31
           refine w_yes 10 66 true (st_move (v := .bool _) rfl ?_)
           refine w_yes 10 66 true (st_move (v := .bool _) rfl ?_)
           refine w_no 12 68 true ?_
           refine w_no 12 68 true ?_
           refine w_no 12 68 true ?_
           refine w_yes 10 66 true (st_pick (b := false) (v := .bool _) rfl rfl ?_)
           refine w_yes 10 66 true (st_move (v := .bool _) rfl ?_)
           refine w_yes 17 73 false (st_move (v := .bool _) rfl ?_)
           refine w_yes 17 73 false (st_not rfl ?_)
           refine w_yes 17 73 false (st_move (v := .bool _) rfl ?_)
           refine w_yes 20 76 true (st_fieldAddr T.fld60_2 rfl ?_)
           refine w_yes 20 76 true (st_load1 (v := S _) T.one9 rfl (hb5.cell rfl) ?_)
           refine w_yes 20 76 true (st_seql rfl rfl ?_)
           refine w_yes 17 73 false (st_pick (b := true) (v := .bool _) rfl rfl ?_)
           refine w_yes 10 66 true (st_pick (b := false) (v := .bool _) rfl rfl ?_)
           refine w_plain rfl (st_pick (b := true) (v := .bool _) rfl rfl ?_)
           refine w_plain rfl (st_assign (v := .bool _) rfl ?_)
           refine wops_nil ?_
           refine then_n ?_
           refine x_ret ?_
           refine ret_tmp (v := .bool _) rfl rfl ?_
           refine ⟨congrArg Value.bool ?_, HC⟩
           rw [Bool.eq_iff_iff]
           unfold formP
           first | (simp_all; done) | (simp_all; intros; omega)
          ·skip
           try simp only [nm, ne_eq] at g31
           refine w_no 10 66 true ?_
           refine w_no 10 66 true ?_
           refine w_no 12 68 true ?_
           refine w_no 12 68 true ?_
           refine w_no 12 68 true ?_
           refine w_no 10 66 true ?_
           refine w_no 10 66 true ?_
           refine w_no 17 73 false ?_
           refine w_no 17 73 false ?_
           refine w_no 17 73 false ?_
           refine w_no 20 76 true ?_
           refine w_no 20 76 true ?_
           refine w_no 20 76 true ?_
           refine w_no 17 73 false ?_
           refine w_no 10 66 true ?_
           refine w_plain rfl (st_pick (b := false) (v := .bool _) rfl rfl ?_)
           refine w_plain rfl (st_assign (v := .bool _) rfl ?_)
           refine wops_nil ?_
           refine then_n ?_
           refine x_ret ?_
           refine ret_tmp (v := .bool _) rfl rfl ?_
           refine ⟨congrArg Value.bool ?_, HC⟩
           rw [Bool.eq_iff_iff]
           unfold formP
           first | (simp_all; done) | (simp_all; intros; omega)
         ·skip
          try simp only [nm, ne_eq] at g30
          refine w_no 5 61 true ?_
          refine w_no 5 61 true ?_
          refine w_no 5 61 true ?_
          refine w_plain rfl (st_pick (b := false) (v := .bool _) rfl rfl ?_)
          refine w_plain rfl (st_move (v := .bool _) rfl ?_)
          refine w_no 10 66 true ?_
          refine w_no 10 66 true ?_
          refine w_no 12 68 true ?_
          refine w_no 12 68 true ?_
          refine w_no 12 68 true ?_
          refine w_no 10 66 true ?_
          refine w_no 10 66 true ?_
          refine w_no 17 73 false ?_
          refine w_no 17 73 false ?_
          refine w_no 17 73 false ?_
          refine w_no 20 76 true ?_
          refine w_no 20 76 true ?_
          refine w_no 20 76 true ?_
          refine w_no 17 73 false ?_
          refine w_no 10 66 true ?_
          refine w_plain rfl (st_pick (b := false) (v := .bool _) rfl rfl ?_)
          refine w_plain rfl (st_assign (v := .bool _) rfl ?_)
          refine wops_nil ?_
          refine then_n ?_
          refine x_ret ?_
          refine ret_tmp (v := .bool _) rfl rfl ?_
          refine ⟨congrArg Value.bool ?_, HC⟩
          rw [Bool.eq_iff_iff]
          unfold formP
          first | (simp_all; done) | (simp_all; intros; omega)
        ·skip
         try simp only [nm, ne_eq] at h5
         refine x_seq ?_
         refine x_region rfl ?_
         refine w_plain rfl (st_assign (v := .bool _) rfl ?_)
         refine wops_nil ?_
         refine then_n ?_
         refine x_ret ?_
         refine block_r ?_
         refine then_r ?_
         refine ret_tmp (v := .bool _) rfl rfl ?_
         refine ⟨congrArg Value.bool ?_, HC⟩
         rw [Bool.eq_iff_iff]
         unfold formP
         first | (simp_all; done) | (simp_all; intros; omega)
     ·skip
      try simp only [nm, ne_eq] at g21
      refine w_no 10 42 true ?_
      refine w_no 10 42 true ?_
      refine w_no 10 42 true ?_
      refine w_no 10 42 true ?_
      refine w_plain rfl (st_pick (b := false) (v := .bool _) rfl rfl ?_)
      refine w_plain rfl (st_assign (v := .bool _) rfl ?_)
      refine wops_nil ?_
      refine then_n ?_
      refine x_cond (t := false) rfl (fun h3 => ?_) (fun h3 => ?_)
      · exact absurd h3 (by decide)
      refine x_seq ?_
      refine x_region rfl ?_
      refine w_plain rfl (st_fieldAddr T.fld60_0 rfl ?_)
      refine w_plain rfl (st_load1 (v := S _) T.one9 rfl (hb5.cell rfl) ?_)
      refine w_plain rfl (st_seql rfl rfl ?_)
      refine w_plain rfl (st_assign (v := .bool _) rfl ?_)
      refine wops_nil ?_
      refine then_n ?_
      refine x_cond rfl (fun h4 => ?_) (fun h4 => ?_)
      ·skip
       try simp only [nm, ne_eq] at h4
       refine x_region rfl ?_
       refine w_plain rfl (st_assign (v := .int _ _) rfl ?_)
       refine wops_nil ?_
       refine block_n ?_
       refine then_n ?_
       refine x_seq ?_
       refine x_region rfl ?_
       refine w_plain rfl (st_fieldAddr T.fld60_3 rfl ?_)
       refine w_plain rfl (st_load1 (v := .slice _ _ _) T.one58 rfl (hb5.cell rfl) ?_)
       refine w_plain rfl (st_len (ct := #[58]) (by rw [show ((#[58] : Array TypeId)[0]?).bind Tryd.prog.underlying = some (.slice 3) from T.u58]; rfl) rfl ?_)
       refine w_plain rfl (st_move (v := .int _ _) rfl ?_)
       refine w_plain rfl (st_eql rfl rfl ?_)
       refine w_plain rfl (st_move (v := .bool _) rfl ?_)
       refine w_split (d := 61) rfl (fun g32 => ?_) (fun g32 => ?_)
       ·skip
        try simp only [nm, ne_eq] at g32
        refine w_yes 5 61 true (st_fieldAddr T.fld60_1 rfl ?_)
        refine w_yes 5 61 true (st_load1 (v := .int _ _) T.one2 rfl (hb5.cell rfl) ?_)
        refine w_yes 5 61 true (st_eql rfl rfl ?_)
        refine w_plain rfl (st_pick (b := true) (v := .bool _) rfl rfl ?_)
        refine w_plain rfl (st_move (v := .bool _) rfl ?_)
        refine w_split (d := 66) rfl (fun g33 => ?_) (fun g33 => ?_)
        ·skip
         try simp only [nm, ne_eq] at g33
         refine w_yes 10 66 true (st_move (v := .bool _) rfl ?_)
         refine w_yes 10 66 true (st_move (v := .bool _) rfl ?_)
         refine w_no 12 68 true ?_
         refine w_no 12 68 true ?_
         refine w_no 12 68 true ?_
         refine w_yes 10 66 true (st_pick (b := false) (v := .bool _) rfl rfl ?_)
         refine w_yes 10 66 true (st_move (v := .bool _) rfl ?_)
         refine w_yes 17 73 false (st_move (v := .bool _) rfl ?_)
         refine w_yes 17 73 false (st_not rfl ?_)
         refine w_yes 17 73 false (st_move (v := .bool _) rfl ?_)
         refine w_yes 20 76 true (st_fieldAddr T.fld60_2 rfl ?_)
         refine w_yes 20 76 true (st_load1 (v := S _) T.one9 rfl (hb5.cell rfl) ?_)
         refine w_yes 20 76 true (st_seql rfl rfl ?_)
         refine w_yes 17 73 false (st_pick (b := true) (v := .bool _) rfl rfl ?_)
         refine w_yes 10 66 true (st_pick (b := false) (v := .bool _) rfl rfl ?_)
         refine w_plain rfl (st_pick (b := true) (v := .bool _) rfl rfl ?_)
         refine w_plain rfl (st_assign (v := .bool _) rfl ?_)
         refine wops_nil ?_
         refine then_n ?_
         refine x_ret ?_
         refine ret_tmp (v := .bool _) rfl rfl ?_
         refine ⟨congrArg Value.bool ?_, HC⟩
         rw [Bool.eq_iff_iff]
         unfold formP
         first | (simp_all; done) | (simp_all; intros; omega)
        ·skip
         try simp only [nm, ne_eq] at g33
         refine w_no 10 66 true ?_
         refine w_no 10 66 true ?_
         refine w_no 12 68 true ?_
         refine w_no 12 68 true ?_
         refine w_no 12 68 true ?_
         refine w_no 10 66 true ?_
         refine w_no 10 66 true ?_
         refine w_no 17 73 false ?_
         refine w_no 17 73 false ?_
         refine w_no 17 73 false ?_
         refine w_no 20 76 true ?_
         refine w_no 20 76 true ?_
         refine w_no 20 76 true ?_
         refine w_no 17 73 false ?_
         refine w_no 10 66 true ?_
         refine w_plain rfl (st_pick (b := false) (v := .bool _) rfl rfl ?_)
         refine w_plain rfl (st_assign (v := .bool _) rfl ?_)
         refine wops_nil ?_
         refine then_n ?_
         refine x_ret ?_
         refine ret_tmp (v := .bool _) rfl rfl ?_
         refine ⟨congrArg Value.bool ?_, HC⟩
         rw [Bool.eq_iff_iff]
         unfold formP
         first | (simp_all; done) | (simp_all; intros; omega)
       ·skip
        try simp only [nm, ne_eq] at g32
        refine w_no 5 61 true ?_
        refine w_no 5 61 true ?_
        refine w_no 5 61 true ?_
        refine w_plain rfl (st_pick (b := false) (v := .bool _) rfl rfl ?_)
        refine w_plain rfl (st_move (v := .bool _) rfl ?_)
        refine w_no 10 66 true ?_
        refine w_no 10 66 true ?_
        refine w_no 12 68 true ?_
        refine w_no 12 68 true ?_
        refine w_no 12 68 true ?_
        refine w_no 10 66 true ?_
        refine w_no 10 66 true ?_
        refine w_no 17 73 false ?_
        refine w_no 17 73 false ?_
        refine w_no 17 73 false ?_
        refine w_no 20 76 true ?_
        refine w_no 20 76 true ?_
        refine w_no 20 76 true ?_
        refine w_no 17 73 false ?_
        refine w_no 10 66 true ?_
        refine w_plain rfl (st_pick (b := false) (v := .bool _) rfl rfl ?_)
        refine w_plain rfl (st_assign (v := .bool _) rfl ?_)
        refine wops_nil ?_
        refine then_n ?_
        refine x_ret ?_
        refine ret_tmp (v := .bool _) rfl rfl ?_
        refine ⟨congrArg Value.bool ?_, HC⟩
        rw [Bool.eq_iff_iff]
        unfold formP
        first | (simp_all; done) | (simp_all; intros; omega)
      ·skip
       try simp only [nm, ne_eq] at h4
       refine x_seq ?_
       refine x_region rfl ?_
       refine w_plain rfl (st_fieldAddr T.fld60_0 rfl ?_)
       refine w_plain rfl (st_load1 (v := S _) T.one9 rfl (hb5.cell rfl) ?_)
       refine w_plain rfl (st_call (ags := [_]) rfl rfl T.ent70 rfl (ABinary_spec _ _) ?_)
       rintro _ w34 ⟨rfl, c35⟩
       replace HC := HC.then c35
       replace ht := ht.tr0 c35
       replace hb5 := hb5.tr0 c35
       refine w_plain rfl (st_assign (v := .bool _) rfl ?_)
       refine wops_nil ?_
       refine then_n ?_
       refine x_cond rfl (fun h5 => ?_) (fun h5 => ?_)
       ·skip
        try simp only [nm, ne_eq] at h5
        refine x_region rfl ?_
        refine w_plain rfl (st_assign (v := .int _ _) rfl ?_)
        refine wops_nil ?_
        refine block_n ?_
        refine then_n ?_
        refine x_seq ?_
        refine x_region rfl ?_
        refine w_plain rfl (st_fieldAddr T.fld60_3 rfl ?_)
        refine w_plain rfl (st_load1 (v := .slice _ _ _) T.one58 rfl (hb5.cell rfl) ?_)
        refine w_plain rfl (st_len (ct := #[58]) (by rw [show ((#[58] : Array TypeId)[0]?).bind Tryd.prog.underlying = some (.slice 3) from T.u58]; rfl) rfl ?_)
        refine w_plain rfl (st_move (v := .int _ _) rfl ?_)
        refine w_plain rfl (st_eql rfl rfl ?_)
        refine w_plain rfl (st_move (v := .bool _) rfl ?_)
        refine w_split (d := 61) rfl (fun g36 => ?_) (fun g36 => ?_)
        ·skip
         try simp only [nm, ne_eq] at g36
         refine w_yes 5 61 true (st_fieldAddr T.fld60_1 rfl ?_)
         refine w_yes 5 61 true (st_load1 (v := .int _ _) T.one2 rfl (hb5.cell rfl) ?_)
         refine w_yes 5 61 true (st_eql rfl rfl ?_)
         refine w_plain rfl (st_pick (b := true) (v := .bool _) rfl rfl ?_)
         refine w_plain rfl (st_move (v := .bool _) rfl ?_)
         refine w_split (d := 66) rfl (fun g37 => ?_) (fun g37 => ?_)
         ·skip
          try simp only [nm, ne_eq] at g37
          refine w_yes 10 66 true (st_move (v := .bool _) rfl ?_)
          refine w_yes 10 66 true (st_move (v := .bool _) rfl ?_)
          refine w_no 12 68 true ?_
          refine w_no 12 68 true ?_
          refine w_no 12 68 true ?_
          refine w_yes 10 66 true (st_pick (b := false) (v := .bool _) rfl rfl ?_)
          refine w_yes 10 66 true (st_move (v := .bool _) rfl ?_)
          refine w_yes 17 73 false (st_move (v := .bool _) rfl ?_)
          refine w_yes 17 73 false (st_not rfl ?_)
          refine w_yes 17 73 false (st_move (v := .bool _) rfl ?_)
          refine w_yes 20 76 true (st_fieldAddr T.fld60_2 rfl ?_)
          refine w_yes 20 76 true (st_load1 (v := S _) T.one9 rfl (hb5.cell rfl) ?_)
          refine w_yes 20 76 true (st_seql rfl rfl ?_)
          refine w_yes 17 73 false (st_pick (b := true) (v := .bool _) rfl rfl ?_)
          refine w_yes 10 66 true (st_pick (b := false) (v := .bool _) rfl rfl ?_)
          refine w_plain rfl (st_pick (b := true) (v := .bool _) rfl rfl ?_)
          refine w_plain rfl (st_assign (v := .bool _) rfl ?_)
          refine wops_nil ?_
          refine then_n ?_
          refine x_ret ?_
          refine ret_tmp (v := .bool _) rfl rfl ?_
          refine ⟨congrArg Value.bool ?_, HC⟩
          rw [Bool.eq_iff_iff]
          unfold formP
          first | (simp_all; done) | (simp_all; intros; omega)
         ·skip
          try simp only [nm, ne_eq] at g37
          refine w_no 10 66 true ?_
          refine w_no 10 66 true ?_
          refine w_no 12 68 true ?_
          refine w_no 12 68 true ?_
          refine w_no 12 68 true ?_
          refine w_no 10 66 true ?_
          refine w_no 10 66 true ?_
          refine w_no 17 73 false ?_
          refine w_no 17 73 false ?_
          refine w_no 17 73 false ?_
          refine w_no 20 76 true ?_
          refine w_no 20 76 true ?_
          refine w_no 20 76 true ?_
          refine w_no 17 73 false ?_
          refine w_no 10 66 true ?_
          refine w_plain rfl (st_pick (b := false) (v := .bool _) rfl rfl ?_)
          refine w_plain rfl (st_assign (v := .bool _) rfl ?_)
          refine wops_nil ?_
          refine then_n ?_
          refine x_ret ?_
          refine ret_tmp (v := .bool _) rfl rfl ?_
          refine ⟨congrArg Value.bool ?_, HC⟩
          rw [Bool.eq_iff_iff]
          unfold formP
          first | (simp_all; done) | (simp_all; intros; omega)
        ·skip
         try simp only [nm, ne_eq] at g36
         refine w_no 5 61 true ?_
         refine w_no 5 61 true ?_
         refine w_no 5 61 true ?_
         refine w_plain rfl (st_pick (b := false) (v := .bool _) rfl rfl ?_)
         refine w_plain rfl (st_move (v := .bool _) rfl ?_)
         refine w_no 10 66 true ?_
         refine w_no 10 66 true ?_
         refine w_no 12 68 true ?_
         refine w_no 12 68 true ?_
         refine w_no 12 68 true ?_
         refine w_no 10 66 true ?_
         refine w_no 10 66 true ?_
         refine w_no 17 73 false ?_
         refine w_no 17 73 false ?_
         refine w_no 17 73 false ?_
         refine w_no 20 76 true ?_
         refine w_no 20 76 true ?_
         refine w_no 20 76 true ?_
         refine w_no 17 73 false ?_
         refine w_no 10 66 true ?_
         refine w_plain rfl (st_pick (b := false) (v := .bool _) rfl rfl ?_)
         refine w_plain rfl (st_assign (v := .bool _) rfl ?_)
         refine wops_nil ?_
         refine then_n ?_
         refine x_ret ?_
         refine ret_tmp (v := .bool _) rfl rfl ?_
         refine ⟨congrArg Value.bool ?_, HC⟩
         rw [Bool.eq_iff_iff]
         unfold formP
         first | (simp_all; done) | (simp_all; intros; omega)
       ·skip
        try simp only [nm, ne_eq] at h5
        refine x_seq ?_
        refine x_region rfl ?_
        refine w_plain rfl (st_assign (v := .bool _) rfl ?_)
        refine wops_nil ?_
        refine then_n ?_
        refine x_ret ?_
        refine block_r ?_
        refine then_r ?_
        refine ret_tmp (v := .bool _) rfl rfl ?_
        refine ⟨congrArg Value.bool ?_, HC⟩
        rw [Bool.eq_iff_iff]
        unfold formP
        first | (simp_all; done) | (simp_all; intros; omega)
    ·skip
     try simp only [nm, ne_eq] at g20
     refine w_no 4 36 true ?_
     refine w_no 4 36 true ?_
     refine w_no 4 36 true ?_
     refine w_no 4 36 true ?_
     refine w_plain rfl (st_pick (b := false) (v := .bool _) rfl rfl ?_)
     refine w_plain rfl (st_move (v := .bool _) rfl ?_)
     refine w_no 10 42 true ?_
     refine w_no 10 42 true ?_
     refine w_no 10 42 true ?_
     refine w_no 10 42 true ?_
     refine w_plain rfl (st_pick (b := false) (v := .bool _) rfl rfl ?_)
     refine w_plain rfl (st_assign (v := .bool _) rfl ?_)
     refine wops_nil ?_
     refine then_n ?_
     refine x_cond (t := false) rfl (fun h3 => ?_) (fun h3 => ?_)
     · exact absurd h3 (by decide)
     refine x_seq ?_
     refine x_region rfl ?_
     refine w_plain rfl (st_fieldAddr T.fld60_0 rfl ?_)
     refine w_plain rfl (st_load1 (v := S _) T.one9 rfl (hb5.cell rfl) ?_)
     refine w_plain rfl (st_seql rfl rfl ?_)
     refine w_plain rfl (st_assign (v := .bool _) rfl ?_)
     refine wops_nil ?_
     refine then_n ?_
     refine x_cond rfl (fun h4 => ?_) (fun h4 => ?_)
     ·skip
      try simp only [nm, ne_eq] at h4
      refine x_region rfl ?_
      refine w_plain rfl (st_assign (v := .int _ _) rfl ?_)
      refine wops_nil ?_
      refine block_n ?_
      refine then_n ?_
      refine x_seq ?_
      refine x_region rfl ?_
      refine w_plain rfl (st_fieldAddr T.fld60_3 rfl ?_)
      refine w_plain rfl (st_load1 (v := .slice _ _ _) T.one58 rfl (hb5.cell rfl) ?_)
      refine w_plain rfl (st_len (ct := #[58]) (by rw [show ((#[58] : Array TypeId)[0]?).bind Tryd.prog.underlying = some (.slice 3) from T.u58]; rfl) rfl ?_)
      refine w_plain rfl (st_move (v := .int _ _) rfl ?_)
      refine w_plain rfl (st_eql rfl rfl ?_)
      refine w_plain rfl (st_move (v := .bool _) rfl ?_)
      refine w_split (d := 61) rfl (fun g38 => ?_) (fun g38 => ?_)
      ·skip
       try simp only [nm, ne_eq] at g38
       refine w_yes 5 61 true (st_fieldAddr T.fld60_1 rfl ?_)
       refine w_yes 5 61 true (st_load1 (v := .int _ _) T.one2 rfl (hb5.cell rfl) ?_)
       refine w_yes 5 61 true (st_eql rfl rfl ?_)
       refine w_plain rfl (st_pick (b := true) (v := .bool _) rfl rfl ?_)
       refine w_plain rfl (st_move (v := .bool _) rfl ?_)
       refine w_split (d := 66) rfl (fun g39 => ?_) (fun g39 => ?_)
       ·skip
        try simp only [nm, ne_eq] at g39
        refine w_yes 10 66 true (st_move (v := .bool _) rfl ?_)
        refine w_yes 10 66 true (st_move (v := .bool _) rfl ?_)
        refine w_no 12 68 true ?_
        refine w_no 12 68 true ?_
        refine w_no 12 68 true ?_
        refine w_yes 10 66 true (st_pick (b := false) (v := .bool _) rfl rfl ?_)
        refine w_yes 10 66 true (st_move (v := .bool _) rfl ?_)
        refine w_yes 17 73 false (st_move (v := .bool _) rfl ?_)
        refine w_yes 17 73 false (st_not rfl ?_)
        refine w_yes 17 73 false (st_move (v := .bool _) rfl ?_)
        refine w_yes 20 76 true (st_fieldAddr T.fld60_2 rfl ?_)
        refine w_yes 20 76 true (st_load1 (v := S _) T.one9 rfl (hb5.cell rfl) ?_)
        refine w_yes 20 76 true (st_seql rfl rfl ?_)
        refine w_yes 17 73 false (st_pick (b := true) (v := .bool _) rfl rfl ?_)
        refine w_yes 10 66 true (st_pick (b := false) (v := .bool _) rfl rfl ?_)
        refine w_plain rfl (st_pick (b := true) (v := .bool _) rfl rfl ?_)
        refine w_plain rfl (st_assign (v := .bool _) rfl ?_)
        refine wops_nil ?_
        refine then_n ?_
        refine x_ret ?_
        refine ret_tmp (v := .bool _) rfl rfl ?_
        refine ⟨congrArg Value.bool ?_, HC⟩
        rw [Bool.eq_iff_iff]
        unfold formP
        first | (simp_all; done) | (simp_all; intros; omega)
       ·skip
        try simp only [nm, ne_eq] at g39
        refine w_no 10 66 true ?_
        refine w_no 10 66 true ?_
        refine w_no 12 68 true ?_
        refine w_no 12 68 true ?_
        refine w_no 12 68 true ?_
        refine w_no 10 66 true ?_
        refine w_no 10 66 true ?_
        refine w_no 17 73 false ?_
        refine w_no 17 73 false ?_
        refine w_no 17 73 false ?_
        refine w_no 20 76 true ?_
        refine w_no 20 76 true ?_
        refine w_no 20 76 true ?_
        refine w_no 17 73 false ?_
        refine w_no 10 66 true ?_
        refine w_plain rfl (st_pick (b := false) (v := .bool _) rfl rfl ?_)
        refine w_plain rfl (st_assign (v := .bool _) rfl ?_)
        refine wops_nil ?_
        refine then_n ?_
        refine x_ret ?_
        refine ret_tmp (v := .bool _) rfl rfl ?_
        refine ⟨congrArg Value.bool ?_, HC⟩
        rw [Bool.eq_iff_iff]
        unfold formP
        first | (simp_all; done) | (simp_all; intros; omega)
      ·skip
       try simp only [nm, ne_eq] at g38
       refine w_no 5 61 true ?_
       refine w_no 5 61 true ?_
       refine w_no 5 61 true ?_
       refine w_plain rfl (st_pick (b := false) (v := .bool _) rfl rfl ?_)
       refine w_plain rfl (st_move (v := .bool _) rfl ?_)
       refine w_no 10 66 true ?_
       refine w_no 10 66 true ?_
       refine w_no 12 68 true ?_
       refine w_no 12 68 true ?_
       refine w_no 12 68 true ?_
       refine w_no 10 66 true ?_
       refine w_no 10 66 true ?_
       refine w_no 17 73 false ?_
       refine w_no 17 73 false ?_
       refine w_no 17 73 false ?_
       refine w_no 20 76 true ?_
       refine w_no 20 76 true ?_
       refine w_no 20 76 true ?_
       refine w_no 17 73 false ?_
       refine w_no 10 66 true ?_
       refine w_plain rfl (st_pick (b := false) (v := .bool _) rfl rfl ?_)
       refine w_plain rfl (st_assign (v := .bool _) rfl ?_)
       refine wops_nil ?_
       refine then_n ?_
       refine x_ret ?_
       refine ret_tmp (v := .bool _) rfl rfl ?_
       refine ⟨congrArg Value.bool ?_, HC⟩
       rw [Bool.eq_iff_iff]
       unfold formP
       first | (simp_all; done) | (simp_all; intros; omega)
     ·skip
      try simp only [nm, ne_eq] at h4
      refine x_seq ?_
      refine x_region rfl ?_
      refine w_plain rfl (st_fieldAddr T.fld60_0 rfl ?_)
      refine w_plain rfl (st_load1 (v := S _) T.one9 rfl (hb5.cell rfl) ?_)
      refine w_plain rfl (st_call (ags := [_]) rfl rfl T.ent70 rfl (ABinary_spec _ _) ?_)
      rintro _ w40 ⟨rfl, c41⟩
      replace HC := HC.then c41
      replace ht := ht.tr0 c41
      replace hb5 := hb5.tr0 c41
      refine w_plain rfl (st_assign (v := .bool _) rfl ?_)
      refine wops_nil ?_
      refine then_n ?_
      refine x_cond rfl (fun h5 => ?_) (fun h5 => ?_)
      ·skip
       try simp only [nm, ne_eq] at h5
       refine x_region rfl ?_
       refine w_plain rfl (st_assign (v := .int _ _) rfl ?_)
       refine wops_nil ?_
       refine block_n ?_
       refine then_n ?_
       refine x_seq ?_
       refine x_region rfl ?_
       refine w_plain rfl (st_fieldAddr T.fld60_3 rfl ?_)
       refine w_plain rfl (st_load1 (v := .slice _ _ _) T.one58 rfl (hb5.cell rfl) ?_)
       refine w_plain rfl (st_len (ct := #[58]) (by rw [show ((#[58] : Array TypeId)[0]?).bind Tryd.prog.underlying = some (.slice 3) from T.u58]; rfl) rfl ?_)
       refine w_plain rfl (st_move (v := .int _ _) rfl ?_)
       refine w_plain rfl (st_eql rfl rfl ?_)
       refine w_plain rfl (st_move (v := .bool _) rfl ?_)
       refine w_split (d := 61) rfl (fun g42 => ?_) (fun g42 => ?_)
       ·skip
        try simp only [nm, ne_eq] at g42
        refine w_yes 5 61 true (st_fieldAddr T.fld60_1 rfl ?_)
        refine w_yes 5 61 true (st_load1 (v := .int _ _) T.one2 rfl (hb5.cell rfl) ?_)
        refine w_yes 5 61 true (st_eql rfl rfl ?_)
        refine w_plain rfl (st_pick (b := true) (v := .bool _) rfl rfl ?_)
        refine w_plain rfl (st_move (v := .bool _) rfl ?_)
        refine w_split (d := 66) rfl (fun g43 => ?_) (fun g43 => ?_)
        ·skip
         try simp only [nm, ne_eq] at g43
         refine w_yes 10 66 true (st_move (v := .bool _) rfl ?_)
         refine w_yes 10 66 true (st_move (v := .bool _) rfl ?_)
         refine w_no 12 68 true ?_
         refine w_no 12 68 true ?_
         refine w_no 12 68 true ?_
         refine w_yes 10 66 true (st_pick (b := false) (v := .bool _) rfl rfl ?_)
         refine w_yes 10 66 true (st_move (v := .bool _) rfl ?_)
         refine w_yes 17 73 false (st_move (v := .bool _) rfl ?_)
         refine w_yes 17 73 false (st_not rfl ?_)
         refine w_yes 17 73 false (st_move (v := .bool _) rfl ?_)
         refine w_yes 20 76 true (st_fieldAddr T.fld60_2 rfl ?_)
         refine w_yes 20 76 true (st_load1 (v := S _) T.one9 rfl (hb5.cell rfl) ?_)
         refine w_yes 20 76 true (st_seql rfl rfl ?_)
         refine w_yes 17 73 false (st_pick (b := true) (v := .bool _) rfl rfl ?_)
         refine w_yes 10 66 true (st_pick (b := false) (v := .bool _) rfl rfl ?_)
         refine w_plain rfl (st_pick (b := true) (v := .bool _) rfl rfl ?_)
         refine w_plain rfl (st_assign (v := .bool _) rfl ?_)
         refine wops_nil ?_
         refine then_n ?_
         refine x_ret ?_
         refine ret_tmp (v := .bool _) rfl rfl ?_
         refine ⟨congrArg Value.bool ?_, HC⟩
         rw [Bool.eq_iff_iff]
         unfold formP
         first | (simp_all; done) | (simp_all; intros; omega)
        ·skip
         try simp only [nm, ne_eq] at g43
         refine w_no 10 66 true ?_
         refine w_no 10 66 true ?_
         refine w_no 12 68 true ?_
         refine w_no 12 68 true ?_
         refine w_no 12 68 true ?_
         refine w_no 10 66 true ?_
         refine w_no 10 66 true ?_
         refine w_no 17 73 false ?_
         refine w_no 17 73 false ?_
         refine w_no 17 73 false ?_
         refine w_no 20 76 true ?_
         refine w_no 20 76 true ?_
         refine w_no 20 76 true ?_
         refine w_no 17 73 false ?_
         refine w_no 10 66 true ?_
         refine w_plain rfl (st_pick (b := false) (v := .bool _) rfl rfl ?_)
         refine w_plain rfl (st_assign (v := .bool _) rfl ?_)
         refine wops_nil ?_
         refine then_n ?_
         refine x_ret ?_
         refine ret_tmp (v := .bool _) rfl rfl ?_
         refine ⟨congrArg Value.bool ?_, HC⟩
         rw [Bool.eq_iff_iff]
         unfold formP
         first | (simp_all; done) | (simp_all; intros; omega)
       ·skip
        try simp only [nm, ne_eq] at g42
        refine w_no 5 61 true ?_
        refine w_no 5 61 true ?_
        refine w_no 5 61 true ?_
        refine w_plain rfl (st_pick (b := false) (v := .bool _) rfl rfl ?_)
        refine w_plain rfl (st_move (v := .bool _) rfl ?_)
        refine w_no 10 66 true ?_
        refine w_no 10 66 true ?_
        refine w_no 12 68 true ?_
        refine w_no 12 68 true ?_
        refine w_no 12 68 true ?_
        refine w_no 10 66 true ?_
        refine w_no 10 66 true ?_
        refine w_no 17 73 false ?_
        refine w_no 17 73 false ?_
        refine w_no 17 73 false ?_
        refine w_no 20 76 true ?_
        refine w_no 20 76 true ?_
        refine w_no 20 76 true ?_
        refine w_no 17 73 false ?_
        refine w_no 10 66 true ?_
        refine w_plain rfl (st_pick (b := false) (v := .bool _) rfl rfl ?_)
        refine w_plain rfl (st_assign (v := .bool _) rfl ?_)
        refine wops_nil ?_
        refine then_n ?_
        refine x_ret ?_
        refine ret_tmp (v := .bool _) rfl rfl ?_
        refine ⟨congrArg Value.bool ?_, HC⟩
        rw [Bool.eq_iff_iff]
        unfold formP
        first | (simp_all; done) | (simp_all; intros; omega)
      ·skip
       try simp only [nm, ne_eq] at h5
       refine x_seq ?_
       refine x_region rfl ?_
       refine w_plain rfl (st_assign (v := .bool _) rfl ?_)
       refine wops_nil ?_
       refine then_n ?_
       refine x_ret ?_
       refine block_r ?_
       refine then_r ?_
       refine ret_tmp (v := .bool _) rfl rfl ?_
       refine ⟨congrArg Value.bool ?_, HC⟩
       rw [Bool.eq_iff_iff]
       unfold formP
       first | (simp_all; done) | (simp_all; intros; omega)

end Go.Proofs.YtcgcbpknbjafcaaDoor.K
