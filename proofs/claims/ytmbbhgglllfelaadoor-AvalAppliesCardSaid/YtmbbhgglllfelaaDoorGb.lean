/- Numbers of variables. -/
import Derived.Test.YtmbbhgglllfelaaDoorLibV
import Derived.Test.YtmbbhgglllfelaaDoorTreeP
set_option linter.unusedVariables false
set_option linter.unusedSimpArgs false
set_option autoImplicit false
set_option maxRecDepth 20000
namespace Go.Proofs.YtmbbhgglllfelaaDoor.K
open Go Go.Proofs Go.RowKit

/-- A variable's number, or its error. -/
def valV (s : Bytes) : Int × Int :=
  if s = [] then (0, 0)
  else if Lib.trimPrefix s [45] = s then
    (if (constV (Lib.trimPrefix s [43])).2 = true then (IntKind.i64.wrap (1 * (constV (Lib.trimPrefix s [43])).1), 0) else (0, 102))
  else if (constV (Lib.trimPrefix s [45])).2 = true then (IntKind.i64.wrap (-1 * (constV (Lib.trimPrefix s [45])).1), 0) else (0, 102)
theorem trim_len (s p : Bytes) : (Lib.trimPrefix s p).length ≤ s.length := by unfold Lib.trimPrefix; split <;> simp

theorem constV_in (s : Bytes) : 0 ≤ (constV s).1 ∧ (constV s).1 ≤ 9223372036854775807 := by
  unfold constV
  cases h : readN (constB s).1 0 (constB s).2 with
  | none => simp
  | some n => have := readN_in (constB_2 s) (constB s).2 0 n (by omega) (by omega) h; simpa using this
theorem constV_wrap (s : Bytes) : IntKind.i64.wrap (constV s).1 = (constV s).1 := by
  have h := constV_in s
  exact wrap64_id (by omega) (by omega)
theorem hd45 {c : UInt8} {s : Bytes} : ((byte (c :: s) 0).toNat : Int) = 45 ↔ c = 45 := ⟨fun h => UInt8.toNat_inj.1 (by have h2 : (c.toNat : Int) = 45 := h; show c.toNat = 45; omega), fun h => by rw [h]; rfl⟩
theorem hd43 {c : UInt8} {s : Bytes} : ((byte (c :: s) 0).toNat : Int) = 43 ↔ c = 43 := ⟨fun h => UInt8.toNat_inj.1 (by have h2 : (c.toNat : Int) = 43 := h; show c.toNat = 43; omega), fun h => by rw [h]; rfl⟩
theorem u8_eq {c d : UInt8} : ((c.toNat : Nat) : Int) = ((d.toNat : Nat) : Int) ↔ c = d := ⟨fun h => UInt8.toNat_inj.1 (by omega), fun h => by rw [h]⟩

theorem Value_spec (s : Bytes) (w : World) (hs : s.length ≤ 9223372036854775807) : CallR Tryd.prog 7 #[S s] w fun v w' => v = .tuple ⟨[.int .i64 (valV s).1, .int .i64 (valV s).2]⟩ ∧ Chg [] w w' := by
 have htl := trim_len s [45]
 have htl2 := trim_len s [43]
 refine callR_of_wp (args := [_]) Tryd.func7 rfl (Nat.le_of_ble_eq_true rfl) ?_
 have HC : Chg [] w w := .refl _
 refine sr rfl <| aI rfl <| aI rfl <| en <| x_seq <| sr rfl <| mS rfl <| Wp rfl <| st_seql rfl rfl <| en <| x_cond rfl (fun h0 => ?_) (fun h0 => ?_)
 ·try simp only [nm, ne_eq] at h0
  refine sr rfl <| aI rfl <| aI rfl <| en <| x_ret <| then_r <| ret_tmp2 (v := .int _ _) (v2 := .int _ _) rfl rfl rfl <| ⟨?_, HC⟩
  first | (simp [valV, *]; done) | (simp_all [valV]; done)
 ·try simp only [nm, ne_eq] at h0
  refine x_skip <| then_n <| sr rfl <| mS rfl <| Wp rfl <| st_call (ags := [_, _]) rfl rfl T.ent12 rfl (TrimPrefix_spec _ _ _) ?_
  rintro _ w1 ⟨rfl, c2⟩
  replace HC := HC.then c2
  refine aS rfl <| en <| sr rfl <| aI rfl <| en <| x_seq <| sr rfl <| mS rfl <| mS rfl <| Wp rfl <| st_seql rfl rfl <| en <| x_cond rfl (fun h1 => ?_) (fun h1 => ?_)
  ·try simp only [nm, ne_eq] at h1
   refine x_region rfl <| mS rfl <| Wp rfl <| st_call (ags := [_, _]) rfl rfl T.ent12 rfl (TrimPrefix_spec _ _ _) ?_
   rintro _ w3 ⟨rfl, c4⟩
   replace HC := HC.then c4
   refine aS rfl <| aI rfl <| en <| sr rfl <| mS rfl <| Wp rfl <| st_call (ags := [_]) rfl rfl T.ent13 rfl (Constant_spec _ _ (by omega)) ?_
   rintro _ w5 ⟨rfl, c6⟩
   replace HC := HC.then c6
   refine mv (v := .tuple ⟨[_, _]⟩) rfl <| Wp rfl <| st_extract (vs := [_, _]) (v := .int _ _) rfl rfl <| Wp rfl <| st_extract (vs := [_, _]) (v := .bool _) rfl rfl <| aI rfl <| aB rfl <| en <| x_seq <| sr rfl <| mB rfl <| Wp rfl <| st_not rfl <| en <| x_cond rfl (fun h2 => ?_) (fun h2 => ?_)
   ·try simp only [nm, ne_eq] at h2
    refine sr rfl <| aI rfl <| aI rfl <| en <| x_ret <| then_r <| ret_tmp2 (v := .int _ _) (v2 := .int _ _) rfl rfl rfl <| ⟨?_, HC⟩
    first | (simp [valV, *]; done) | (simp_all [valV]; done)
   ·try simp only [nm, ne_eq] at h2
    refine x_skip <| then_n <| sr rfl <| mI rfl <| mI rfl <| Wp rfl <| st_mul rfl rfl <| aI rfl <| aI rfl <| en <| x_ret <| ret_tmp2 (v := .int _ _) (v2 := .int _ _) rfl rfl rfl <| ⟨?_, HC⟩
    first | (simp [valV, *]; done) | (simp_all [valV]; done)
  ·try simp only [nm, ne_eq] at h1
   refine x_skip <| then_n <| sr rfl <| mS rfl <| Wp rfl <| st_call (ags := [_]) rfl rfl T.ent13 rfl (Constant_spec _ _ (by omega)) ?_
   rintro _ w7 ⟨rfl, c8⟩
   replace HC := HC.then c8
   refine mv (v := .tuple ⟨[_, _]⟩) rfl <| Wp rfl <| st_extract (vs := [_, _]) (v := .int _ _) rfl rfl <| Wp rfl <| st_extract (vs := [_, _]) (v := .bool _) rfl rfl <| aI rfl <| aB rfl <| en <| x_seq <| sr rfl <| mB rfl <| Wp rfl <| st_not rfl <| en <| x_cond rfl (fun h2 => ?_) (fun h2 => ?_)
   ·try simp only [nm, ne_eq] at h2
    refine sr rfl <| aI rfl <| aI rfl <| en <| x_ret <| then_r <| ret_tmp2 (v := .int _ _) (v2 := .int _ _) rfl rfl rfl <| ⟨?_, HC⟩
    first | (simp [valV, *]; done) | (simp_all [valV]; done)
   ·try simp only [nm, ne_eq] at h2
    refine x_skip <| then_n <| sr rfl <| mI rfl <| mI rfl <| Wp rfl <| st_mul rfl rfl <| aI rfl <| aI rfl <| en <| x_ret <| ret_tmp2 (v := .int _ _) (v2 := .int _ _) rfl rfl rfl <| ⟨?_, HC⟩
    first | (simp [valV, *]; done) | (simp_all [valV]; done)

theorem byte_hd {c : UInt8} {s : Bytes} : byte (c :: s) 0 = c := rfl
theorem trim_hd (c a : UInt8) (s : Bytes) : Lib.trimPrefix (c :: s) [a] = if c = a then s else c :: s := by
  unfold Lib.trimPrefix Lib.hasPrefix
  by_cases h : c = a
  · subst h; simp
  · simp [h, Ne.symm h]
theorem cons_ne_self (c : UInt8) (s : Bytes) : s ≠ c :: s := fun h => by have := congrArg List.length h; simp at this
theorem valV_hd (c : UInt8) (s : Bytes) : valV (c :: s) = if c = 45 then (if (constV s).2 = true then (IntKind.i64.wrap (0 - (constV s).1), 0) else (0, 102)) else if c = 43 then (if (constV s).2 = true then ((constV s).1, 0) else (0, 102)) else if (constV (c :: s)).2 = true then ((constV (c :: s)).1, 0) else (0, 102) := by
  have hw : ∀ s : Bytes, IntKind.i64.wrap (1 * (constV s).1) = (constV s).1 := fun s => by rw [Int.one_mul]; exact constV_wrap s
  unfold valV
  rw [if_neg (by simp)]
  by_cases h : c = 45
  · subst h; rw [trim_hd, if_pos rfl, if_neg (cons_ne_self _ _), if_pos rfl, show (-1 : Int) * (constV s).1 = 0 - (constV s).1 by omega]
  · rw [trim_hd, if_neg h, if_pos rfl, if_neg h, trim_hd]
    by_cases h2 : c = 43
    · subst h2; rw [if_pos rfl, if_pos rfl, hw]
    · rw [if_neg h2, if_neg h2, hw]

theorem RValue_spec (s : Bytes) (w : World) (hs : s.length ≤ 9223372036854775807) : CallR Tryd.prog 8 #[S s] w fun v w' => v = .tuple ⟨[.int .i64 (valV s).1, .int .i64 (valV s).2]⟩ ∧ Chg [] w w' := by
 refine callR_of_wp (args := [_]) Tryd.func8 rfl (Nat.le_of_ble_eq_true rfl) ?_
 have HC : Chg [] w w := .refl _
 refine sr rfl <| aI rfl <| aI rfl <| en <| x_seq <| sr rfl <| mS rfl <| Wp rfl <| st_seql rfl rfl <| en <| x_cond rfl (fun h0 => ?_) (fun h0 => ?_)
 ·try simp only [nm, ne_eq] at h0
  refine sr rfl <| aI rfl <| aI rfl <| en <| x_ret <| then_r <| ret_tmp2 (v := .int _ _) (v2 := .int _ _) rfl rfl rfl <| ⟨?_, HC⟩
  first | (simp [valV, *]; done) | (simp only [hd45, hd43, decide_eq_true_eq] at *; rw [valV_hd]; simp_all; done)
 ·try simp only [nm, ne_eq] at h0
  obtain ⟨c, s, rfl⟩ := List.exists_cons_of_ne_nil h0
  have hsl : s.length + 1 ≤ 9223372036854775807 := hs
  refine x_skip <| then_n <| sr rfl <| mS rfl <| Wp rfl <| st_sidx T.u9 rfl rfl (by decide) (by simp only [List.length_cons]; omega) <| Wp rfl <| st_eql rfl rfl <| aB rfl <| en <| x_seq <| sr rfl <| mB rfl <| mB rfl <| w_split (d := 13) rfl (fun g1 => ?_) (fun g1 => ?_)
  ·try simp only [nm, ne_eq] at g1
   iterate 3 refine w_no 1 13 false ?_
   refine pT rfl rfl <| en <| x_cond (t := true) rfl (fun h1 => ?_) (fun h1 => ?_)
   rotate_left
   · exact absurd h1 (by decide)
   refine x_region rfl <| mS rfl <| Wp rfl <| st_sslo (i := 1) T.u9 rfl ⟨_, rfl⟩ (by simp) <| aS rfl <| en <| sr rfl <| mS rfl <| Wp rfl <| st_call (ags := [_]) rfl rfl T.ent14 rfl (RConstant_spec s _ (by omega)) ?_
   rintro _ w2 ⟨rfl, c3⟩
   replace HC := HC.then c3
   refine mv (v := .tuple ⟨[_, _]⟩) rfl <| Wp rfl <| st_extract (vs := [_, _]) (v := .int _ _) rfl rfl <| Wp rfl <| st_extract (vs := [_, _]) (v := .bool _) rfl rfl <| aI rfl <| aB rfl <| en <| x_seq <| sr rfl <| mB rfl <| Wp rfl <| st_not rfl <| en <| x_cond rfl (fun h2 => ?_) (fun h2 => ?_)
   ·try simp only [nm, ne_eq] at h2
    refine sr rfl <| aI rfl <| aI rfl <| en <| x_ret <| then_r <| ret_tmp2 (v := .int _ _) (v2 := .int _ _) rfl rfl rfl <| ⟨?_, HC⟩
    first | (simp [valV, *]; done) | (simp only [hd45, hd43, decide_eq_true_eq] at *; rw [valV_hd]; simp_all; done)
   ·try simp only [nm, ne_eq] at h2
    refine x_skip <| then_n <| x_seq <| sr rfl <| mB rfl <| en <| x_cond rfl (fun h3 => ?_) (fun h3 => ?_)
    ·try simp only [nm, ne_eq] at h3
     refine sr rfl <| mI rfl <| Wp rfl <| st_neg rfl <| aI rfl <| aI rfl <| en <| x_ret <| then_r <| ret_tmp2 (v := .int _ _) (v2 := .int _ _) rfl rfl rfl <| ⟨?_, HC⟩
     first | (simp [valV, *]; done) | (simp only [hd45, hd43, decide_eq_true_eq] at *; rw [valV_hd]; simp_all; done)
    ·try simp only [nm, ne_eq] at h3
     refine x_skip <| then_n <| sr rfl <| mI rfl <| aI rfl <| aI rfl <| en <| x_ret <| ret_tmp2 (v := .int _ _) (v2 := .int _ _) rfl rfl rfl <| ⟨?_, HC⟩
     first | (simp [valV, *]; done) | (simp only [hd45, hd43, decide_eq_true_eq] at *; rw [valV_hd]; simp_all; done)
  ·try simp only [nm, ne_eq] at g1
   refine w_yes 1 13 false <| st_move (v := S _) rfl <| w_yes 1 13 false <| st_sidx T.u9 rfl rfl (by decide) (by simp only [List.length_cons]; omega) <| w_yes 1 13 false <| st_eql rfl rfl <| pF rfl rfl <| en <| x_cond rfl (fun h1 => ?_) (fun h1 => ?_)
   ·try simp only [nm, ne_eq] at h1
    refine x_region rfl <| mS rfl <| Wp rfl <| st_sslo (i := 1) T.u9 rfl ⟨_, rfl⟩ (by simp) <| aS rfl <| en <| sr rfl <| mS rfl <| Wp rfl <| st_call (ags := [_]) rfl rfl T.ent14 rfl (RConstant_spec s _ (by omega)) ?_
    rintro _ w4 ⟨rfl, c5⟩
    replace HC := HC.then c5
    refine mv (v := .tuple ⟨[_, _]⟩) rfl <| Wp rfl <| st_extract (vs := [_, _]) (v := .int _ _) rfl rfl <| Wp rfl <| st_extract (vs := [_, _]) (v := .bool _) rfl rfl <| aI rfl <| aB rfl <| en <| x_seq <| sr rfl <| mB rfl <| Wp rfl <| st_not rfl <| en <| x_cond rfl (fun h2 => ?_) (fun h2 => ?_)
    ·try simp only [nm, ne_eq] at h2
     refine sr rfl <| aI rfl <| aI rfl <| en <| x_ret <| then_r <| ret_tmp2 (v := .int _ _) (v2 := .int _ _) rfl rfl rfl <| ⟨?_, HC⟩
     first | (simp [valV, *]; done) | (simp only [hd45, hd43, decide_eq_true_eq] at *; rw [valV_hd]; simp_all; done)
    ·try simp only [nm, ne_eq] at h2
     refine x_skip <| then_n <| x_seq <| sr rfl <| mB rfl <| en <| x_cond rfl (fun h3 => ?_) (fun h3 => ?_)
     ·try simp only [nm, ne_eq] at h3
      refine sr rfl <| mI rfl <| Wp rfl <| st_neg rfl <| aI rfl <| aI rfl <| en <| x_ret <| then_r <| ret_tmp2 (v := .int _ _) (v2 := .int _ _) rfl rfl rfl <| ⟨?_, HC⟩
      first | (simp [valV, *]; done) | (simp only [hd45, hd43, decide_eq_true_eq] at *; rw [valV_hd]; simp_all; done)
     ·try simp only [nm, ne_eq] at h3
      refine x_skip <| then_n <| sr rfl <| mI rfl <| aI rfl <| aI rfl <| en <| x_ret <| ret_tmp2 (v := .int _ _) (v2 := .int _ _) rfl rfl rfl <| ⟨?_, HC⟩
      first | (simp [valV, *]; done) | (simp only [hd45, hd43, decide_eq_true_eq] at *; rw [valV_hd]; simp_all; done)
   ·try simp only [nm, ne_eq] at h1
    refine x_skip <| then_n <| sr rfl <| mS rfl <| Wp rfl <| st_call (ags := [_]) rfl rfl T.ent14 rfl (RConstant_spec (c :: s) _ (by simp only [List.length_cons]; omega)) ?_
    rintro _ w6 ⟨rfl, c7⟩
    replace HC := HC.then c7
    refine mv (v := .tuple ⟨[_, _]⟩) rfl <| Wp rfl <| st_extract (vs := [_, _]) (v := .int _ _) rfl rfl <| Wp rfl <| st_extract (vs := [_, _]) (v := .bool _) rfl rfl <| aI rfl <| aB rfl <| en <| x_seq <| sr rfl <| mB rfl <| Wp rfl <| st_not rfl <| en <| x_cond rfl (fun h2 => ?_) (fun h2 => ?_)
    ·try simp only [nm, ne_eq] at h2
     refine sr rfl <| aI rfl <| aI rfl <| en <| x_ret <| then_r <| ret_tmp2 (v := .int _ _) (v2 := .int _ _) rfl rfl rfl <| ⟨?_, HC⟩
     first | (simp [valV, *]; done) | (simp only [hd45, hd43, decide_eq_true_eq] at *; rw [valV_hd]; simp_all; done)
    ·try simp only [nm, ne_eq] at h2
     refine x_skip <| then_n <| x_seq <| sr rfl <| mB rfl <| en <| x_cond rfl (fun h3 => ?_) (fun h3 => ?_)
     ·try simp only [nm, ne_eq] at h3
      refine sr rfl <| mI rfl <| Wp rfl <| st_neg rfl <| aI rfl <| aI rfl <| en <| x_ret <| then_r <| ret_tmp2 (v := .int _ _) (v2 := .int _ _) rfl rfl rfl <| ⟨?_, HC⟩
      first | (simp [valV, *]; done) | (simp only [hd45, hd43, decide_eq_true_eq] at *; rw [valV_hd]; simp_all; done)
     ·try simp only [nm, ne_eq] at h3
      refine x_skip <| then_n <| sr rfl <| mI rfl <| aI rfl <| aI rfl <| en <| x_ret <| ret_tmp2 (v := .int _ _) (v2 := .int _ _) rfl rfl rfl <| ⟨?_, HC⟩
      first | (simp [valV, *]; done) | (simp only [hd45, hd43, decide_eq_true_eq] at *; rw [valV_hd]; simp_all; done)

end Go.Proofs.YtmbbhgglllfelaaDoor.K
