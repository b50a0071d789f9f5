/- Numbers. -/
import Derived.Test.YtlpndcpbnbeohaaDoorEb
import Derived.Test.YtlpndcpbnbeohaaDoorKitP
set_option linter.unusedVariables false
set_option linter.unusedSimpArgs false
set_option autoImplicit false
set_option maxRecDepth 20000
namespace Go.Proofs.YtlpndcpbnbeohaaDoor.K
open Go Go.Proofs Go.RowKit

/-- A variable's number, or its error. -/
def valV (s : Bytes) : Int × Int :=
  if s = [] then (0, 0)
  else if Lib.trimPrefix s [45] = s then
    (if (constV (Lib.trimPrefix s [43])).2 = true then (IntKind.i64.wrap (1 * (constV (Lib.trimPrefix s [43])).1), 0) else (0, 102))
  else if (constV (Lib.trimPrefix s [45])).2 = true then (IntKind.i64.wrap (-1 * (constV (Lib.trimPrefix s [45])).1), 0) else (0, 102)
theorem trim_len (s p : Bytes) : (Lib.trimPrefix s p).length ≤ s.length := by unfold Lib.trimPrefix; split <;> simp

theorem Value_spec (s : Bytes) (w : World) (hs : s.length ≤ 9223372036854775807) : CallR Tryd.prog 57 #[S s] w fun v w' => v = .tuple ⟨[.int .i64 (valV s).1, .int .i64 (valV s).2]⟩ ∧ Chg [] w w' := by
 have htl := trim_len s [45]
 have htl2 := trim_len s [43]
 refine callR_of_wp (args := [_]) Tryd.func57 rfl (Nat.le_of_ble_eq_true rfl) ?_
 have HC : Chg [] w w := .refl _
 refine sr rfl <| aI rfl <| aI rfl <| en <| x_seq <| sr rfl <| mS rfl <| Wp rfl <| st_seql rfl rfl <| en <| x_cond rfl (fun h0 => ?_) (fun h0 => ?_)
 ·try simp only [nm, ne_eq] at h0
  refine sr rfl <| aI rfl <| aI rfl <| en <| x_ret <| then_r <| ret_tmp2 (v := .int _ _) (v2 := .int _ _) rfl rfl rfl <| ⟨?_, HC⟩
  first | (simp [valV, *]; done) | (simp_all [valV]; done)
 ·try simp only [nm, ne_eq] at h0
  refine x_skip <| then_n <| sr rfl <| mS rfl <| Wp rfl <| st_call (ags := [_, _]) rfl rfl T.ent64 rfl (TrimPrefix_spec _ _ _) ?_
  rintro _ w1 ⟨rfl, c2⟩
  replace HC := HC.then c2
  refine aS rfl <| en <| sr rfl <| aI rfl <| en <| x_seq <| sr rfl <| mS rfl <| mS rfl <| Wp rfl <| st_seql rfl rfl <| en <| x_cond rfl (fun h1 => ?_) (fun h1 => ?_)
  ·try simp only [nm, ne_eq] at h1
   refine x_region rfl <| mS rfl <| Wp rfl <| st_call (ags := [_, _]) rfl rfl T.ent64 rfl (TrimPrefix_spec _ _ _) ?_
   rintro _ w3 ⟨rfl, c4⟩
   replace HC := HC.then c4
   refine aS rfl <| aI rfl <| en <| sr rfl <| mS rfl <| Wp rfl <| st_call (ags := [_]) rfl rfl T.ent66 rfl (Constant_spec _ _ (by omega)) ?_
   rintro _ w5 ⟨rfl, c6⟩
   replace HC := HC.then c6
   refine mv (v := .tuple ⟨[_, _]⟩) rfl <| Wp rfl <| st_extract (vs := [_, _]) (v := .int _ _) rfl rfl <| Wp rfl <| st_extract (vs := [_, _]) (v := .bool _) rfl rfl <| aI rfl <| aB rfl <| en <| x_seq <| sr rfl <| mB rfl <| Wp rfl <| st_not rfl <| en <| x_cond rfl (fun h2 => ?_) (fun h2 => ?_)
   ·try simp only [nm, ne_eq] at h2
    refine sr rfl <| aI rfl <| aI rfl <| en <| x_ret <| then_r <| ret_tmp2 (v := .int _ _) (v2 := .int _ _) rfl rfl rfl <| ⟨?_, HC⟩
    first | (simp [valV, *]; done) | (simp_all [valV]; done)
   ·try simp only [nm, ne_eq] at h2
    refine x_skip <| then_n <| sr rfl <| mI rfl <| mI rfl <| Wp rfl <| st_mul rfl rfl <| aI rfl <| aI rfl <| en <| x_ret <| ret_tmp2 (v := .int _ _) (v2 := .int _ _) rfl rfl rfl <| ⟨?_, HC⟩
    first | (simp [valV, *]; done) | (simp_all [valV]; done)
  ·try simp only [nm, ne_eq] at h1
   refine x_skip <| then_n <| sr rfl <| mS rfl <| Wp rfl <| st_call (ags := [_]) rfl rfl T.ent66 rfl (Constant_spec _ _ (by omega)) ?_
   rintro _ w7 ⟨rfl, c8⟩
   replace HC := HC.then c8
   refine mv (v := .tuple ⟨[_, _]⟩) rfl <| Wp rfl <| st_extract (vs := [_, _]) (v := .int _ _) rfl rfl <| Wp rfl <| st_extract (vs := [_, _]) (v := .bool _) rfl rfl <| aI rfl <| aB rfl <| en <| x_seq <| sr rfl <| mB rfl <| Wp rfl <| st_not rfl <| en <| x_cond rfl (fun h2 => ?_) (fun h2 => ?_)
   ·try simp only [nm, ne_eq] at h2
    refine sr rfl <| aI rfl <| aI rfl <| en <| x_ret <| then_r <| ret_tmp2 (v := .int _ _) (v2 := .int _ _) rfl rfl rfl <| ⟨?_, HC⟩
    first | (simp [valV, *]; done) | (simp_all [valV]; done)
   ·try simp only [nm, ne_eq] at h2
    refine x_skip <| then_n <| sr rfl <| mI rfl <| mI rfl <| Wp rfl <| st_mul rfl rfl <| aI rfl <| aI rfl <| en <| x_ret <| ret_tmp2 (v := .int _ _) (v2 := .int _ _) rfl rfl rfl <| ⟨?_, HC⟩
    first | (simp [valV, *]; done) | (simp_all [valV]; done)

theorem trim_len9 (s p : Bytes) : (Lib.trimPrefix s p).length ≤ s.length := by unfold Lib.trimPrefix; split <;> simp

def dgV (c : UInt8) : Int := ((c.toNat : Int) - 48)
/-- A number's digits, read below 0; none: no number. -/
def numN : Int → Bytes → Option Int
  | n, [] => some n
  | n, c :: s => if digB c = false ∨ n < (-9223372036854775808 + dgV c).tdiv 10 then none else numN (n * 10 - dgV c) s
def restV (s : Bytes) : Bytes := if Lib.trimPrefix s [45] = s then Lib.trimPrefix s [43] else Lib.trimPrefix s [45]
def numV (s : Bytes) : Int × Bool := match numN 0 (restV s) with
  | none => (0, false)
  | some n => if restV s = [] ∨ (Lib.trimPrefix s [45] = s ∧ n = -9223372036854775808) then (0, false) else if Lib.trimPrefix s [45] = s then (IntKind.i64.wrap (0 - n), true) else (n, true)
theorem dig_in {c : UInt8} (h : digB c = true) : 0 ≤ dgV c ∧ dgV c ≤ 9 := by unfold digB at h; rw [decide_eq_true_eq] at h; unfold dgV; omega
theorem numN_step {n : Int} {s : Bytes} {i : Nat} (hi : i < s.length) : numN n (s.drop i) = if digB (byte s i) = false ∨ n < (-9223372036854775808 + dgV (byte s i)).tdiv 10 then none else numN (n * 10 - dgV (byte s i)) (s.drop (i + 1)) := by
  rw [drop_byte hi, numN]
theorem quo10 {d n : Int} (h0 : 0 ≤ d) (h9 : d ≤ 9) (h : ¬ n < (-9223372036854775808 + d).tdiv 10) (hn : n ≤ 0) : -9223372036854775808 ≤ n * 10 - d ∧ n * 10 - d ≤ 0 := by
  have h1 : (-9223372036854775808 + d).tdiv 10 = -((9223372036854775808 - d) / 10) := by
    rw [show (-9223372036854775808 + d : Int) = -(9223372036854775808 - d) by omega, Int.neg_tdiv, Int.tdiv_eq_ediv_of_nonneg (by omega)]
  rw [h1] at h; omega

theorem digit_spec (c : UInt8) (w : World) : CallR Tryd.prog 54 #[.int .u8 (c.toNat : Int)] w fun v w' => v = .bool (digB c) ∧ Chg [] w w' := by
 refine callR_of_wp (args := [_]) Tryd.func54 rfl (Nat.le_of_ble_eq_true rfl) ?_
 have HC : Chg [] w w := .refl _
 refine sr rfl <| aB rfl <| en <| sr rfl <| mI rfl <| Wp rfl <| st_sub rfl rfl <| Wp rfl <| st_lss rfl rfl <| aB rfl <| en <| x_ret <| ret_tmp (v := .bool _) rfl rfl ?_
 have hc := c.toNat_lt
 refine ⟨congrArg Value.bool ?_, HC⟩
 unfold digB; rw [decide_eq_decide, wrap_u8]; omega

theorem quo_wrap {d : Int} (h0 : 0 ≤ d) (h9 : d ≤ 9) : IntKind.i64.wrap ((-9223372036854775808 + d).tdiv 10) = (-9223372036854775808 + d).tdiv 10 := by
  have h1 : (-9223372036854775808 + d).tdiv 10 = -((9223372036854775808 - d) / 10) := by
    rw [show (-9223372036854775808 + d : Int) = -(9223372036854775808 - d) by omega, Int.neg_tdiv, Int.tdiv_eq_ediv_of_nonneg (by omega)]
  rw [h1]; exact wrap64_id (by omega) (by omega)
theorem dg_wrap {c : UInt8} (h : digB c = true) : IntKind.i64.wrap (IntKind.u8.wrap ((c.toNat : Int) - 48)) = dgV c := by
  have h1 := dig_in h
  have h2 : IntKind.u8.wrap ((c.toNat : Int) - 48) = dgV c := by rw [wrap_u8]; unfold dgV at *; omega
  rw [h2]; exact wrap64_id (by omega) (by omega)

theorem Number_spec (s : Bytes) (w : World) (hs : s.length ≤ 9223372036854775807) : CallR Tryd.prog 55 #[S s] w fun v w' => v = .tuple ⟨[.int .i64 (numV s).1, .bool (numV s).2]⟩ ∧ Chg [] w w' := by
 have ht1 := trim_len9 s [45]
 have ht2 := trim_len9 s [43]
 refine callR_of_wp (args := [_]) Tryd.func55 rfl (Nat.le_of_ble_eq_true rfl) ?_
 have HC : Chg [] w w := .refl _
 refine sr rfl <| aI rfl <| aB rfl <| en <| sr rfl <| mS rfl <| Wp rfl <| st_call (ags := [_, _]) rfl rfl T.ent64 rfl (TrimPrefix_spec _ _ _) ?_
 rintro _ w1 ⟨rfl, c2⟩
 replace HC := HC.then c2
 refine aS rfl <| en <| sr rfl <| mS rfl <| mS rfl <| Wp rfl <| st_sneq rfl rfl <| aB rfl <| en <| x_seq <| sr rfl <| mB rfl <| Wp rfl <| st_not rfl <| en <| x_cond rfl (fun h0 => ?_) (fun h0 => ?_)
 ·try simp only [nm, ne_eq] at h0
  have hmn : Lib.trimPrefix s [45] = s := by first | assumption | simpa using h0
  have hrest : restV s = Lib.trimPrefix s [43] := by unfold restV; rw [if_pos hmn]
  refine x_region rfl <| mS rfl <| Wp rfl <| st_call (ags := [_, _]) rfl rfl T.ent64 rfl (TrimPrefix_spec _ _ _) ?_
  rintro _ w3 ⟨rfl, c4⟩
  replace HC := HC.then c4
  refine aS rfl <| en <| sr rfl <| aI rfl <| en <| x_seq <| sr rfl <| mS rfl <| Wp rfl <| st_strBytes (s := (Lib.trimPrefix s [43])) T.u9 T.u38 T.u5 rfl ?_
  intro b5 cp6 w7 ge0_b5 lt_b5 c8 hs9
  replace HC := HC.then c8
  refine Wp rfl <| st_len (ct := #[38]) (by rw [show ((#[38] : Array TypeId)[0]?).bind Tryd.prog.underlying = some (.slice 5) from T.u38]; rfl) rfl <| mI rfl <| en <| x_block <| x_loop (ι := Nat × Int) [2, 3, 6, 8, 9, 22, 23, 24, 25, 26, 27, 28, 29, 30, 31, 32, 33, 34, 35, 36, 37, 38, 39, 40, 41, 42, 43] (fun ⟨i, n⟩ => [(22, .int .i64 (i : Int)), (6, .int .i64 n)]) (fun ⟨i, n⟩ W => (i ≤ (Lib.trimPrefix s [43]).length ∧ -9223372036854775808 ≤ n ∧ n ≤ 0 ∧ numN n ((Lib.trimPrefix s [43]).drop i) = numN 0 (restV s)) ∧ (Chg [] w W) ∧ (Sl uE W (fun k => k = b5) (some ⟨b5, 0, none⟩) (Lib.trimPrefix s [43]))) (fun ⟨i, n⟩ => (Lib.trimPrefix s [43]).length - i) (0, 0) ?_ ?_ ?_
  · exact ⟨rfl, rfl, trivial⟩
  ·refine ⟨?_, HC, hs9⟩
   exact ⟨Nat.zero_le _, by decide, Int.le_refl _, by rw [hrest]; rfl⟩
  intro ⟨i, n⟩ G11 w10 ⟨⟨hi, hn0, hn1, hr⟩, HC, hs9⟩
  change wp _ _ _ _ _ (upds (over _ _ G11) [(22, .int .i64 (i : Int)), (6, .int .i64 n)]) _ _
  refine sr rfl <| Wp rfl <| st_lss rfl rfl <| en <| x_seq <| x_cond rfl (fun h1 => ?_) (fun h1 => ?_)
  ·try simp only [nm, ne_eq] at h1
   refine x_skip <| then_n <| x_seq <| x_block <| sr rfl ?_
   obtain ⟨x12, hx13⟩ : ∃ zz, (Lib.trimPrefix s [43])[i]? = some zz := ⟨_, List.getElem?_eq_getElem (by omega)⟩
   obtain ⟨lb18, _, vs17, hA14, hR16, hC15⟩ := hs9.at hx13
   obtain rfl : vs17 = [.int .u8 (x12.toNat : Int)] := hR16
   refine Wp rfl <| st_indexAddr T.u38 T.size5 (congrArg (fun z => Value.slice z _ _) hA14) rfl (by omega) (by omega) <| lI T.one5 rfl (hC15.at (j := 0) rfl) <| aI rfl <| en <| x_seq ?_
   obtain rfl : x12 = (byte (Lib.trimPrefix s [43]) i) := byte_at hx13
   refine x_region rfl <| mI rfl <| Wp rfl <| st_sub rfl rfl <| Wp rfl <| st_convInt T.u5 T.u2 rfl <| aI rfl <| en <| x_seq <| sr rfl <| mI rfl <| Wp rfl <| st_call (ags := [_]) rfl rfl T.ent54 rfl (digit_spec _ _) ?_
   rintro _ w19 ⟨rfl, c20⟩
   replace HC := HC.then c20
   replace hs9 := hs9.tr0 c20
   refine Wp rfl <| st_not rfl <| mB rfl <| w_split (d := 32) rfl (fun g21 => ?_) (fun g21 => ?_)
   ·try simp only [nm, ne_eq] at g21
    have hdg : digB (byte (Lib.trimPrefix s [43]) i) = false := by first | assumption | simp_all
    iterate 5 refine w_no 3 32 false ?_
    refine pT rfl rfl <| en <| x_cond (t := true) rfl (fun h2 => ?_) (fun h2 => ?_)
    rotate_left
    · exact absurd h2 (by decide)
    have hnn : numN 0 (restV s) = none := by rw [← hr, numN_step (by omega), if_pos (by left; exact hdg)]
    refine sr rfl <| aI rfl <| aB rfl <| en <| x_ret <| then_r <| block_r <| then_r <| then_r <| block_r <| then_r <| ret_tmp2 (v := .int _ _) (v2 := .bool _) rfl rfl rfl <| ⟨?_, HC⟩
    unfold numV; rw [hnn]
   ·try simp only [nm, ne_eq] at g21
    have hdg : digB (byte (Lib.trimPrefix s [43]) i) = true := by first | assumption | simp_all
    have hdd := dig_in hdg
    rw [dg_wrap hdg]
    refine w_yes 3 32 false <| st_move (v := .int _ _) rfl <| w_yes 3 32 false <| st_move (v := .int _ _) rfl <| w_yes 3 32 false <| st_addn rfl rfl (by constructor <;> omega) <| w_yes 3 32 false <| st_quok rfl rfl (by decide) (by exact quo_wrap hdd.1 hdd.2) <| w_yes 3 32 false <| st_lss rfl rfl <| pF rfl rfl <| en <| x_cond rfl (fun h2 => ?_) (fun h2 => ?_)
    ·try simp only [nm, ne_eq] at h2
     have hnn : numN 0 (restV s) = none := by rw [← hr, numN_step (by omega), if_pos (by right; exact h2)]
     refine sr rfl <| aI rfl <| aB rfl <| en <| x_ret <| then_r <| block_r <| then_r <| then_r <| block_r <| then_r <| ret_tmp2 (v := .int _ _) (v2 := .bool _) rfl rfl rfl <| ⟨?_, HC⟩
     unfold numV; rw [hnn]
    ·try simp only [nm, ne_eq] at h2
     have hq := quo10 hdd.1 hdd.2 h2 hn1
     refine x_skip <| then_n <| x_region rfl <| mI rfl <| Wp rfl <| st_muln rfl rfl (by constructor <;> omega) <| mI rfl <| Wp rfl <| st_subn rfl rfl (by constructor <;> omega) <| aI rfl <| wops_nil <| block_n <| then_n <| x_region rfl <| Wp rfl <| st_addn rfl rfl (by constructor <;> omega) <| mI rfl <| en <| ⟨(i + 1, n * 10 - dgV (byte (Lib.trimPrefix s [43]) i)), ?_, ?_, rfl, ⟨rfl, rfl, trivial⟩, ?_⟩
     ·refine ⟨?_, HC, hs9⟩
      exact ⟨by omega, hq.1, hq.2, by have h9 := hr; rw [numN_step (i := i) (by omega), if_neg (by rintro (h | h); (rw [hdg] at h; cases h); exact h2 h)] at h9; exact h9⟩
     ·show (Lib.trimPrefix s [43]).length - (i + 1) < (Lib.trimPrefix s [43]).length - i; omega
     repeat (first | exact agree_upds agree_over rfl | refine agree_upd ?_ rfl | refine agree_upds ?_ rfl | refine agree_over_sub ?_ rfl)
  ·try simp only [nm, ne_eq] at h1
   have hnn : numN 0 (restV s) = some n := by rw [← hr, List.drop_of_length_le (by omega)]; rfl
   refine x_exit <| then_x <| then_x <| block_x <| then_n <| x_seq <| sr rfl <| mS rfl <| Wp rfl <| st_seql rfl rfl <| mB rfl <| w_split (d := 46) rfl (fun g22 => ?_) (fun g22 => ?_)
   ·try simp only [nm, ne_eq] at g22
    iterate 3 refine w_no 2 46 false ?_
    refine w_no 5 49 true <| w_no 5 49 true <| w_no 2 46 false <| pT rfl rfl <| en <| x_cond (t := true) rfl (fun h3 => ?_) (fun h3 => ?_)
    rotate_left
    · exact absurd h3 (by decide)
    refine sr rfl <| aI rfl <| aB rfl <| en <| x_ret <| then_r <| ret_tmp2 (v := .int _ _) (v2 := .bool _) rfl rfl rfl <| ⟨?_, HC⟩
    unfold numV; rw [hnn]
    simp only; rw [hrest]
    first | (simp_all; done) | (split <;> simp_all; done) | (simp_all; omega)
   ·try simp only [nm, ne_eq] at g22
    refine w_yes 2 46 false <| st_move (v := .bool _) rfl <| w_yes 2 46 false <| st_not rfl <| w_yes 2 46 false <| st_move (v := .bool _) rfl <| w_split (d := 49) rfl (fun g23 => ?_) (fun g23 => ?_)
    ·try simp only [nm, ne_eq] at g23
     refine w_yes 5 49 true <| st_move (v := .int _ _) rfl <| w_yes 5 49 true <| st_eql rfl rfl <| w_yes 2 46 false <| st_pick (b := true) (v := .bool _) rfl rfl <| pF rfl rfl <| en <| x_cond rfl (fun h3 => ?_) (fun h3 => ?_)
     ·try simp only [nm, ne_eq] at h3
      refine sr rfl <| aI rfl <| aB rfl <| en <| x_ret <| then_r <| ret_tmp2 (v := .int _ _) (v2 := .bool _) rfl rfl rfl <| ⟨?_, HC⟩
      unfold numV; rw [hnn]
      simp only; rw [hrest]
      first | (simp_all; done) | (split <;> simp_all; done) | (simp_all; omega)
     ·try simp only [nm, ne_eq] at h3
      refine x_skip <| then_n <| x_seq <| sr rfl <| mB rfl <| en <| x_cond rfl (fun h4 => ?_) (fun h4 => ?_)
      ·try simp only [nm, ne_eq] at h4
       refine sr rfl <| mI rfl <| aI rfl <| aB rfl <| en <| x_ret <| then_r <| ret_tmp2 (v := .int _ _) (v2 := .bool _) rfl rfl rfl <| ⟨?_, HC⟩
       unfold numV; rw [hnn]
       simp only; rw [hrest]
       first | (simp_all; done) | (split <;> simp_all; done) | (simp_all; omega)
      ·try simp only [nm, ne_eq] at h4
       refine x_skip <| then_n <| sr rfl <| mI rfl <| Wp rfl <| st_neg rfl <| aI rfl <| aB rfl <| en <| x_ret <| ret_tmp2 (v := .int _ _) (v2 := .bool _) rfl rfl rfl <| ⟨?_, HC⟩
       unfold numV; rw [hnn]
       simp only; rw [hrest]
       first | (simp_all; done) | (split <;> simp_all; done) | (simp_all; omega)
    ·try simp only [nm, ne_eq] at g23
     refine w_no 5 49 true <| w_no 5 49 true <| w_yes 2 46 false <| st_pick (b := false) (v := .bool _) rfl rfl <| pF rfl rfl <| en <| x_cond (t := false) rfl (fun h3 => ?_) (fun h3 => ?_)
     · exact absurd h3 (by decide)
     refine x_skip <| then_n <| x_seq <| sr rfl <| mB rfl <| en <| x_cond rfl (fun h4 => ?_) (fun h4 => ?_)
     ·try simp only [nm, ne_eq] at h4
      refine sr rfl <| mI rfl <| aI rfl <| aB rfl <| en <| x_ret <| then_r <| ret_tmp2 (v := .int _ _) (v2 := .bool _) rfl rfl rfl <| ⟨?_, HC⟩
      unfold numV; rw [hnn]
      simp only; rw [hrest]
      first | (simp_all; done) | (split <;> simp_all; done) | (simp_all; omega)
     ·try simp only [nm, ne_eq] at h4
      refine x_skip <| then_n <| sr rfl <| mI rfl <| Wp rfl <| st_neg rfl <| aI rfl <| aB rfl <| en <| x_ret <| ret_tmp2 (v := .int _ _) (v2 := .bool _) rfl rfl rfl <| ⟨?_, HC⟩
      unfold numV; rw [hnn]
      simp only; rw [hrest]
      first | (simp_all; done) | (split <;> simp_all; done) | (simp_all; omega)
 ·try simp only [nm, ne_eq] at h0
  have hmn : ¬ Lib.trimPrefix s [45] = s := by first | assumption | simpa using h0
  have hrest : restV s = Lib.trimPrefix s [45] := by unfold restV; rw [if_neg hmn]
  refine x_skip <| then_n <| sr rfl <| aI rfl <| en <| x_seq <| sr rfl <| mS rfl <| Wp rfl <| st_strBytes (s := (Lib.trimPrefix s [45])) T.u9 T.u38 T.u5 rfl ?_
  intro b24 cp25 w26 ge0_b24 lt_b24 c27 hs28
  replace HC := HC.then c27
  refine Wp rfl <| st_len (ct := #[38]) (by rw [show ((#[38] : Array TypeId)[0]?).bind Tryd.prog.underlying = some (.slice 5) from T.u38]; rfl) rfl <| mI rfl <| en <| x_block <| x_loop (ι := Nat × Int) [2, 3, 6, 8, 9, 22, 23, 24, 25, 26, 27, 28, 29, 30, 31, 32, 33, 34, 35, 36, 37, 38, 39, 40, 41, 42, 43] (fun ⟨i, n⟩ => [(22, .int .i64 (i : Int)), (6, .int .i64 n)]) (fun ⟨i, n⟩ W => (i ≤ (Lib.trimPrefix s [45]).length ∧ -9223372036854775808 ≤ n ∧ n ≤ 0 ∧ numN n ((Lib.trimPrefix s [45]).drop i) = numN 0 (restV s)) ∧ (Chg [] w W) ∧ (Sl uE W (fun k => k = b24) (some ⟨b24, 0, none⟩) (Lib.trimPrefix s [45]))) (fun ⟨i, n⟩ => (Lib.trimPrefix s [45]).length - i) (0, 0) ?_ ?_ ?_
  · exact ⟨rfl, rfl, trivial⟩
  ·refine ⟨?_, HC, hs28⟩
   exact ⟨Nat.zero_le _, by decide, Int.le_refl _, by rw [hrest]; rfl⟩
  intro ⟨i, n⟩ G30 w29 ⟨⟨hi, hn0, hn1, hr⟩, HC, hs28⟩
  change wp _ _ _ _ _ (upds (over _ _ G30) [(22, .int .i64 (i : Int)), (6, .int .i64 n)]) _ _
  refine sr rfl <| Wp rfl <| st_lss rfl rfl <| en <| x_seq <| x_cond rfl (fun h1 => ?_) (fun h1 => ?_)
  ·try simp only [nm, ne_eq] at h1
   refine x_skip <| then_n <| x_seq <| x_block <| sr rfl ?_
   obtain ⟨x31, hx32⟩ : ∃ zz, (Lib.trimPrefix s [45])[i]? = some zz := ⟨_, List.getElem?_eq_getElem (by omega)⟩
   obtain ⟨lb37, _, vs36, hA33, hR35, hC34⟩ := hs28.at hx32
   obtain rfl : vs36 = [.int .u8 (x31.toNat : Int)] := hR35
   refine Wp rfl <| st_indexAddr T.u38 T.size5 (congrArg (fun z => Value.slice z _ _) hA33) rfl (by omega) (by omega) <| lI T.one5 rfl (hC34.at (j := 0) rfl) <| aI rfl <| en <| x_seq ?_
   obtain rfl : x31 = (byte (Lib.trimPrefix s [45]) i) := byte_at hx32
   refine x_region rfl <| mI rfl <| Wp rfl <| st_sub rfl rfl <| Wp rfl <| st_convInt T.u5 T.u2 rfl <| aI rfl <| en <| x_seq <| sr rfl <| mI rfl <| Wp rfl <| st_call (ags := [_]) rfl rfl T.ent54 rfl (digit_spec _ _) ?_
   rintro _ w38 ⟨rfl, c39⟩
   replace HC := HC.then c39
   replace hs28 := hs28.tr0 c39
   refine Wp rfl <| st_not rfl <| mB rfl <| w_split (d := 32) rfl (fun g40 => ?_) (fun g40 => ?_)
   ·try simp only [nm, ne_eq] at g40
    have hdg : digB (byte (Lib.trimPrefix s [45]) i) = false := by first | assumption | simp_all
    iterate 5 refine w_no 3 32 false ?_
    refine pT rfl rfl <| en <| x_cond (t := true) rfl (fun h2 => ?_) (fun h2 => ?_)
    rotate_left
    · exact absurd h2 (by decide)
    have hnn : numN 0 (restV s) = none := by rw [← hr, numN_step (by omega), if_pos (by left; exact hdg)]
    refine sr rfl <| aI rfl <| aB rfl <| en <| x_ret <| then_r <| block_r <| then_r <| then_r <| block_r <| then_r <| ret_tmp2 (v := .int _ _) (v2 := .bool _) rfl rfl rfl <| ⟨?_, HC⟩
    unfold numV; rw [hnn]
   ·try simp only [nm, ne_eq] at g40
    have hdg : digB (byte (Lib.trimPrefix s [45]) i) = true := by first | assumption | simp_all
    have hdd := dig_in hdg
    rw [dg_wrap hdg]
    refine w_yes 3 32 false <| st_move (v := .int _ _) rfl <| w_yes 3 32 false <| st_move (v := .int _ _) rfl <| w_yes 3 32 false <| st_addn rfl rfl (by constructor <;> omega) <| w_yes 3 32 false <| st_quok rfl rfl (by decide) (by exact quo_wrap hdd.1 hdd.2) <| w_yes 3 32 false <| st_lss rfl rfl <| pF rfl rfl <| en <| x_cond rfl (fun h2 => ?_) (fun h2 => ?_)
    ·try simp only [nm, ne_eq] at h2
     have hnn : numN 0 (restV s) = none := by rw [← hr, numN_step (by omega), if_pos (by right; exact h2)]
     refine sr rfl <| aI rfl <| aB rfl <| en <| x_ret <| then_r <| block_r <| then_r <| then_r <| block_r <| then_r <| ret_tmp2 (v := .int _ _) (v2 := .bool _) rfl rfl rfl <| ⟨?_, HC⟩
     unfold numV; rw [hnn]
    ·try simp only [nm, ne_eq] at h2
     have hq := quo10 hdd.1 hdd.2 h2 hn1
     refine x_skip <| then_n <| x_region rfl <| mI rfl <| Wp rfl <| st_muln rfl rfl (by constructor <;> omega) <| mI rfl <| Wp rfl <| st_subn rfl rfl (by constructor <;> omega) <| aI rfl <| wops_nil <| block_n <| then_n <| x_region rfl <| Wp rfl <| st_addn rfl rfl (by constructor <;> omega) <| mI rfl <| en <| ⟨(i + 1, n * 10 - dgV (byte (Lib.trimPrefix s [45]) i)), ?_, ?_, rfl, ⟨rfl, rfl, trivial⟩, ?_⟩
     ·refine ⟨?_, HC, hs28⟩
      exact ⟨by omega, hq.1, hq.2, by have h9 := hr; rw [numN_step (i := i) (by omega), if_neg (by rintro (h | h); (rw [hdg] at h; cases h); exact h2 h)] at h9; exact h9⟩
     ·show (Lib.trimPrefix s [45]).length - (i + 1) < (Lib.trimPrefix s [45]).length - i; omega
     repeat (first | exact agree_upds agree_over rfl | refine agree_upd ?_ rfl | refine agree_upds ?_ rfl | refine agree_over_sub ?_ rfl)
  ·try simp only [nm, ne_eq] at h1
   have hnn : numN 0 (restV s) = some n := by rw [← hr, List.drop_of_length_le (by omega)]; rfl
   refine x_exit <| then_x <| then_x <| block_x <| then_n <| x_seq <| sr rfl <| mS rfl <| Wp rfl <| st_seql rfl rfl <| mB rfl <| w_split (d := 46) rfl (fun g41 => ?_) (fun g41 => ?_)
   ·try simp only [nm, ne_eq] at g41
    iterate 3 refine w_no 2 46 false ?_
    refine w_no 5 49 true <| w_no 5 49 true <| w_no 2 46 false <| pT rfl rfl <| en <| x_cond (t := true) rfl (fun h3 => ?_) (fun h3 => ?_)
    rotate_left
    · exact absurd h3 (by decide)
    refine sr rfl <| aI rfl <| aB rfl <| en <| x_ret <| then_r <| ret_tmp2 (v := .int _ _) (v2 := .bool _) rfl rfl rfl <| ⟨?_, HC⟩
    unfold numV; rw [hnn]
    simp only; rw [hrest]
    first | (simp_all; done) | (split <;> simp_all; done) | (simp_all; omega)
   ·try simp only [nm, ne_eq] at g41
    refine w_yes 2 46 false <| st_move (v := .bool _) rfl <| w_yes 2 46 false <| st_not rfl <| w_yes 2 46 false <| st_move (v := .bool _) rfl <| w_split (d := 49) rfl (fun g42 => ?_) (fun g42 => ?_)
    ·try simp only [nm, ne_eq] at g42
     refine w_yes 5 49 true <| st_move (v := .int _ _) rfl <| w_yes 5 49 true <| st_eql rfl rfl <| w_yes 2 46 false <| st_pick (b := true) (v := .bool _) rfl rfl <| pF rfl rfl <| en <| x_cond rfl (fun h3 => ?_) (fun h3 => ?_)
     ·try simp only [nm, ne_eq] at h3
      refine sr rfl <| aI rfl <| aB rfl <| en <| x_ret <| then_r <| ret_tmp2 (v := .int _ _) (v2 := .bool _) rfl rfl rfl <| ⟨?_, HC⟩
      unfold numV; rw [hnn]
      simp only; rw [hrest]
      first | (simp_all; done) | (split <;> simp_all; done) | (simp_all; omega)
     ·try simp only [nm, ne_eq] at h3
      refine x_skip <| then_n <| x_seq <| sr rfl <| mB rfl <| en <| x_cond rfl (fun h4 => ?_) (fun h4 => ?_)
      ·try simp only [nm, ne_eq] at h4
       refine sr rfl <| mI rfl <| aI rfl <| aB rfl <| en <| x_ret <| then_r <| ret_tmp2 (v := .int _ _) (v2 := .bool _) rfl rfl rfl <| ⟨?_, HC⟩
       unfold numV; rw [hnn]
       simp only; rw [hrest]
       first | (simp_all; done) | (split <;> simp_all; done) | (simp_all; omega)
      ·try simp only [nm, ne_eq] at h4
       refine x_skip <| then_n <| sr rfl <| mI rfl <| Wp rfl <| st_neg rfl <| aI rfl <| aB rfl <| en <| x_ret <| ret_tmp2 (v := .int _ _) (v2 := .bool _) rfl rfl rfl <| ⟨?_, HC⟩
       unfold numV; rw [hnn]
       simp only; rw [hrest]
       first | (simp_all; done) | (split <;> simp_all; done) | (simp_all; omega)
    ·try simp only [nm, ne_eq] at g42
     refine w_no 5 49 true <| w_no 5 49 true <| w_yes 2 46 false <| st_pick (b := false) (v := .bool _) rfl rfl <| pF rfl rfl <| en <| x_cond (t := false) rfl (fun h3 => ?_) (fun h3 => ?_)
     · exact absurd h3 (by decide)
     refine x_skip <| then_n <| x_seq <| sr rfl <| mB rfl <| en <| x_cond rfl (fun h4 => ?_) (fun h4 => ?_)
     ·try simp only [nm, ne_eq] at h4
      refine sr rfl <| mI rfl <| aI rfl <| aB rfl <| en <| x_ret <| then_r <| ret_tmp2 (v := .int _ _) (v2 := .bool _) rfl rfl rfl <| ⟨?_, HC⟩
      unfold numV; rw [hnn]
      simp only; rw [hrest]
      first | (simp_all; done) | (split <;> simp_all; done) | (simp_all; omega)
     ·try simp only [nm, ne_eq] at h4
      refine x_skip <| then_n <| sr rfl <| mI rfl <| Wp rfl <| st_neg rfl <| aI rfl <| aB rfl <| en <| x_ret <| ret_tmp2 (v := .int _ _) (v2 := .bool _) rfl rfl rfl <| ⟨?_, HC⟩
      unfold numV; rw [hnn]
      simp only; rw [hrest]
      first | (simp_all; done) | (split <;> simp_all; done) | (simp_all; omega)

def digH (d : Nat) : UInt8 := byte [48, 49, 50, 51, 52, 53, 54, 55, 56, 57, 97, 98, 99, 100, 101, 102] d
/-- A number's digits by a base. -/
def basV (b n : Nat) : Bytes := if h : n < b ∨ b < 2 then [digH n] else basV b (n / b) ++ [digH (n % b)]
termination_by n
decreasing_by exact Nat.div_lt_self (by omega) (by omega)
def bV (c : UInt8) : Value := .int .u8 (c.toNat : Int)
theorem sl_cut {w : World} {b i : Nat} {cs : List Value} {z : Bytes} {T : TypeId} (h : Blk w b cs T) (hz : cs.drop i = z.map bV) : Sl uE w (fun _ => True) (some ⟨b, 0 + i * 1, none⟩) z :=
  .inr ⟨b, 0 + i * 1, rfl, h.lt, trivial, fun j x hx => ⟨_, rfl, fun j2 v hj => by
    cases j2 with
    | zero =>
      simp at hj; subst hj
      refine h.cell ?_
      rw [nthV_eq]
      have h1 : (cs.drop i)[j]? = some (bV x) := by rw [hz, List.getElem?_map, hx]; rfl
      rw [List.getElem?_drop] at h1
      rw [show 0 + i * 1 + j * uE.sz + 0 = i + j by show 0 + i * 1 + j * 1 + 0 = _; omega]; exact h1
    | succ j2 => simp at hj⟩⟩
def BI (b n a m : Nat) (z : Bytes) (cs : List Value) : Prop := cs.length = 64 ∧ a + z.length = 64 ∧ cs.drop a = z.map bV ∧ basV b n = basV b m ++ z ∧ m * b ^ z.length ≤ n ∧ (z = [] ∨ 0 < m)
theorem BI.pos {b n a m : Nat} {z : Bytes} {cs : List Value} (hb : 8 ≤ b) (hn : n ≤ 18446744073709551615) (h : BI b n a m z cs) : 1 ≤ a := by
  obtain ⟨_, h2, _, _, h5, h6⟩ := h
  rcases h6 with rfl | h6
  · simp at h2; omega
  · have h7 : b ^ z.length ≤ n := Nat.le_trans (Nat.le_mul_of_pos_left _ h6) h5
    have h8 : 8 ^ z.length ≤ b ^ z.length := Nat.pow_le_pow_left hb _
    have h9 : 8 ^ z.length < 8 ^ 22 := by have : (8 : Nat) ^ 22 = 73786976294838206464 := rfl; omega
    have := (Nat.pow_lt_pow_iff_right (by omega : 1 < 8)).1 h9
    omega
theorem BI.cells {b n a m : Nat} {z : Bytes} {cs : List Value} {c : UInt8} (hp : 1 ≤ a) (h : BI b n a m z cs) : (cs.set (a - 1) (bV c)).length = 64 ∧ (cs.set (a - 1) (bV c)).drop (a - 1) = (c :: z).map bV := by
  obtain ⟨h1, h2, h3, _⟩ := h
  refine ⟨by simpa using h1, ?_⟩
  have hlt : a - 1 < cs.length := by omega
  rw [List.drop_eq_getElem_cons (by simpa using hlt), List.getElem_set_self, List.drop_set, if_pos (by omega), show a - 1 + 1 = a by omega, h3]
  rfl
theorem BI.last {b n a m : Nat} {z : Bytes} {cs : List Value} (hb : 8 ≤ b) (h : BI b n a m z cs) (hm : m / b = 0) : basV b n = digH (m % b) :: z := by
  have hlt : m < b := by rcases Nat.lt_or_ge m b with h | h; exact h; have := Nat.div_pos h (by omega); omega
  rw [h.2.2.2.1, basV, dif_pos (.inl hlt), Nat.mod_eq_of_lt hlt]; rfl
theorem BI.step {b n a m : Nat} {z : Bytes} {cs : List Value} (hb : 8 ≤ b) (hp : 1 ≤ a) (h : BI b n a m z cs) (hm : ¬ m / b = 0) : BI b n (a - 1) (m / b) (digH (m % b) :: z) (cs.set (a - 1) (bV (digH (m % b)))) := by
  have hc := h.cells (c := digH (m % b)) hp
  obtain ⟨h1, h2, h3, h4, h5, h6⟩ := h
  have hge : ¬ m < b := fun h => hm (Nat.div_eq_of_lt h)
  refine ⟨hc.1, by simp only [List.length_cons]; omega, hc.2, ?_, ?_, .inr (Nat.pos_of_ne_zero hm)⟩
  · rw [h4, basV, dif_neg (by omega)]; simp
  · rw [List.length_cons, Nat.pow_succ, Nat.mul_comm (b ^ z.length), ← Nat.mul_assoc]
    exact Nat.le_trans (Nat.mul_le_mul_right _ (Nat.div_mul_le_self m b)) h5

theorem based_spec (n b : Nat) (hn : n ≤ 18446744073709551615) (hb : b = 8 ∨ b = 10 ∨ b = 16) (w : World) : CallR Tryd.prog 43 #[.int .u64 (n : Int), .int .u64 (b : Int)] w fun v w' => v = S (basV b n) ∧ Chg [] w w' := by
 have hb8 : 8 ≤ b ∧ b ≤ 16 := by omega
 refine callR_of_wp (args := [_, _]) Tryd.func43 rfl (Nat.le_of_ble_eq_true rfl) ?_
 have HC : Chg [] w w := .refl _
 refine sr rfl <| aS rfl <| en <| sr rfl <| Wp rfl <| st_alloc T.zero96 ?_
 intro b5 w1 e2 c3 hb4
 have ge_b5 : w.heap.size ≤ b5 := by rw [e2]; exact HC.size
 replace HC := HC.then c3
 clear e2
 refine en <| sr rfl <| aI rfl <| en <| x_block <| x_loop (ι := Nat × Nat × Bytes × List Value) [0, 4, 6, 7, 8, 9, 10, 11, 12, 13, 14, 15, 16, 17, 18, 19, 20, 21, 22] (fun ⟨a, m, z, cs⟩ => [(0, .int .u64 (m : Int)), (6, .int .i64 (a : Int))]) (fun ⟨a, m, z, cs⟩ W => (BI b n a m z cs) ∧ (Chg [] w W) ∧ (Blk W b5 cs 96)) (fun ⟨a, m, z, cs⟩ => a) (64, n, [], [.int .u8 0, .int .u8 0, .int .u8 0, .int .u8 0, .int .u8 0, .int .u8 0, .int .u8 0, .int .u8 0, .int .u8 0, .int .u8 0, .int .u8 0, .int .u8 0, .int .u8 0, .int .u8 0, .int .u8 0, .int .u8 0, .int .u8 0, .int .u8 0, .int .u8 0, .int .u8 0, .int .u8 0, .int .u8 0, .int .u8 0, .int .u8 0, .int .u8 0, .int .u8 0, .int .u8 0, .int .u8 0, .int .u8 0, .int .u8 0, .int .u8 0, .int .u8 0, .int .u8 0, .int .u8 0, .int .u8 0, .int .u8 0, .int .u8 0, .int .u8 0, .int .u8 0, .int .u8 0, .int .u8 0, .int .u8 0, .int .u8 0, .int .u8 0, .int .u8 0, .int .u8 0, .int .u8 0, .int .u8 0, .int .u8 0, .int .u8 0, .int .u8 0, .int .u8 0, .int .u8 0, .int .u8 0, .int .u8 0, .int .u8 0, .int .u8 0, .int .u8 0, .int .u8 0, .int .u8 0, .int .u8 0, .int .u8 0, .int .u8 0, .int .u8 0]) ?_ ?_ ?_
 · exact ⟨rfl, rfl, trivial⟩
 ·refine ⟨?_, HC, hb4⟩
  exact ⟨rfl, rfl, rfl, by simp, by simp, .inl rfl⟩
 intro ⟨a, m, z, cs⟩ G6 w5 ⟨hBI, HC, hb5⟩
 change wp _ _ _ _ _ (upds (over _ _ G6) [(0, .int .u64 (m : Int)), (6, .int .i64 (a : Int))]) _ _
 have ha := hBI.pos hb8.1 hn
 have ha2 : a ≤ 64 := by have := hBI.2.1; omega
 have hmn : m ≤ n := Nat.le_trans (Nat.le_mul_of_pos_right _ (Nat.pow_pos (by omega))) hBI.2.2.2.2.1
 have hmb : m % b < 16 := Nat.lt_of_lt_of_le (Nat.mod_lt _ (by omega)) hb8.2
 have hs8 : IntKind.i64.wrap ((a : Int) - 1) = ((a - 1 : Nat) : Int) := by rw [wrap64_id (by omega) (by omega)]; omega
 have hm12 : (m : Int).tmod (b : Int) = ((m % b : Nat) : Int) := by rw [Int.tmod_eq_emod_of_nonneg (by omega)]; exact (Int.natCast_emod m b).symm
 have hdb : m / b ≤ m := Nat.div_le_self m b
 have hq17 : IntKind.u64.wrap ((m : Int).tdiv (b : Int)) = ((m / b : Nat) : Int) := by rw [quou64 (by omega) (by omega) (by omega)]; exact (Int.natCast_ediv m b).symm
 refine x_block <| sr rfl <| mI rfl <| Wp rfl <| st_subk rfl rfl (by exact hs8) <| aI rfl <| en <| sr rfl <| mI rfl <| mI rfl <| mI rfl <| Wp rfl <| st_remk rfl rfl (by omega) (by exact hm12) <| Wp rfl <| st_sidx T.u9 rfl rfl (by omega) (by (simp only [List.length_cons, List.length_nil]; omega)) <| Wp rfl <| st_arrAddr T.u96 T.size5 rfl rfl (by omega) (by omega) <| Wp rfl <| st_store (v := .int _ _) T.size5 rfl rfl rfl hb5 rfl (by have := hBI.1; simp only [List.length_singleton, Int.toNat_natCast]; omega) (by simp [Value.oneCell', S]) rfl ?_
 intro w7 c8 hb9
 replace hb9 : Blk w7 b5 (cs.set (a - 1) (bV (digH (m % b)))) 96 := by have := hb9; simp only [setVs, setV_eq, Int.toNat_natCast, Nat.zero_add, Nat.mul_one] at this; exact this
 clear hb5
 replace HC := HC.then1 c8 ge_b5
 refine en <| sr rfl <| mI rfl <| mI rfl <| Wp rfl <| st_quok rfl rfl (by omega) (by exact hq17) <| aI rfl <| en <| sr rfl <| mI rfl <| Wp rfl <| st_eql rfl rfl <| en <| x_cond rfl (fun h0 => ?_) (fun h0 => ?_)
 ·try simp only [nm, ne_eq] at h0
  have hfin := hBI.last hb8.1 (by omega)
  have hcs := hBI.cells (c := (digH (m % b))) ha
  refine sr rfl <| mI rfl <| Wp rfl <| st_arrCut (i := a - 1) (k := ((digH (m % b)) :: z).length) T.u96 T.size5 rfl ⟨_, rfl⟩ (by omega) (by simp only [List.length_cons]; have := hBI.2.1; omega) <| Wp rfl <| st_bytesStr T.u38 T.u5 T.u9 rfl (sl_cut hb9 hcs.2) <| aS rfl <| en <| x_ret <| block_r <| then_r <| block_r <| ret_tmp (v := S _) rfl rfl ?_
  rw [hfin]
  exact ⟨rfl, HC⟩
 ·try simp only [nm, ne_eq] at h0
  refine x_skip <| block_n <| then_n <| ⟨(a - 1, m / b, (digH (m % b)) :: z, cs.set (a - 1) (bV (digH (m % b)))), ?_, ?_, rfl, ⟨rfl, rfl, trivial⟩, ?_⟩
  ·refine ⟨?_, HC, hb9⟩
   exact hBI.step hb8.1 ha (by omega)
  ·show a - 1 < a; omega
  repeat (first | exact agree_upds agree_over rfl | refine agree_upd ?_ rfl | refine agree_upds ?_ rfl | refine agree_over_sub ?_ rfl)

/-- A conversion. -/
structure Spc where
  left : Bool
  zero : Bool
  width : Int
  prec : Int
  conv : UInt8
structure Spc.Ok (x : Spc) : Prop where
  w0 : 0 ≤ x.width
  w1 : x.width ≤ 1000
  p0 : -1 ≤ x.prec
  p1 : x.prec ≤ 1000
def padV (x : Spc) (s : Bytes) : Bytes := if x.left = true then s ++ List.replicate (x.width - (s.length : Int)).toNat 32 else List.replicate (x.width - (s.length : Int)).toNat 32 ++ s
def ptxV (x : Spc) (s : Bytes) : Bytes := padV x (if 0 ≤ x.prec then s.take (min x.prec.toNat s.length) else s)
def nouV (x : Spc) (sign : Bytes) : Int := if x.zero = true ∧ x.left = false ∧ x.prec < 0 then x.width - (sign.length : Int) else x.prec
def digsV (x : Spc) (sign s : Bytes) : Bytes := padV x (sign ++ List.replicate (nouV x sign - (s.length : Int)).toNat 48 ++ s)
theorem pad_len {x : Spc} (h : x.Ok) (s : Bytes) : (padV x s).length ≤ 1000 + s.length := by
  have := h.w1; have := h.w0
  unfold padV; split <;> simp only [List.length_append, List.length_replicate] <;> omega
theorem ptx_len {x : Spc} (h : x.Ok) (s : Bytes) : (ptxV x s).length ≤ 1000 + s.length := by
  unfold ptxV
  refine Nat.le_trans (pad_len h _) ?_
  split
  · rw [List.length_take]; omega
  · omega
theorem digs_len {x : Spc} (h : x.Ok) (sign s : Bytes) : (digsV x sign s).length ≤ 2000 + sign.length + s.length := by
  unfold digsV
  refine Nat.le_trans (pad_len h _) ?_
  have := h.w1; have := h.p1; have := h.w0
  have hn : nouV x sign ≤ 1000 := by unfold nouV; split <;> omega
  simp only [List.length_append, List.length_replicate]; omega

theorem pad_spec (x : Spc) (hx : x.Ok) (s : Bytes) (w : World) (hs : s.length ≤ 100000000010000) : CallR Tryd.prog 40 #[.agg ⟨[.bool x.left, .bool x.zero, .int .i64 x.width, .int .i64 x.prec, .int .u8 (x.conv.toNat : Int)]⟩, S s] w fun v w' => v = S (padV x s) ∧ Chg [] w w' := by
 have hw0 := hx.w0
 have hw1 := hx.w1
 have hmx : max (x.width - (s.length : Int)) 0 = (((x.width - (s.length : Int)).toNat : Nat) : Int) := by omega
 refine callR_of_wp (args := [_, _]) Tryd.func40 rfl (Nat.le_of_ble_eq_true rfl) ?_
 have HC : Chg [] w w := .refl _
 refine sr rfl <| Wp rfl <| st_box (v := .agg ⟨[.bool _, .bool _, .int _ _, .int _ _, .int _ _]⟩) (vs := [_, _, _, _, _]) rfl rfl ?_
 intro b2 w1 e2 c3 hb4
 have ge_b2 : w.heap.size ≤ b2 := by rw [e2]; exact HC.size
 replace HC := HC.then c3
 clear e2
 refine aS rfl <| en <| sr rfl <| fa T.fld60_2 rfl <| lI T.one3 rfl (hb4.cell rfl) <| mS rfl <| Wp rfl <| st_slen (ct := #[9]) T.u9 rfl <| Wp rfl <| st_subn rfl rfl (by constructor <;> omega) <| Wp rfl <| st_max rfl rfl ?_
 rw [hmx]
 refine Wp rfl <| st_call (ags := [_, _]) rfl rfl T.ent56 rfl (Repeat_spec 32 _ _ (by omega)) ?_
 rintro _ w5 ⟨rfl, c6⟩
 replace HC := HC.then c6
 replace hb4 := hb4.tr0 c6
 refine aS rfl <| en <| x_seq <| sr rfl <| fa T.fld60_0 rfl <| Wp rfl <| st_load1 (v := .bool _) T.one4 rfl (hb4.cell rfl) <| en <| x_cond rfl (fun h0 => ?_) (fun h0 => ?_)
 ·try simp only [nm, ne_eq] at h0
  refine sr rfl <| mS rfl <| mS rfl <| Wp rfl <| st_sadd rfl rfl (by (simp only [List.length_replicate]; omega)) <| aS rfl <| en <| x_ret <| then_r <| ret_tmp (v := S _) rfl rfl <| ⟨congrArg S ?_, HC⟩
  unfold padV; rw [if_pos (by assumption)]
 ·try simp only [nm, ne_eq] at h0
  refine x_skip <| then_n <| sr rfl <| mS rfl <| mS rfl <| Wp rfl <| st_sadd rfl rfl (by (simp only [List.length_replicate]; omega)) <| aS rfl <| en <| x_ret <| ret_tmp (v := S _) rfl rfl <| ⟨congrArg S ?_, HC⟩
  unfold padV; rw [if_neg (by first | assumption | simp_all)]

theorem ptx_spec (x : Spc) (hx : x.Ok) (s : Bytes) (w : World) (hs : s.length ≤ 100000000000000) : CallR Tryd.prog 38 #[.agg ⟨[.bool x.left, .bool x.zero, .int .i64 x.width, .int .i64 x.prec, .int .u8 (x.conv.toNat : Int)]⟩, S s] w fun v w' => v = S (ptxV x s) ∧ Chg [] w w' := by
 have hp1 := hx.p1
 refine callR_of_wp (args := [_, _]) Tryd.func38 rfl (Nat.le_of_ble_eq_true rfl) ?_
 have HC : Chg [] w w := .refl _
 refine sr rfl <| Wp rfl <| st_box (v := .agg ⟨[.bool _, .bool _, .int _ _, .int _ _, .int _ _]⟩) (vs := [_, _, _, _, _]) rfl rfl ?_
 intro b2 w1 e2 c3 hb4
 have ge_b2 : w.heap.size ≤ b2 := by rw [e2]; exact HC.size
 replace HC := HC.then c3
 clear e2
 refine aS rfl <| en <| x_seq <| sr rfl <| fa T.fld60_3 rfl <| lI T.one3 rfl (hb4.cell rfl) <| Wp rfl <| st_geq rfl rfl <| en <| x_cond rfl (fun h0 => ?_) (fun h0 => ?_)
 ·try simp only [nm, ne_eq] at h0
  refine x_region rfl <| mS rfl <| fa T.fld60_3 rfl <| lI T.one3 rfl (hb4.cell rfl) <| mS rfl <| Wp rfl <| st_slen (ct := #[9]) T.u9 rfl <| Wp rfl <| st_min rfl rfl ?_
  rw [show min x.prec (s.length : Int) = ((min x.prec.toNat s.length : Nat) : Int) by omega]
  refine Wp rfl <| st_sshi (j := (min x.prec.toNat s.length)) T.u9 rfl ⟨_, rfl⟩ (by omega) <| aS rfl <| en <| sr rfl <| Wp rfl <| st_loadA (vs := [_, _, _, _, _]) T.agg60 rfl (hb4.cells (n := 5) (vs := [_, _, _, _, _]) rfl) rfl <| mS rfl <| Wp rfl <| st_call (ags := [_, _]) rfl rfl T.ent40 rfl (pad_spec x hx _ _ (by first | omega | (rw [List.length_take]; omega))) ?_
  rintro _ w5 ⟨rfl, c6⟩
  replace HC := HC.then c6
  replace hb4 := hb4.tr0 c6
  refine aS rfl <| en <| x_ret <| ret_tmp (v := S _) rfl rfl <| ⟨congrArg S ?_, HC⟩
  unfold ptxV; rw [if_pos (by omega)]
 ·try simp only [nm, ne_eq] at h0
  refine x_skip <| then_n <| sr rfl <| Wp rfl <| st_loadA (vs := [_, _, _, _, _]) T.agg60 rfl (hb4.cells (n := 5) (vs := [_, _, _, _, _]) rfl) rfl <| mS rfl <| Wp rfl <| st_call (ags := [_, _]) rfl rfl T.ent40 rfl (pad_spec x hx _ _ (by first | omega | (rw [List.length_take]; omega))) ?_
  rintro _ w7 ⟨rfl, c8⟩
  replace HC := HC.then c8
  replace hb4 := hb4.tr0 c8
  refine aS rfl <| en <| x_ret <| ret_tmp (v := S _) rfl rfl <| ⟨congrArg S ?_, HC⟩
  unfold ptxV; rw [if_neg (by omega)]

theorem digs_spec (x : Spc) (hx : x.Ok) (sg s : Bytes) (w : World) (hg : sg.length ≤ 1) (hs : s.length ≤ 100000000000000) : CallR Tryd.prog 42 #[.agg ⟨[.bool x.left, .bool x.zero, .int .i64 x.width, .int .i64 x.prec, .int .u8 (x.conv.toNat : Int)]⟩, S sg, S s] w fun v w' => v = S (digsV x sg s) ∧ Chg [] w w' := by
 have hw0 := hx.w0
 have hw1 := hx.w1
 have hp0 := hx.p0
 have hp1 := hx.p1
 have hnb : nouV x sg ≤ 1000 ∧ -10 ≤ nouV x sg := by unfold nouV; split <;> omega
 have hmx : max (nouV x sg - (s.length : Int)) 0 = (((nouV x sg - (s.length : Int)).toNat : Nat) : Int) := by omega
 refine callR_of_wp (args := [_, _, _]) Tryd.func42 rfl (Nat.le_of_ble_eq_true rfl) ?_
 have HC : Chg [] w w := .refl _
 refine sr rfl <| Wp rfl <| st_box (v := .agg ⟨[.bool _, .bool _, .int _ _, .int _ _, .int _ _]⟩) (vs := [_, _, _, _, _]) rfl rfl ?_
 intro b3 w1 e2 c3 hb4
 have ge_b3 : w.heap.size ≤ b3 := by rw [e2]; exact HC.size
 replace HC := HC.then c3
 clear e2
 refine aS rfl <| en <| sr rfl <| fa T.fld60_3 rfl <| lI T.one3 rfl (hb4.cell rfl) <| aI rfl <| en <| x_seq <| sr rfl <| fa T.fld60_1 rfl <| Wp rfl <| st_load1 (v := .bool _) T.one4 rfl (hb4.cell rfl) <| mB rfl <| w_split (d := 12) rfl (fun g5 => ?_) (fun g5 => ?_)
 ·try simp only [nm, ne_eq] at g5
  refine w_yes 2 12 true <| st_fieldAddr T.fld60_0 rfl <| w_yes 2 12 true <| st_load1 (v := .bool _) T.one4 rfl (hb4.cell rfl) <| w_yes 2 12 true <| st_not rfl <| pT rfl rfl <| mB rfl <| w_split (d := 17) rfl (fun g6 => ?_) (fun g6 => ?_)
  ·try simp only [nm, ne_eq] at g6
   refine w_yes 7 17 true <| st_fieldAddr T.fld60_3 rfl <| w_yes 7 17 true <| st_load1 (v := .int _ _) T.one3 rfl (hb4.cell rfl) <| w_yes 7 17 true <| st_lss rfl rfl <| pT rfl rfl <| en <| x_cond rfl (fun h0 => ?_) (fun h0 => ?_)
   ·try simp only [nm, ne_eq] at h0
    have hnv : nouV x sg = x.width - (sg.length : Int) := by unfold nouV; rw [if_pos ⟨by first | assumption | simp_all, by first | assumption | simp_all, by first | assumption | omega | simp_all⟩]
    refine x_region rfl <| fa T.fld60_2 rfl <| lI T.one3 rfl (hb4.cell rfl) <| mS rfl <| Wp rfl <| st_slen (ct := #[9]) T.u9 rfl <| Wp rfl <| st_subn rfl rfl (by constructor <;> omega) <| aI rfl <| en <| x_seq ?_
    rw [← hnv]
    refine x_draw [(0, 0), (1, 0), (2, 0), (3, 0), (4, 0), (5, 0), (6, 0), (9, 0), (7, 1), (8, 0), (10, 0), (11, 1), (12, 0)] T.mixed rfl rfl rfl (fun W => W.heap[b3]? = w1.heap[b3]? ∧ True) ⟨rfl, trivial⟩ ?_
    have o9 := hb4
    have c8 := Chg.drew w1
    generalize World.drew w1 = w7 at c8 ⊢
    replace HC := HC.then c8
    replace hb4 := hb4.tr0 c8
    refine sq_q rfl (fun W hT => r_loadA (vs := [_, _, _, _, _]) T.agg60 rfl (Blk.cells (n := 5) (vs := [_, _, _, _, _]) (show Blk W b3 _ _ from hT.1.trans o9) rfl) rfl) <| sq_q rfl (fun W hT => r_move (v := S _) rfl) <| sq_q rfl (fun W hT => r_move (v := .int _ _) rfl) <| sq_q rfl (fun W hT => r_move (v := S _) rfl) <| sq_q rfl (fun W hT => r_slen (ct := #[9]) T.u9 rfl) <| sq_q rfl (fun W hT => r_subn rfl rfl (by constructor <;> omega)) <| sq_q rfl (fun W hT => r_max rfl rfl) <| sq_q rfl (fun W hT => r_move (v := S _) rfl) ?_
    rw [hmx]
    refine sq_call1 rfl (r_call (ags := [_, _]) rfl rfl T.ent56 rfl) (Repeat_spec 48 _ _ (by omega)) ?_
    rintro _ w10 ⟨rfl, c11⟩
    replace HC := HC.then c11
    replace hb4 := hb4.tr0 c11
    refine ⟨_, fun _ h => h, ⟨(Eq.trans hb4 o9.symm), trivial⟩, ?_⟩
    refine sq_q rfl (fun W hT => r_sadd rfl rfl (by (simp only [List.length_replicate]; omega))) <| sq_q rfl (fun W hT => r_sadd rfl rfl (by (simp only [List.length_append, List.length_replicate]; omega))) <| sq_call1 rfl (r_call (ags := [_, _]) rfl rfl T.ent40 rfl) (pad_spec x hx _ _ (by simp only [List.length_append, List.length_replicate]; omega)) ?_
    rintro _ w12 ⟨rfl, c13⟩
    replace HC := HC.then c13
    replace hb4 := hb4.tr0 c13
    refine ⟨_, fun _ h => h, ⟨(Eq.trans hb4 o9.symm), trivial⟩, ?_⟩
    refine sq_q rfl (fun W hT => r_assign (v := S _) rfl) ?_
    clear o9
    refine sq_nil <| then_n <| x_ret <| ret_tmp (v := S _) rfl rfl ?_
    exact ⟨rfl, HC⟩
   ·try simp only [nm, ne_eq] at h0
    have hnv : nouV x sg = x.prec := by unfold nouV; rw [if_neg (by rintro ⟨h7, h8, h9⟩; simp_all)]
    refine x_skip <| then_n <| x_seq ?_
    rw [← hnv]
    refine x_draw [(0, 0), (1, 0), (2, 0), (3, 0), (4, 0), (5, 0), (6, 0), (9, 0), (7, 1), (8, 0), (10, 0), (11, 1), (12, 0)] T.mixed rfl rfl rfl (fun W => W.heap[b3]? = w1.heap[b3]? ∧ True) ⟨rfl, trivial⟩ ?_
    have o16 := hb4
    have c15 := Chg.drew w1
    generalize World.drew w1 = w14 at c15 ⊢
    replace HC := HC.then c15
    replace hb4 := hb4.tr0 c15
    refine sq_q rfl (fun W hT => r_loadA (vs := [_, _, _, _, _]) T.agg60 rfl (Blk.cells (n := 5) (vs := [_, _, _, _, _]) (show Blk W b3 _ _ from hT.1.trans o16) rfl) rfl) <| sq_q rfl (fun W hT => r_move (v := S _) rfl) <| sq_q rfl (fun W hT => r_move (v := .int _ _) rfl) <| sq_q rfl (fun W hT => r_move (v := S _) rfl) <| sq_q rfl (fun W hT => r_slen (ct := #[9]) T.u9 rfl) <| sq_q rfl (fun W hT => r_subn rfl rfl (by constructor <;> omega)) <| sq_q rfl (fun W hT => r_max rfl rfl) <| sq_q rfl (fun W hT => r_move (v := S _) rfl) ?_
    rw [hmx]
    refine sq_call1 rfl (r_call (ags := [_, _]) rfl rfl T.ent56 rfl) (Repeat_spec 48 _ _ (by omega)) ?_
    rintro _ w17 ⟨rfl, c18⟩
    replace HC := HC.then c18
    replace hb4 := hb4.tr0 c18
    refine ⟨_, fun _ h => h, ⟨(Eq.trans hb4 o16.symm), trivial⟩, ?_⟩
    refine sq_q rfl (fun W hT => r_sadd rfl rfl (by (simp only [List.length_replicate]; omega))) <| sq_q rfl (fun W hT => r_sadd rfl rfl (by (simp only [List.length_append, List.length_replicate]; omega))) <| sq_call1 rfl (r_call (ags := [_, _]) rfl rfl T.ent40 rfl) (pad_spec x hx _ _ (by simp only [List.length_append, List.length_replicate]; omega)) ?_
    rintro _ w19 ⟨rfl, c20⟩
    replace HC := HC.then c20
    replace hb4 := hb4.tr0 c20
    refine ⟨_, fun _ h => h, ⟨(Eq.trans hb4 o16.symm), trivial⟩, ?_⟩
    refine sq_q rfl (fun W hT => r_assign (v := S _) rfl) ?_
    clear o16
    refine sq_nil <| then_n <| x_ret <| ret_tmp (v := S _) rfl rfl ?_
    exact ⟨rfl, HC⟩
  ·try simp only [nm, ne_eq] at g6
   iterate 3 refine w_no 7 17 true ?_
   refine pF rfl rfl <| en <| x_cond (t := false) rfl (fun h0 => ?_) (fun h0 => ?_)
   · exact absurd h0 (by decide)
   have hnv : nouV x sg = x.prec := by unfold nouV; rw [if_neg (by rintro ⟨h7, h8, h9⟩; simp_all)]
   refine x_skip <| then_n <| x_seq ?_
   rw [← hnv]
   refine x_draw [(0, 0), (1, 0), (2, 0), (3, 0), (4, 0), (5, 0), (6, 0), (9, 0), (7, 1), (8, 0), (10, 0), (11, 1), (12, 0)] T.mixed rfl rfl rfl (fun W => W.heap[b3]? = w1.heap[b3]? ∧ True) ⟨rfl, trivial⟩ ?_
   have o23 := hb4
   have c22 := Chg.drew w1
   generalize World.drew w1 = w21 at c22 ⊢
   replace HC := HC.then c22
   replace hb4 := hb4.tr0 c22
   refine sq_q rfl (fun W hT => r_loadA (vs := [_, _, _, _, _]) T.agg60 rfl (Blk.cells (n := 5) (vs := [_, _, _, _, _]) (show Blk W b3 _ _ from hT.1.trans o23) rfl) rfl) <| sq_q rfl (fun W hT => r_move (v := S _) rfl) <| sq_q rfl (fun W hT => r_move (v := .int _ _) rfl) <| sq_q rfl (fun W hT => r_move (v := S _) rfl) <| sq_q rfl (fun W hT => r_slen (ct := #[9]) T.u9 rfl) <| sq_q rfl (fun W hT => r_subn rfl rfl (by constructor <;> omega)) <| sq_q rfl (fun W hT => r_max rfl rfl) <| sq_q rfl (fun W hT => r_move (v := S _) rfl) ?_
   rw [hmx]
   refine sq_call1 rfl (r_call (ags := [_, _]) rfl rfl T.ent56 rfl) (Repeat_spec 48 _ _ (by omega)) ?_
   rintro _ w24 ⟨rfl, c25⟩
   replace HC := HC.then c25
   replace hb4 := hb4.tr0 c25
   refine ⟨_, fun _ h => h, ⟨(Eq.trans hb4 o23.symm), trivial⟩, ?_⟩
   refine sq_q rfl (fun W hT => r_sadd rfl rfl (by (simp only [List.length_replicate]; omega))) <| sq_q rfl (fun W hT => r_sadd rfl rfl (by (simp only [List.length_append, List.length_replicate]; omega))) <| sq_call1 rfl (r_call (ags := [_, _]) rfl rfl T.ent40 rfl) (pad_spec x hx _ _ (by simp only [List.length_append, List.length_replicate]; omega)) ?_
   rintro _ w26 ⟨rfl, c27⟩
   replace HC := HC.then c27
   replace hb4 := hb4.tr0 c27
   refine ⟨_, fun _ h => h, ⟨(Eq.trans hb4 o23.symm), trivial⟩, ?_⟩
   refine sq_q rfl (fun W hT => r_assign (v := S _) rfl) ?_
   clear o23
   refine sq_nil <| then_n <| x_ret <| ret_tmp (v := S _) rfl rfl ?_
   exact ⟨rfl, HC⟩
 ·try simp only [nm, ne_eq] at g5
  iterate 3 refine w_no 2 12 true ?_
  refine pF rfl rfl <| mB rfl ?_
  iterate 3 refine w_no 7 17 true ?_
  refine pF rfl rfl <| en <| x_cond (t := false) rfl (fun h0 => ?_) (fun h0 => ?_)
  · exact absurd h0 (by decide)
  have hnv : nouV x sg = x.prec := by unfold nouV; rw [if_neg (by rintro ⟨h7, h8, h9⟩; simp_all)]
  refine x_skip <| then_n <| x_seq ?_
  rw [← hnv]
  refine x_draw [(0, 0), (1, 0), (2, 0), (3, 0), (4, 0), (5, 0), (6, 0), (9, 0), (7, 1), (8, 0), (10, 0), (11, 1), (12, 0)] T.mixed rfl rfl rfl (fun W => W.heap[b3]? = w1.heap[b3]? ∧ True) ⟨rfl, trivial⟩ ?_
  have o30 := hb4
  have c29 := Chg.drew w1
  generalize World.drew w1 = w28 at c29 ⊢
  replace HC := HC.then c29
  replace hb4 := hb4.tr0 c29
  refine sq_q rfl (fun W hT => r_loadA (vs := [_, _, _, _, _]) T.agg60 rfl (Blk.cells (n := 5) (vs := [_, _, _, _, _]) (show Blk W b3 _ _ from hT.1.trans o30) rfl) rfl) <| sq_q rfl (fun W hT => r_move (v := S _) rfl) <| sq_q rfl (fun W hT => r_move (v := .int _ _) rfl) <| sq_q rfl (fun W hT => r_move (v := S _) rfl) <| sq_q rfl (fun W hT => r_slen (ct := #[9]) T.u9 rfl) <| sq_q rfl (fun W hT => r_subn rfl rfl (by constructor <;> omega)) <| sq_q rfl (fun W hT => r_max rfl rfl) <| sq_q rfl (fun W hT => r_move (v := S _) rfl) ?_
  rw [hmx]
  refine sq_call1 rfl (r_call (ags := [_, _]) rfl rfl T.ent56 rfl) (Repeat_spec 48 _ _ (by omega)) ?_
  rintro _ w31 ⟨rfl, c32⟩
  replace HC := HC.then c32
  replace hb4 := hb4.tr0 c32
  refine ⟨_, fun _ h => h, ⟨(Eq.trans hb4 o30.symm), trivial⟩, ?_⟩
  refine sq_q rfl (fun W hT => r_sadd rfl rfl (by (simp only [List.length_replicate]; omega))) <| sq_q rfl (fun W hT => r_sadd rfl rfl (by (simp only [List.length_append, List.length_replicate]; omega))) <| sq_call1 rfl (r_call (ags := [_, _]) rfl rfl T.ent40 rfl) (pad_spec x hx _ _ (by simp only [List.length_append, List.length_replicate]; omega)) ?_
  rintro _ w33 ⟨rfl, c34⟩
  replace HC := HC.then c34
  replace hb4 := hb4.tr0 c34
  refine ⟨_, fun _ h => h, ⟨(Eq.trans hb4 o30.symm), trivial⟩, ?_⟩
  refine sq_q rfl (fun W hT => r_assign (v := S _) rfl) ?_
  clear o30
  refine sq_nil <| then_n <| x_ret <| ret_tmp (v := S _) rfl rfl ?_
  exact ⟨rfl, HC⟩

end Go.Proofs.YtlpndcpbnbeohaaDoor.K
