import Derived.Test.YtpelmhoocepenaaGreatDoorWi
set_option linter.unusedVariables false
set_option linter.unusedSimpArgs false
set_option autoImplicit false
set_option maxRecDepth 20000
namespace Go.Proofs.YtpelmhoocepenaaGreatDoor.K
open Go Go.Proofs Go.RowKit

/-- Where a text stands in a row, or -1. -/
def idxS (s : Bytes) : List Bytes → Nat → Int
  | [], _ => -1
  | n :: l, i => if n = s then i else idxS s l (i + 1)
theorem idxS_mem (s : Bytes) : ∀ (l : List Bytes) (i : Nat), 0 ≤ idxS s l i ↔ s ∈ l
  | [], i => by simp [idxS]
  | n :: l, i => by
    rw [idxS]
    by_cases e : n = s
    · rw [if_pos e]; subst e; simp
    · rw [if_neg e, idxS_mem s l (i + 1), List.mem_cons]; exact ⟨.inr, fun h => h.resolve_left (fun h => e h.symm)⟩
theorem idxS_step {s : Bytes} {l : List Bytes} {i : Nat} {x : Bytes} (h : l[i]? = some x) : idxS s (l.drop i) i = if x = s then (i : Int) else idxS s (l.drop (i + 1)) (i + 1) := by
  obtain ⟨hi, rfl⟩ := List.getElem?_eq_some_iff.1 h
  rw [List.drop_eq_getElem_cons hi, idxS]
def binL : List Bytes := [[61], [33, 61], [45, 101, 113], [45, 110, 101], [45, 108, 116], [45, 108, 101], [45, 103, 116], [45, 103, 101]]
theorem bin_fields : Lib.fields [61, 32, 33, 61, 32, 45, 101, 113, 32, 45, 110, 101, 32, 45, 108, 116, 32, 45, 108, 101, 32, 45, 103, 116, 32, 45, 103, 101] = binL := by kernel_rfl

theorem IndexS_spec (s : Bytes) {l : List Bytes} {A : Option Addr} {cap : Nat} {D : Nat → Prop} {w : World} (hl : Sl sE w D A l) (hn : l.length ≤ 1000000000) : CallR Tryz.prog 56 #[.slice A l.length cap, S s] w fun v w' => v = .int .i64 (idxS s l 0) ∧ Chg [] w w' := by
 refine callR_of_wp (args := [_, _]) Tryz.func56 rfl (Nat.le_of_ble_eq_true rfl) ?_
 have HC : Chg [] w w := .refl _
 refine sr rfl <| aI rfl <| en <| x_seq <| sr rfl <| mL rfl <| Wp rfl <| st_len (ct := #[25]) (by rw [show ((#[25] : Array TypeId)[0]?).bind Tryz.prog.underlying = some (.slice 9) from T.u25]; rfl) rfl <| mI rfl <| en <| x_block <| x_loop (ι := Nat) [4, 5, 8, 9, 10, 11, 12, 13, 14, 15, 16, 17, 18] (fun i => [(8, .int .i64 (i : Int))]) (fun i W => (i ≤ l.length ∧ idxS s l 0 = idxS s (l.drop i) i) ∧ (Chg [] w W) ∧ (Sl sE W D A l)) (fun i => l.length - i) 0 ?_ ?_ ?_
 · exact ⟨rfl, trivial⟩
 ·refine ⟨?_, HC, hl⟩
  exact ⟨Nat.zero_le _, rfl⟩
 intro i G2 w1 ⟨⟨hi, hf⟩, HC, hl⟩
 change wp _ _ _ _ _ (upds (over _ _ G2) [(8, .int .i64 (i : Int))]) _ _
 refine sr rfl <| Wp rfl <| st_lss rfl rfl <| en <| x_seq <| x_cond rfl (fun h0 => ?_) (fun h0 => ?_)
 ·try simp only [nm, ne_eq] at h0
  refine x_skip <| then_n <| x_seq <| x_block <| sr rfl <| mI rfl <| aI rfl <| en <| sr rfl <| mS rfl <| mL rfl <| mI rfl ?_
  obtain ⟨x3, hx4⟩ : ∃ zz, l[i]? = some zz := ⟨_, List.getElem?_eq_getElem (by omega)⟩
  obtain ⟨lb9, _, vs8, hA5, hR7, hC6⟩ := hl.at hx4
  obtain rfl : vs8 = [S x3] := hR7
  refine Wp rfl <| st_indexAddr T.u25 T.size9 (congrArg (fun z => Value.slice z _ _) hA5) rfl (by omega) (by omega) <| lS T.one9 rfl (hC6.at (j := 0) rfl) <| Wp rfl <| st_seql rfl rfl <| en <| x_cond rfl (fun h1 => ?_) (fun h1 => ?_)
  ·try simp only [nm, ne_eq] at h1
   refine sr rfl <| mI rfl <| aI rfl <| en <| x_ret <| block_r <| then_r <| then_r <| block_r <| then_r <| ret_tmp (v := .int _ _) rfl rfl ?_
   rw [hf, idxS_step hx4, if_pos h1.symm]
   exact ⟨rfl, HC⟩
  ·try simp only [nm, ne_eq] at h1
   refine x_skip <| block_n <| then_n <| x_region rfl <| Wp rfl <| st_addn rfl rfl (by constructor <;> omega) <| mI rfl <| en <| ⟨i + 1, ?_, ?_, rfl, ⟨rfl, trivial⟩, ?_⟩
   ·refine ⟨?_, HC, hl⟩
    exact ⟨by omega, by rw [hf, idxS_step hx4, if_neg (fun e => h1 e.symm)]⟩
   ·show l.length - (i + 1) < l.length - i; omega
   repeat (first | exact agree_upds agree_over rfl | refine agree_upd ?_ rfl | refine agree_upds ?_ rfl | refine agree_over_sub ?_ rfl)
 ·try simp only [nm, ne_eq] at h0
  refine x_exit <| then_x <| then_x <| block_x <| then_n <| sr rfl <| aI rfl <| en <| x_ret <| ret_tmp (v := .int _ _) rfl rfl ?_
  rw [hf, List.drop_of_length_le (by omega)]
  exact ⟨rfl, HC⟩

theorem Contains_spec (s : Bytes) {l : List Bytes} {A : Option Addr} {cap : Nat} {D : Nat → Prop} {w : World} (hl : Sl sE w D A l) (hn : l.length ≤ 1000000000) : CallR Tryz.prog 41 #[.slice A l.length cap, S s] w fun v w' => v = .bool (decide (s ∈ l)) ∧ Chg [] w w' := by
 refine callR_of_wp (args := [_, _]) Tryz.func41 rfl (Nat.le_of_ble_eq_true rfl) ?_
 have HC : Chg [] w w := .refl _
 refine sr rfl <| aB rfl <| en <| sr rfl <| mL rfl <| mS rfl <| Wp rfl <| st_call (ags := [_, _]) rfl rfl T.ent56 rfl (IndexS_spec s hl hn) ?_
 rintro _ w1 ⟨rfl, c2⟩
 replace HC := HC.then c2
 replace hl := hl.tr0 c2
 refine Wp rfl <| st_geq rfl rfl <| aB rfl <| en <| x_ret <| ret_tmp (v := .bool _) rfl rfl ?_
 exact ⟨congrArg Value.bool (by rw [decide_eq_decide]; exact idxS_mem s l 0), HC⟩

theorem isBin_spec (op : Bytes) (w : World) (ht : Tab w) : CallR Tryz.prog 29 #[S op] w fun v w' => v = .bool (decide (op ∈ binL)) ∧ Chg [] w w' := by
 refine callR_of_wp (args := [_]) Tryz.func29 rfl (Nat.le_of_ble_eq_true rfl) ?_
 have HC : Chg [] w w := .refl _
 have ht1 := ht.lt
 refine sr rfl <| aB rfl <| en <| sr rfl <| Wp rfl <| st_call (ags := [_]) rfl rfl T.ent42 rfl (Fields_spec [61, 32, 33, 61, 32, 45, 101, 113, 32, 45, 110, 101, 32, 45, 108, 116, 32, 45, 108, 101, 32, 45, 103, 116, 32, 45, 103, 101] w (by decide) (all128 _ rfl) ht) ?_
 rintro _ w1 ⟨bo, rfl, hge, hsl, c2⟩
 rw [bin_fields] at hsl ⊢
 replace HC := HC.then c2
 replace ht := ht.tr0 c2
 refine mS rfl <| Wp rfl <| st_call (ags := [_, _]) rfl rfl T.ent41 rfl (Contains_spec op (l := binL) hsl (by decide)) ?_
 rintro _ w3 ⟨rfl, c4⟩
 replace HC := HC.then c4
 replace ht := ht.tr0 c4
 replace hsl := hsl.tr0 c4
 refine aB rfl <| en <| x_ret <| ret_tmp (v := .bool _) rfl rfl ?_
 exact ⟨rfl, HC⟩

def dgV (c : UInt8) : Int := ((c.toNat : Int) - 48)
/-- A number's digits, read below 0; none: no number. -/
def numN : Int → Bytes → Option Int
  | n, [] => some n
  | n, c :: s => if digB c = false ∨ n < (-9223372036854775808 + dgV c).tdiv 10 then none else numN (n * 10 - dgV c) s
def restV (s : Bytes) : Bytes := if Lib.trimPrefix s [45] = s then Lib.trimPrefix s [43] else Lib.trimPrefix s [45]
def numV (s : Bytes) : Int × Bool := match numN 0 (restV s) with
  | none => (0, false)
  | some n => if restV s = [] ∨ (Lib.trimPrefix s [45] = s ∧ n = -9223372036854775808) then (0, false) else if Lib.trimPrefix s [45] = s then (IntKind.i64.wrap (0 - n), true) else (n, true)
theorem dig_in {c : UInt8} (h : digB c = true) : 0 ≤ dgV c ∧ dgV c ≤ 9 := by unfold digB at h; rw [decide_eq_true_eq] at h; unfold dgV; omega
theorem numN_step {n : Int} {s : Bytes} {i : Nat} (hi : i < s.length) : numN n (s.drop i) = if digB (byte s i) = false ∨ n < (-9223372036854775808 + dgV (byte s i)).tdiv 10 then none else numN (n * 10 - dgV (byte s i)) (s.drop (i + 1)) := by
  rw [drop_byte hi, numN]
theorem quo10 {d n : Int} (h0 : 0 ≤ d) (h9 : d ≤ 9) (h : ¬ n < (-9223372036854775808 + d).tdiv 10) (hn : n ≤ 0) : -9223372036854775808 ≤ n * 10 - d ∧ n * 10 - d ≤ 0 := by
  have h1 : (-9223372036854775808 + d).tdiv 10 = -((9223372036854775808 - d) / 10) := by
    rw [show (-9223372036854775808 + d : Int) = -(9223372036854775808 - d) by omega, Int.neg_tdiv, Int.tdiv_eq_ediv_of_nonneg (by omega)]
  rw [h1] at h; omega

theorem digit_spec (c : UInt8) (w : World) : CallR Tryz.prog 60 #[.int .u8 (c.toNat : Int)] w fun v w' => v = .bool (digB c) ∧ Chg [] w w' := by
 refine callR_of_wp (args := [_]) Tryz.func60 rfl (Nat.le_of_ble_eq_true rfl) ?_
 have HC : Chg [] w w := .refl _
 refine sr rfl <| aB rfl <| en <| sr rfl <| mI rfl <| Wp rfl <| st_sub rfl rfl <| Wp rfl <| st_lss rfl rfl <| aB rfl <| en <| x_ret <| ret_tmp (v := .bool _) rfl rfl ?_
 have hc := c.toNat_lt
 refine ⟨congrArg Value.bool ?_, HC⟩
 unfold digB; rw [decide_eq_decide, wrap_u8]; omega

theorem quo_wrap {d : Int} (h0 : 0 ≤ d) (h9 : d ≤ 9) : IntKind.i64.wrap ((-9223372036854775808 + d).tdiv 10) = (-9223372036854775808 + d).tdiv 10 := by
  have h1 : (-9223372036854775808 + d).tdiv 10 = -((9223372036854775808 - d) / 10) := by
    rw [show (-9223372036854775808 + d : Int) = -(9223372036854775808 - d) by omega, Int.neg_tdiv, Int.tdiv_eq_ediv_of_nonneg (by omega)]
  rw [h1]; exact wrap64_id (by omega) (by omega)
theorem dg_wrap {c : UInt8} (h : digB c = true) : IntKind.i64.wrap (IntKind.u8.wrap ((c.toNat : Int) - 48)) = dgV c := by
  have h1 := dig_in h
  have h2 : IntKind.u8.wrap ((c.toNat : Int) - 48) = dgV c := by rw [wrap_u8]; unfold dgV at *; omega
  rw [h2]; exact wrap64_id (by omega) (by omega)

theorem trim_len9 (s p : Bytes) : (Lib.trimPrefix s p).length ≤ s.length := by unfold Lib.trimPrefix; split <;> simp

theorem Number_spec (s : Bytes) (w : World) (hs : s.length ≤ 9223372036854775807) : CallR Tryz.prog 43 #[S s] w fun v w' => v = .tuple ⟨[.int .i64 (numV s).1, .bool (numV s).2]⟩ ∧ Chg [] w w' := by
 have ht1 := trim_len9 s [45]
 have ht2 := trim_len9 s [43]
 refine callR_of_wp (args := [_]) Tryz.func43 rfl (Nat.le_of_ble_eq_true rfl) ?_
 have HC : Chg [] w w := .refl _
 refine sr rfl <| aI rfl <| aB rfl <| en <| sr rfl <| mS rfl <| Wp rfl <| st_call (ags := [_, _]) rfl rfl T.ent59 rfl (TrimPrefix_spec _ _ _) ?_
 rintro _ w1 ⟨rfl, c2⟩
 replace HC := HC.then c2
 refine aS rfl <| en <| sr rfl <| mS rfl <| mS rfl <| Wp rfl <| st_sneq rfl rfl <| aB rfl <| en <| x_seq <| sr rfl <| mB rfl <| Wp rfl <| st_not rfl <| en <| x_cond rfl (fun h0 => ?_) (fun h0 => ?_)
 ·try simp only [nm, ne_eq] at h0
  have hmn : Lib.trimPrefix s [45] = s := by first | assumption | simpa using h0
  have hrest : restV s = Lib.trimPrefix s [43] := by unfold restV; rw [if_pos hmn]
  refine x_region rfl <| mS rfl <| Wp rfl <| st_call (ags := [_, _]) rfl rfl T.ent59 rfl (TrimPrefix_spec _ _ _) ?_
  rintro _ w3 ⟨rfl, c4⟩
  replace HC := HC.then c4
  refine aS rfl <| en <| sr rfl <| aI rfl <| en <| x_seq <| sr rfl <| mS rfl <| Wp rfl <| st_strBytes (s := (Lib.trimPrefix s [43])) T.u9 T.u79 T.u5 rfl ?_
  intro b5 cp6 w7 ge0_b5 lt_b5 c8 hs9
  replace HC := HC.then c8
  refine Wp rfl <| st_len (ct := #[79]) (by rw [show ((#[79] : Array TypeId)[0]?).bind Tryz.prog.underlying = some (.slice 5) from T.u79]; rfl) rfl <| mI rfl <| en <| x_block <| x_loop (ι := Nat × Int) [2, 3, 6, 8, 9, 22, 23, 24, 25, 26, 27, 28, 29, 30, 31, 32, 33, 34, 35, 36, 37, 38, 39, 40, 41, 42, 43] (fun ⟨i, n⟩ => [(22, .int .i64 (i : Int)), (6, .int .i64 n)]) (fun ⟨i, n⟩ W => (i ≤ (Lib.trimPrefix s [43]).length ∧ -9223372036854775808 ≤ n ∧ n ≤ 0 ∧ numN n ((Lib.trimPrefix s [43]).drop i) = numN 0 (restV s)) ∧ (Chg [] w W) ∧ (Sl uE W (fun k => k = b5) (some ⟨b5, 0, none⟩) (Lib.trimPrefix s [43]))) (fun ⟨i, n⟩ => (Lib.trimPrefix s [43]).length - i) (0, 0) ?_ ?_ ?_
  · exact ⟨rfl, rfl, trivial⟩
  ·refine ⟨?_, HC, hs9⟩
   exact ⟨Nat.zero_le _, by decide, Int.le_refl _, by rw [hrest]; rfl⟩
  intro ⟨i, n⟩ G11 w10 ⟨⟨hi, hn0, hn1, hr⟩, HC, hs9⟩
  change wp _ _ _ _ _ (upds (over _ _ G11) [(22, .int .i64 (i : Int)), (6, .int .i64 n)]) _ _
  refine sr rfl <| Wp rfl <| st_lss rfl rfl <| en <| x_seq <| x_cond rfl (fun h1 => ?_) (fun h1 => ?_)
  ·try simp only [nm, ne_eq] at h1
   refine x_skip <| then_n <| x_seq <| x_block <| sr rfl ?_
   obtain ⟨x12, hx13⟩ : ∃ zz, (Lib.trimPrefix s [43])[i]? = some zz := ⟨_, List.getElem?_eq_getElem (by omega)⟩
   obtain ⟨lb18, _, vs17, hA14, hR16, hC15⟩ := hs9.at hx13
   obtain rfl : vs17 = [.int .u8 (x12.toNat : Int)] := hR16
   refine Wp rfl <| st_indexAddr T.u79 T.size5 (congrArg (fun z => Value.slice z _ _) hA14) rfl (by omega) (by omega) <| lI T.one5 rfl (hC15.at (j := 0) rfl) <| aI rfl <| en <| x_seq ?_
   obtain rfl : x12 = (byte (Lib.trimPrefix s [43]) i) := byte_at hx13
   refine x_region rfl <| mI rfl <| Wp rfl <| st_sub rfl rfl <| Wp rfl <| st_convInt T.u5 T.u2 rfl <| aI rfl <| en <| x_seq <| sr rfl <| mI rfl <| Wp rfl <| st_call (ags := [_]) rfl rfl T.ent60 rfl (digit_spec _ _) ?_
   rintro _ w19 ⟨rfl, c20⟩
   replace HC := HC.then c20
   replace hs9 := hs9.tr0 c20
   refine Wp rfl <| st_not rfl <| mB rfl <| w_split (d := 32) rfl (fun g21 => ?_) (fun g21 => ?_)
   ·try simp only [nm, ne_eq] at g21
    have hdg : digB (byte (Lib.trimPrefix s [43]) i) = false := by first | assumption | simp_all
    iterate 5 refine w_no 3 32 false ?_
    refine pT rfl rfl <| en <| x_cond (t := true) rfl (fun h2 => ?_) (fun h2 => ?_)
    rotate_left
    · exact absurd h2 (by decide)
    have hnn : numN 0 (restV s) = none := by rw [← hr, numN_step (by omega), if_pos (by left; exact hdg)]
    refine sr rfl <| aI rfl <| aB rfl <| en <| x_ret <| then_r <| block_r <| then_r <| then_r <| block_r <| then_r <| ret_tmp2 (v := .int _ _) (v2 := .bool _) rfl rfl rfl <| ⟨?_, HC⟩
    unfold numV; rw [hnn]
   ·try simp only [nm, ne_eq] at g21
    have hdg : digB (byte (Lib.trimPrefix s [43]) i) = true := by first | assumption | simp_all
    have hdd := dig_in hdg
    rw [dg_wrap hdg]
    refine w_yes 3 32 false <| st_move (v := .int _ _) rfl <| w_yes 3 32 false <| st_move (v := .int _ _) rfl <| w_yes 3 32 false <| st_addn rfl rfl (by constructor <;> omega) <| w_yes 3 32 false <| st_quok rfl rfl (by decide) (by exact quo_wrap hdd.1 hdd.2) <| w_yes 3 32 false <| st_lss rfl rfl <| pF rfl rfl <| en <| x_cond rfl (fun h2 => ?_) (fun h2 => ?_)
    ·try simp only [nm, ne_eq] at h2
     have hnn : numN 0 (restV s) = none := by rw [← hr, numN_step (by omega), if_pos (by right; exact h2)]
     refine sr rfl <| aI rfl <| aB rfl <| en <| x_ret <| then_r <| block_r <| then_r <| then_r <| block_r <| then_r <| ret_tmp2 (v := .int _ _) (v2 := .bool _) rfl rfl rfl <| ⟨?_, HC⟩
     unfold numV; rw [hnn]
    ·try simp only [nm, ne_eq] at h2
     have hq := quo10 hdd.1 hdd.2 h2 hn1
     refine x_skip <| then_n <| x_region rfl <| mI rfl <| Wp rfl <| st_muln rfl rfl (by constructor <;> omega) <| mI rfl <| Wp rfl <| st_subn rfl rfl (by constructor <;> omega) <| aI rfl <| wops_nil <| block_n <| then_n <| x_region rfl <| Wp rfl <| st_addn rfl rfl (by constructor <;> omega) <| mI rfl <| en <| ⟨(i + 1, n * 10 - dgV (byte (Lib.trimPrefix s [43]) i)), ?_, ?_, rfl, ⟨rfl, rfl, trivial⟩, ?_⟩
     ·refine ⟨?_, HC, hs9⟩
      exact ⟨by omega, hq.1, hq.2, by have h9 := hr; rw [numN_step (i := i) (by omega), if_neg (by rintro (h | h); (rw [hdg] at h; cases h); exact h2 h)] at h9; exact h9⟩
     ·show (Lib.trimPrefix s [43]).length - (i + 1) < (Lib.trimPrefix s [43]).length - i; omega
     repeat (first | exact agree_upds agree_over rfl | refine agree_upd ?_ rfl | refine agree_upds ?_ rfl | refine agree_over_sub ?_ rfl)
  ·try simp only [nm, ne_eq] at h1
   have hnn : numN 0 (restV s) = some n := by rw [← hr, List.drop_of_length_le (by omega)]; rfl
   refine x_exit <| then_x <| then_x <| block_x <| then_n <| x_seq <| sr rfl <| mS rfl <| Wp rfl <| st_seql rfl rfl <| mB rfl <| w_split (d := 46) rfl (fun g22 => ?_) (fun g22 => ?_)
   ·try simp only [nm, ne_eq] at g22
    iterate 3 refine w_no 2 46 false ?_
    refine w_no 5 49 true <| w_no 5 49 true <| w_no 2 46 false <| pT rfl rfl <| en <| x_cond (t := true) rfl (fun h3 => ?_) (fun h3 => ?_)
    rotate_left
    · exact absurd h3 (by decide)
    refine sr rfl <| aI rfl <| aB rfl <| en <| x_ret <| then_r <| ret_tmp2 (v := .int _ _) (v2 := .bool _) rfl rfl rfl <| ⟨?_, HC⟩
    unfold numV; rw [hnn]
    simp only; rw [hrest]
    first | (simp_all; done) | (split <;> simp_all; done) | (simp_all; omega)
   ·try simp only [nm, ne_eq] at g22
    refine w_yes 2 46 false <| st_move (v := .bool _) rfl <| w_yes 2 46 false <| st_not rfl <| w_yes 2 46 false <| st_move (v := .bool _) rfl <| w_split (d := 49) rfl (fun g23 => ?_) (fun g23 => ?_)
    ·try simp only [nm, ne_eq] at g23
     refine w_yes 5 49 true <| st_move (v := .int _ _) rfl <| w_yes 5 49 true <| st_eql rfl rfl <| w_yes 2 46 false <| st_pick (b := true) (v := .bool _) rfl rfl <| pF rfl rfl <| en <| x_cond rfl (fun h3 => ?_) (fun h3 => ?_)
     ·try simp only [nm, ne_eq] at h3
      refine sr rfl <| aI rfl <| aB rfl <| en <| x_ret <| then_r <| ret_tmp2 (v := .int _ _) (v2 := .bool _) rfl rfl rfl <| ⟨?_, HC⟩
      unfold numV; rw [hnn]
      simp only; rw [hrest]
      first | (simp_all; done) | (split <;> simp_all; done) | (simp_all; omega)
     ·try simp only [nm, ne_eq] at h3
      refine x_skip <| then_n <| x_seq <| sr rfl <| mB rfl <| en <| x_cond rfl (fun h4 => ?_) (fun h4 => ?_)
      ·try simp only [nm, ne_eq] at h4
       refine sr rfl <| mI rfl <| aI rfl <| aB rfl <| en <| x_ret <| then_r <| ret_tmp2 (v := .int _ _) (v2 := .bool _) rfl rfl rfl <| ⟨?_, HC⟩
       unfold numV; rw [hnn]
       simp only; rw [hrest]
       first | (simp_all; done) | (split <;> simp_all; done) | (simp_all; omega)
      ·try simp only [nm, ne_eq] at h4
       refine x_skip <| then_n <| sr rfl <| mI rfl <| Wp rfl <| st_neg rfl <| aI rfl <| aB rfl <| en <| x_ret <| ret_tmp2 (v := .int _ _) (v2 := .bool _) rfl rfl rfl <| ⟨?_, HC⟩
       unfold numV; rw [hnn]
       simp only; rw [hrest]
       first | (simp_all; done) | (split <;> simp_all; done) | (simp_all; omega)
    ·try simp only [nm, ne_eq] at g23
     refine w_no 5 49 true <| w_no 5 49 true <| w_yes 2 46 false <| st_pick (b := false) (v := .bool _) rfl rfl <| pF rfl rfl <| en <| x_cond (t := false) rfl (fun h3 => ?_) (fun h3 => ?_)
     · exact absurd h3 (by decide)
     refine x_skip <| then_n <| x_seq <| sr rfl <| mB rfl <| en <| x_cond rfl (fun h4 => ?_) (fun h4 => ?_)
     ·try simp only [nm, ne_eq] at h4
      refine sr rfl <| mI rfl <| aI rfl <| aB rfl <| en <| x_ret <| then_r <| ret_tmp2 (v := .int _ _) (v2 := .bool _) rfl rfl rfl <| ⟨?_, HC⟩
      unfold numV; rw [hnn]
      simp only; rw [hrest]
      first | (simp_all; done) | (split <;> simp_all; done) | (simp_all; omega)
     ·try simp only [nm, ne_eq] at h4
      refine x_skip <| then_n <| sr rfl <| mI rfl <| Wp rfl <| st_neg rfl <| aI rfl <| aB rfl <| en <| x_ret <| ret_tmp2 (v := .int _ _) (v2 := .bool _) rfl rfl rfl <| ⟨?_, HC⟩
      unfold numV; rw [hnn]
      simp only; rw [hrest]
      first | (simp_all; done) | (split <;> simp_all; done) | (simp_all; omega)
 ·try simp only [nm, ne_eq] at h0
  have hmn : ¬ Lib.trimPrefix s [45] = s := by first | assumption | simpa using h0
  have hrest : restV s = Lib.trimPrefix s [45] := by unfold restV; rw [if_neg hmn]
  refine x_skip <| then_n <| sr rfl <| aI rfl <| en <| x_seq <| sr rfl <| mS rfl <| Wp rfl <| st_strBytes (s := (Lib.trimPrefix s [45])) T.u9 T.u79 T.u5 rfl ?_
  intro b24 cp25 w26 ge0_b24 lt_b24 c27 hs28
  replace HC := HC.then c27
  refine Wp rfl <| st_len (ct := #[79]) (by rw [show ((#[79] : Array TypeId)[0]?).bind Tryz.prog.underlying = some (.slice 5) from T.u79]; rfl) rfl <| mI rfl <| en <| x_block <| x_loop (ι := Nat × Int) [2, 3, 6, 8, 9, 22, 23, 24, 25, 26, 27, 28, 29, 30, 31, 32, 33, 34, 35, 36, 37, 38, 39, 40, 41, 42, 43] (fun ⟨i, n⟩ => [(22, .int .i64 (i : Int)), (6, .int .i64 n)]) (fun ⟨i, n⟩ W => (i ≤ (Lib.trimPrefix s [45]).length ∧ -9223372036854775808 ≤ n ∧ n ≤ 0 ∧ numN n ((Lib.trimPrefix s [45]).drop i) = numN 0 (restV s)) ∧ (Chg [] w W) ∧ (Sl uE W (fun k => k = b24) (some ⟨b24, 0, none⟩) (Lib.trimPrefix s [45]))) (fun ⟨i, n⟩ => (Lib.trimPrefix s [45]).length - i) (0, 0) ?_ ?_ ?_
  · exact ⟨rfl, rfl, trivial⟩
  ·refine ⟨?_, HC, hs28⟩
   exact ⟨Nat.zero_le _, by decide, Int.le_refl _, by rw [hrest]; rfl⟩
  intro ⟨i, n⟩ G30 w29 ⟨⟨hi, hn0, hn1, hr⟩, HC, hs28⟩
  change wp _ _ _ _ _ (upds (over _ _ G30) [(22, .int .i64 (i : Int)), (6, .int .i64 n)]) _ _
  refine sr rfl <| Wp rfl <| st_lss rfl rfl <| en <| x_seq <| x_cond rfl (fun h1 => ?_) (fun h1 => ?_)
  ·try simp only [nm, ne_eq] at h1
   refine x_skip <| then_n <| x_seq <| x_block <| sr rfl ?_
   obtain ⟨x31, hx32⟩ : ∃ zz, (Lib.trimPrefix s [45])[i]? = some zz := ⟨_, List.getElem?_eq_getElem (by omega)⟩
   obtain ⟨lb37, _, vs36, hA33, hR35, hC34⟩ := hs28.at hx32
   obtain rfl : vs36 = [.int .u8 (x31.toNat : Int)] := hR35
   refine Wp rfl <| st_indexAddr T.u79 T.size5 (congrArg (fun z => Value.slice z _ _) hA33) rfl (by omega) (by omega) <| lI T.one5 rfl (hC34.at (j := 0) rfl) <| aI rfl <| en <| x_seq ?_
   obtain rfl : x31 = (byte (Lib.trimPrefix s [45]) i) := byte_at hx32
   refine x_region rfl <| mI rfl <| Wp rfl <| st_sub rfl rfl <| Wp rfl <| st_convInt T.u5 T.u2 rfl <| aI rfl <| en <| x_seq <| sr rfl <| mI rfl <| Wp rfl <| st_call (ags := [_]) rfl rfl T.ent60 rfl (digit_spec _ _) ?_
   rintro _ w38 ⟨rfl, c39⟩
   replace HC := HC.then c39
   replace hs28 := hs28.tr0 c39
   refine Wp rfl <| st_not rfl <| mB rfl <| w_split (d := 32) rfl (fun g40 => ?_) (fun g40 => ?_)
   ·try simp only [nm, ne_eq] at g40
    have hdg : digB (byte (Lib.trimPrefix s [45]) i) = false := by first | assumption | simp_all
    iterate 5 refine w_no 3 32 false ?_
    refine pT rfl rfl <| en <| x_cond (t := true) rfl (fun h2 => ?_) (fun h2 => ?_)
    rotate_left
    · exact absurd h2 (by decide)
    have hnn : numN 0 (restV s) = none := by rw [← hr, numN_step (by omega), if_pos (by left; exact hdg)]
    refine sr rfl <| aI rfl <| aB rfl <| en <| x_ret <| then_r <| block_r <| then_r <| then_r <| block_r <| then_r <| ret_tmp2 (v := .int _ _) (v2 := .bool _) rfl rfl rfl <| ⟨?_, HC⟩
    unfold numV; rw [hnn]
   ·try simp only [nm, ne_eq] at g40
    have hdg : digB (byte (Lib.trimPrefix s [45]) i) = true := by first | assumption | simp_all
    have hdd := dig_in hdg
    rw [dg_wrap hdg]
    refine w_yes 3 32 false <| st_move (v := .int _ _) rfl <| w_yes 3 32 false <| st_move (v := .int _ _) rfl <| w_yes 3 32 false <| st_addn rfl rfl (by constructor <;> omega) <| w_yes 3 32 false <| st_quok rfl rfl (by decide) (by exact quo_wrap hdd.1 hdd.2) <| w_yes 3 32 false <| st_lss rfl rfl <| pF rfl rfl <| en <| x_cond rfl (fun h2 => ?_) (fun h2 => ?_)
    ·try simp only [nm, ne_eq] at h2
     have hnn : numN 0 (restV s) = none := by rw [← hr, numN_step (by omega), if_pos (by right; exact h2)]
     refine sr rfl <| aI rfl <| aB rfl <| en <| x_ret <| then_r <| block_r <| then_r <| then_r <| block_r <| then_r <| ret_tmp2 (v := .int _ _) (v2 := .bool _) rfl rfl rfl <| ⟨?_, HC⟩
     unfold numV; rw [hnn]
    ·try simp only [nm, ne_eq] at h2
     have hq := quo10 hdd.1 hdd.2 h2 hn1
     refine x_skip <| then_n <| x_region rfl <| mI rfl <| Wp rfl <| st_muln rfl rfl (by constructor <;> omega) <| mI rfl <| Wp rfl <| st_subn rfl rfl (by constructor <;> omega) <| aI rfl <| wops_nil <| block_n <| then_n <| x_region rfl <| Wp rfl <| st_addn rfl rfl (by constructor <;> omega) <| mI rfl <| en <| ⟨(i + 1, n * 10 - dgV (byte (Lib.trimPrefix s [45]) i)), ?_, ?_, rfl, ⟨rfl, rfl, trivial⟩, ?_⟩
     ·refine ⟨?_, HC, hs28⟩
      exact ⟨by omega, hq.1, hq.2, by have h9 := hr; rw [numN_step (i := i) (by omega), if_neg (by rintro (h | h); (rw [hdg] at h; cases h); exact h2 h)] at h9; exact h9⟩
     ·show (Lib.trimPrefix s [45]).length - (i + 1) < (Lib.trimPrefix s [45]).length - i; omega
     repeat (first | exact agree_upds agree_over rfl | refine agree_upd ?_ rfl | refine agree_upds ?_ rfl | refine agree_over_sub ?_ rfl)
  ·try simp only [nm, ne_eq] at h1
   have hnn : numN 0 (restV s) = some n := by rw [← hr, List.drop_of_length_le (by omega)]; rfl
   refine x_exit <| then_x <| then_x <| block_x <| then_n <| x_seq <| sr rfl <| mS rfl <| Wp rfl <| st_seql rfl rfl <| mB rfl <| w_split (d := 46) rfl (fun g41 => ?_) (fun g41 => ?_)
   ·try simp only [nm, ne_eq] at g41
    iterate 3 refine w_no 2 46 false ?_
    refine w_no 5 49 true <| w_no 5 49 true <| w_no 2 46 false <| pT rfl rfl <| en <| x_cond (t := true) rfl (fun h3 => ?_) (fun h3 => ?_)
    rotate_left
    · exact absurd h3 (by decide)
    refine sr rfl <| aI rfl <| aB rfl <| en <| x_ret <| then_r <| ret_tmp2 (v := .int _ _) (v2 := .bool _) rfl rfl rfl <| ⟨?_, HC⟩
    unfold numV; rw [hnn]
    simp only; rw [hrest]
    first | (simp_all; done) | (split <;> simp_all; done) | (simp_all; omega)
   ·try simp only [nm, ne_eq] at g41
    refine w_yes 2 46 false <| st_move (v := .bool _) rfl <| w_yes 2 46 false <| st_not rfl <| w_yes 2 46 false <| st_move (v := .bool _) rfl <| w_split (d := 49) rfl (fun g42 => ?_) (fun g42 => ?_)
    ·try simp only [nm, ne_eq] at g42
     refine w_yes 5 49 true <| st_move (v := .int _ _) rfl <| w_yes 5 49 true <| st_eql rfl rfl <| w_yes 2 46 false <| st_pick (b := true) (v := .bool _) rfl rfl <| pF rfl rfl <| en <| x_cond rfl (fun h3 => ?_) (fun h3 => ?_)
     ·try simp only [nm, ne_eq] at h3
      refine sr rfl <| aI rfl <| aB rfl <| en <| x_ret <| then_r <| ret_tmp2 (v := .int _ _) (v2 := .bool _) rfl rfl rfl <| ⟨?_, HC⟩
      unfold numV; rw [hnn]
      simp only; rw [hrest]
      first | (simp_all; done) | (split <;> simp_all; done) | (simp_all; omega)
     ·try simp only [nm, ne_eq] at h3
      refine x_skip <| then_n <| x_seq <| sr rfl <| mB rfl <| en <| x_cond rfl (fun h4 => ?_) (fun h4 => ?_)
      ·try simp only [nm, ne_eq] at h4
       refine sr rfl <| mI rfl <| aI rfl <| aB rfl <| en <| x_ret <| then_r <| ret_tmp2 (v := .int _ _) (v2 := .bool _) rfl rfl rfl <| ⟨?_, HC⟩
       unfold numV; rw [hnn]
       simp only; rw [hrest]
       first | (simp_all; done) | (split <;> simp_all; done) | (simp_all; omega)
      ·try simp only [nm, ne_eq] at h4
       refine x_skip <| then_n <| sr rfl <| mI rfl <| Wp rfl <| st_neg rfl <| aI rfl <| aB rfl <| en <| x_ret <| ret_tmp2 (v := .int _ _) (v2 := .bool _) rfl rfl rfl <| ⟨?_, HC⟩
       unfold numV; rw [hnn]
       simp only; rw [hrest]
       first | (simp_all; done) | (split <;> simp_all; done) | (simp_all; omega)
    ·try simp only [nm, ne_eq] at g42
     refine w_no 5 49 true <| w_no 5 49 true <| w_yes 2 46 false <| st_pick (b := false) (v := .bool _) rfl rfl <| pF rfl rfl <| en <| x_cond (t := false) rfl (fun h3 => ?_) (fun h3 => ?_)
     · exact absurd h3 (by decide)
     refine x_skip <| then_n <| x_seq <| sr rfl <| mB rfl <| en <| x_cond rfl (fun h4 => ?_) (fun h4 => ?_)
     ·try simp only [nm, ne_eq] at h4
      refine sr rfl <| mI rfl <| aI rfl <| aB rfl <| en <| x_ret <| then_r <| ret_tmp2 (v := .int _ _) (v2 := .bool _) rfl rfl rfl <| ⟨?_, HC⟩
      unfold numV; rw [hnn]
      simp only; rw [hrest]
      first | (simp_all; done) | (split <;> simp_all; done) | (simp_all; omega)
     ·try simp only [nm, ne_eq] at h4
      refine x_skip <| then_n <| sr rfl <| mI rfl <| Wp rfl <| st_neg rfl <| aI rfl <| aB rfl <| en <| x_ret <| ret_tmp2 (v := .int _ _) (v2 := .bool _) rfl rfl rfl <| ⟨?_, HC⟩
      unfold numV; rw [hnn]
      simp only; rw [hrest]
      first | (simp_all; done) | (split <;> simp_all; done) | (simp_all; omega)

end Go.Proofs.YtpelmhoocepenaaGreatDoor.K
set_option linter.unusedVariables false
set_option linter.unusedSimpArgs false
set_option autoImplicit false
set_option maxRecDepth 20000
namespace Go.Proofs.YtpelmhoocepenaaGreatDoor.K
open Go Go.Proofs Go.RowKit

/-- What an operator of two numbers tells of how they compare. -/
def bmapV (c : Int) (op : Bytes) : Bool :=
  if [45, 103, 101] = op then decide (0 ≤ c) else if [45, 103, 116] = op then decide (0 < c) else if [45, 108, 101] = op then decide (c ≤ 0) else if [45, 108, 116] = op then decide (c < 0) else if [45, 110, 101] = op then !decide (c = 0) else if [45, 101, 113] = op then decide (c = 0) else false
def binV (a op b : Bytes) : Int :=
  if op = [61] then truN (decide (a = b))
  else if op = [33, 61] then truN (!decide (a = b))
  else if (numV a).2 = false then 2
  else if (numV b).2 = false then 2
  else truN (bmapV (Lib.compareInt (numV a).1 (numV b).1) op)
theorem Compare64_spec (a b : Int) (w : World) : CallR Tryz.prog 44 #[.int .i64 a, .int .i64 b] w fun v w' => v = .int .i64 (Lib.compareInt a b) ∧ Chg [] w w' :=
  CallR.of (Tryz.cmp_Compare_int a b w) fun e w' ⟨h1, h2⟩ => ⟨_, h1, rfl, .refl' h2⟩

theorem binary_spec (a op b : Bytes) (w : World) (ha : a.length ≤ 9223372036854775807) (hb : b.length ≤ 9223372036854775807) : CallR Tryz.prog 30 #[S a, S op, S b] w fun v w' => v = .int .i64 (binV a op b) ∧ Chg [] w w' := by
 refine callR_of_wp (args := [_, _, _]) Tryz.func30 rfl (Nat.le_of_ble_eq_true rfl) ?_
 have HC : Chg [] w w := .refl _
 refine sr rfl <| aI rfl <| en <| x_seq <| sr rfl <| mS rfl <| en <| x_block <| sr rfl <| Wp rfl <| st_seql rfl rfl <| aB rfl <| en <| x_cond rfl (fun h0 => ?_) (fun h0 => ?_)
 ·try simp only [nm, ne_eq] at h0
  refine sr rfl <| mS rfl <| mS rfl <| Wp rfl <| st_seql rfl rfl <| Wp rfl <| st_call (ags := [_]) rfl rfl T.ent26 rfl (truth_spec _ _) ?_
  rintro _ w1 ⟨rfl, c2⟩
  replace HC := HC.then c2
  refine aI rfl <| en <| x_ret <| block_r <| then_r <| ret_tmp (v := .int _ _) rfl rfl <| ⟨?_, HC⟩
  unfold binV; rw [if_pos h0]
 ·try simp only [nm, ne_eq] at h0
  refine sr rfl <| Wp rfl <| st_seql rfl rfl <| aB rfl <| en <| x_cond rfl (fun h1 => ?_) (fun h1 => ?_)
  ·try simp only [nm, ne_eq] at h1
   refine sr rfl <| mS rfl <| mS rfl <| Wp rfl <| st_sneq rfl rfl <| Wp rfl <| st_call (ags := [_]) rfl rfl T.ent26 rfl (truth_spec _ _) ?_
   rintro _ w3 ⟨rfl, c4⟩
   replace HC := HC.then c4
   refine aI rfl <| en <| x_ret <| block_r <| then_r <| ret_tmp (v := .int _ _) rfl rfl <| ⟨?_, HC⟩
   unfold binV; rw [if_neg h0, if_pos h1]
  ·try simp only [nm, ne_eq] at h1
   refine x_skip <| block_n <| then_n <| sr rfl <| mS rfl <| Wp rfl <| st_call (ags := [_]) rfl rfl T.ent43 rfl (Number_spec _ _ ha) ?_
   rintro _ w5 ⟨rfl, c6⟩
   replace HC := HC.then c6
   refine mv (v := .tuple ⟨[_, _]⟩) rfl <| Wp rfl <| st_extract (vs := [_, _]) (v := .int _ _) rfl rfl <| Wp rfl <| st_extract (vs := [_, _]) (v := .bool _) rfl rfl <| aI rfl <| aB rfl <| en <| sr rfl <| mS rfl <| Wp rfl <| st_call (ags := [_]) rfl rfl T.ent43 rfl (Number_spec _ _ hb) ?_
   rintro _ w7 ⟨rfl, c8⟩
   replace HC := HC.then c8
   refine mv (v := .tuple ⟨[_, _]⟩) rfl <| Wp rfl <| st_extract (vs := [_, _]) (v := .int _ _) rfl rfl <| Wp rfl <| st_extract (vs := [_, _]) (v := .bool _) rfl rfl <| aI rfl <| aB rfl <| en <| x_seq <| sr rfl <| mB rfl <| Wp rfl <| st_not rfl <| mB rfl <| w_split (d := 37) rfl (fun g9 => ?_) (fun g9 => ?_)
   ·try simp only [nm, ne_eq] at g9
    refine w_no 2 37 false <| w_no 2 37 false <| pT rfl rfl <| en <| x_cond (t := true) rfl (fun h2 => ?_) (fun h2 => ?_)
    rotate_left
    · exact absurd h2 (by decide)
    refine sr rfl <| aI rfl <| en <| x_ret <| then_r <| ret_tmp (v := .int _ _) rfl rfl <| ⟨?_, HC⟩
    unfold binV; rw [if_neg h0, if_neg h1, if_pos (by first | assumption | simp_all)]
   ·try simp only [nm, ne_eq] at g9
    refine w_yes 2 37 false <| st_move (v := .bool _) rfl <| w_yes 2 37 false <| st_not rfl <| pF rfl rfl <| en <| x_cond rfl (fun h2 => ?_) (fun h2 => ?_)
    ·try simp only [nm, ne_eq] at h2
     refine sr rfl <| aI rfl <| en <| x_ret <| then_r <| ret_tmp (v := .int _ _) rfl rfl <| ⟨?_, HC⟩
     unfold binV; rw [if_neg h0, if_neg h1, if_neg (by first | assumption | simp_all), if_pos (by first | assumption | simp_all)]
    ·try simp only [nm, ne_eq] at h2
     refine x_skip <| then_n <| sr rfl <| mI rfl <| mI rfl <| Wp rfl <| st_call (ags := [_, _]) rfl rfl T.ent44 rfl (Compare64_spec _ _ _) ?_
     rintro _ w10 ⟨rfl, c11⟩
     replace HC := HC.then c11
     refine aI rfl <| en <| sr rfl <| Wp rfl <| st_makeMap ?_
     intro b12 w13 e14 c15 hm16
     have ge_b12 : w.heap.size ≤ b12 := by rw [e14]; exact HC.size
     replace HC := HC.then c15
     clear e14
     refine mI rfl <| Wp rfl <| st_eql rfl rfl <| Wp rfl <| st_mapIns T.map65 rfl rfl rfl hm16 ?_
     intro w17 c18 hm19
     clear hm16
     replace HC := HC.then1 c18 ge_b12
     refine mI rfl <| Wp rfl <| st_neq rfl rfl <| Wp rfl <| st_mapIns T.map65 rfl rfl rfl hm19 ?_
     intro w20 c21 hm22
     clear hm19
     replace HC := HC.then1 c21 ge_b12
     refine mI rfl <| Wp rfl <| st_lss rfl rfl <| Wp rfl <| st_mapIns T.map65 rfl rfl rfl hm22 ?_
     intro w23 c24 hm25
     clear hm22
     replace HC := HC.then1 c24 ge_b12
     refine mI rfl <| Wp rfl <| st_leq rfl rfl <| Wp rfl <| st_mapIns T.map65 rfl rfl rfl hm25 ?_
     intro w26 c27 hm28
     clear hm25
     replace HC := HC.then1 c27 ge_b12
     refine mI rfl <| Wp rfl <| st_gtr rfl rfl <| Wp rfl <| st_mapIns T.map65 rfl rfl rfl hm28 ?_
     intro w29 c30 hm31
     clear hm28
     replace HC := HC.then1 c30 ge_b12
     refine mI rfl <| Wp rfl <| st_geq rfl rfl <| Wp rfl <| st_mapIns T.map65 rfl rfl rfl hm31 ?_
     intro w32 c33 hm34
     clear hm31
     replace HC := HC.then1 c33 ge_b12
     refine mv (v := .map _) rfl <| mS rfl <| Wp rfl <| st_look (z := .bool false) (v := .bool (bmapV (Lib.compareInt (numV a).1 (numV b).1) op)) T.map65 T.zvm65 rfl rfl hm34 (by simp only [mget_put, mget]; unfold bmapV; (repeat' split) <;> rfl) <| Wp rfl <| st_call (ags := [_]) rfl rfl T.ent26 rfl (truth_spec _ _) ?_
     rintro _ w35 ⟨rfl, c36⟩
     replace HC := HC.then c36
     replace hm34 := hm34.tr0 c36
     refine aI rfl <| en <| x_ret <| ret_tmp (v := .int _ _) rfl rfl <| ⟨?_, HC⟩
     unfold binV; rw [if_neg h0, if_neg h1, if_neg (by first | assumption | simp_all), if_neg (by first | assumption | simp_all)]

section aidx
variable {P : Program} {r : Option Nat} {n : Nat} {O : Array Oper} {Q : Post} {E : Env} {ds : List Deferred} {w : World} {l : List Oper}
variable {dst : Option Nat} {ty : TypeId} {pos : String} {af : Array Edge} {g : Option (Nat × Bool)}
theorem st_aidxI {t e : TypeId} {x y : Operand} {m : Nat} {vs : List Value} {k k2 : IntKind} {i : Int} {v : Value} (ht : P.underlying t = some (.array m e)) (hs : sizeB P e 1 = true) (he : P.underlying e = some (.int k2)) (hx : ev E x = .agg ⟨vs⟩) (hy : ev E y = .int k i)
    (h0 : 0 ≤ i) (h1 : i < (m : Int)) (hv : nthV vs i.toNat = some v) (h : wops P r n O Q l (updo E dst v) ds w) : wop P r n O Q ⟨dst, .index t x y, ty, pos, af, g⟩ l E ds w := by
  refine wop_run (fun _ => by simp) ?_ h
  have hs2 := run_sizeOf (w := w) hs
  have hv3 : vs[i.toNat]? = some v := by rw [nthV_eq] at hv; exact hv
  have hg : (isAgg e).run P w = .ok false w := by simp [isAgg, underlying, go_sem, he]
  simp [execOp, hx, hy, go_sem, Instr.index, asIntOf, underlying, ht, h0, h1, hs2, hg, part, hv3, Result.andThen]
end aidx

theorem turned_spec (n : Int) (hn : n = 0 ∨ n = 1 ∨ n = 2) (w : World) : CallR Tryz.prog 27 #[.int .i64 n] w fun v w' => v = .int .i64 (turnN n) ∧ Chg [] w w' := by
 refine callR_of_wp (args := [_]) Tryz.func27 rfl (Nat.le_of_ble_eq_true rfl) ?_
 have HC : Chg [] w w := .refl _
 refine sr rfl <| aI rfl <| en <| sr rfl <| Wp rfl <| st_bldA (ps := [(0, .const (.int .i64 1)), (1, .const (.int .i64 0)), (2, .const (.int .i64 2))]) (vs := [.int _ _, .int _ _, .int _ _]) T.u57 T.size3 T.zagg57 rfl <| mI rfl <| Wp rfl <| st_aidxI (v := .int .i64 (turnN n)) T.u57 T.size3 T.u3 rfl rfl (by omega) (by omega) (by rcases hn with rfl | rfl | rfl <;> rfl) <| aI rfl <| en <| x_ret <| ret_tmp (v := .int _ _) rfl rfl ?_
 exact ⟨rfl, HC⟩

theorem tru_in (b : Bool) : truN b = 0 ∨ truN b = 1 ∨ truN b = 2 := by cases b <;> simp [truN]
theorem t3_ite {c : Prop} [Decidable c] {a b : Int} (ha : a = 0 ∨ a = 1 ∨ a = 2) (hb : b = 0 ∨ b = 1 ∨ b = 2) : (if c then a else b) = 0 ∨ (if c then a else b) = 1 ∨ (if c then a else b) = 2 := by split <;> assumption
theorem un_in (Z : Tre) (cwd : Int) (op s : Bytes) : unV Z cwd op s = 0 ∨ unV Z cwd op s = 1 ∨ unV Z cwd op s = 2 := by
  unfold unV
  exact t3_ite (tru_in _) (t3_ite (tru_in _) (t3_ite (tru_in _) (t3_ite (tru_in _) (t3_ite (tru_in _) (t3_ite (tru_in _) (t3_ite (tru_in _) (t3_ite (tru_in _) (t3_ite (tru_in _) (t3_ite (tru_in _) (t3_ite (tru_in _) (.inr (.inr rfl))))))))))))
theorem bin_in (a op b : Bytes) : binV a op b = 0 ∨ binV a op b = 1 ∨ binV a op b = 2 := by
  unfold binV; (repeat' split) <;> first | exact tru_in _ | simp
theorem turn_in {n : Int} (h : n = 0 ∨ n = 1 ∨ n = 2) : turnN n = 0 ∨ turnN n = 1 ∨ turnN n = 2 := by rcases h with rfl | rfl | rfl <;> simp [turnN]
def oneV (a : Bytes) : Int := truN (!decide (a = []))
def twoV (Z : Tre) (cwd : Int) (a b : Bytes) : Int := if a = [33] then turnN (oneV b) else unV Z cwd a b
def threeV (Z : Tre) (cwd : Int) (a b c : Bytes) : Int := if b ∈ binL then binV a b c else if a = [33] then turnN (twoV Z cwd b c) else if a = [40] ∧ c = [41] then oneV b else 2
def fourV (Z : Tre) (cwd : Int) (a b c d : Bytes) : Int := if a = [33] then turnN (threeV Z cwd b c d) else if a = [40] ∧ d = [41] then twoV Z cwd b c else 2
def testV (Z : Tre) (cwd : Int) : List Bytes → Int
  | [] => 1
  | [a] => oneV a
  | [a, b] => twoV Z cwd a b
  | [a, b, c] => threeV Z cwd a b c
  | [a, b, c, d] => fourV Z cwd a b c d
  | _ => 2
theorem two_in (Z : Tre) (cwd : Int) (a b : Bytes) : twoV Z cwd a b = 0 ∨ twoV Z cwd a b = 1 ∨ twoV Z cwd a b = 2 := by
  unfold twoV; split
  · exact turn_in (tru_in _)
  · exact un_in _ _ _ _
theorem three_in (Z : Tre) (cwd : Int) (a b c : Bytes) : threeV Z cwd a b c = 0 ∨ threeV Z cwd a b c = 1 ∨ threeV Z cwd a b c = 2 := by
  unfold threeV; split
  · exact bin_in _ _ _
  · split
    · exact turn_in (two_in _ _ _ _)
    · split
      · exact tru_in _
      · simp

end Go.Proofs.YtpelmhoocepenaaGreatDoor.K
