import Derived.Test.YtghjmiggobpmoaaGreatDoorTok
import Derived.Test.YtghjmiggobpmoaaGreatDoorScan
import Derived.Test.YtghjmiggobpmoaaGreatDoorTokV
set_option linter.unusedVariables false
set_option linter.unusedSimpArgs false
set_option autoImplicit false
set_option maxRecDepth 20000
namespace Go.Proofs.YtghjmiggobpmoaaGreatDoor.K
open Go Go.Proofs Go.RowKit

theorem Skip_at_ok {n : Nat} (s : Bytes) (j : Nat) (w : World) (hs : s.length < 4294967281) (hj : j < s.length) (h : skipA 64 s j = .ok n) : CallR Tryz.prog 51 #[S s, .int .i64 (j : Int)] w fun v w' => v = .tuple ⟨[.int .i64 (n : Int), .int .i64 0]⟩ ∧ Chg [] w w' :=
  CallR.imp (Skip_spec s j w hs) fun v w' ⟨h1, h2⟩ => ⟨by rw [h1, skipV_ok hj h], h2⟩
theorem Skip_at_err {e : Nat} (s : Bytes) (j : Nat) (w : World) (hs : s.length < 4294967281) (hj : j < s.length) (h : skipA 64 s j = .error e) : CallR Tryz.prog 51 #[S s, .int .i64 (j : Int)] w fun v w' => v = .tuple ⟨[.int .i64 (j : Int), .int .i64 (e : Int)]⟩ ∧ Chg [] w w' :=
  CallR.imp (Skip_spec s j w hs) fun v w' ⟨h1, h2⟩ => ⟨by rw [h1, skipV_err hj h], h2⟩
theorem skipA_cases (s : Bytes) (j : Nat) (hj : j < s.length) : (∃ n, skipA 64 s j = .ok n ∧ j < n ∧ n ≤ s.length) ∨ ∃ e, skipA 64 s j = .error e ∧ e ≠ 0 := by
  cases h : skipA 64 s j with
  | ok n => exact .inl ⟨n, rfl, skipA_le hj h⟩
  | error e => exact .inr ⟨e, rfl, skipL_err _ _ _ (except_map_err h)⟩
theorem wordL_meta {k : Nat} {s : Bytes} {j : Nat} (hj : j < s.length) (h : metaB (byte s j) = true) : wordL (k + 1) (s.drop j) = (0, 0) := by
  rw [dropB hj, wordL, if_pos h]
theorem wordL_end {k : Nat} {s : Bytes} {j : Nat} (hj : s.length ≤ j) : wordL k (s.drop j) = (0, 0) := by
  rw [List.drop_eq_nil_of_le hj]; cases k <;> rfl
theorem wordL_ok {k : Nat} {s : Bytes} {j n : Nat} (hj : j < s.length) (h : metaB (byte s j) = false) (hn : skipA 64 s j = .ok n) : wordL (k + 1) (s.drop j) = ((wordL k (s.drop n)).1 + (n - j), (wordL k (s.drop n)).2) := by
  obtain ⟨i, h1, rfl⟩ := map_ok hn
  rw [dropB hj] at h1
  rw [dropB hj, wordL, if_neg (by rw [h]; simp), h1]
  simp only []
  rw [← dropB hj, List.drop_drop, Nat.add_comm j i, Nat.add_sub_cancel]
theorem wordL_er {k : Nat} {s : Bytes} {j e : Nat} (hj : j < s.length) (h : metaB (byte s j) = false) (he : skipA 64 s j = .error e) : wordL (k + 1) (s.drop j) = (0, e) := by
  have h1 := except_map_err he
  rw [dropB hj] at h1
  rw [dropB hj, wordL, if_neg (by rw [h]; simp), h1]
theorem op_at {r : Bytes} (h : metaB (byte r 0) = true) (h10 : byte r 0 ≠ 10) (h32 : byte r 0 ≠ 32) (h9 : byte r 0 ≠ 9) (hr : r ≠ []) :
    ∃ j : Nat, findN (preO r) 0 opsT = (j : Int) ∧ j < opsT.length ∧ opsT[j]? = some (opT r) ∧ (opT r).length ≤ r.length := by
  obtain ⟨j, h1, h2, h3, h4, h5, h6⟩ := op_hit h h10 h32 h9 hr
  exact ⟨j, h1, h2, by rw [h3, List.getD_eq_getElem?_getD, List.getElem?_eq_getElem h2]; rfl, h6⟩
theorem nextT_nil {r : Bytes} (i : Int) (h : r = []) : nextT r i = (⟨0, [], i, [], false⟩, 0, 0) := by unfold nextT; rw [if_pos h]
theorem nextT_line {r : Bytes} (i : Int) (hr : r ≠ []) (h : byte r 0 = 10) : nextT r i = (⟨3, [10], i, [], false⟩, 1, 0) := by unfold nextT; rw [if_neg hr, if_pos h]
theorem nextT_op {r : Bytes} (i : Int) (hr : r ≠ []) (h : byte r 0 ≠ 10) (hm : metaB (byte r 0) = true) : nextT r i = (⟨2, opT r, i, [], false⟩, (opT r).length, 0) := by unfold nextT; rw [if_neg hr, if_neg h, if_pos hm]
theorem nextT_bad {r : Bytes} (i : Int) {n e : Nat} (hr : r ≠ []) (h : byte r 0 ≠ 10) (hm : metaB (byte r 0) = false) (hw : wordV r = (n, e)) (he : e ≠ 0) : nextT r i = ((⟨0, [], i + n, [], false⟩ : Tok), 0, (e : Int)) := by unfold nextT; rw [if_neg hr, if_neg h, if_neg (by rw [hm]; simp), hw, if_pos (by simpa using he)]
theorem nextT_word {r : Bytes} (i : Int) {n : Nat} {kd : Int} (hr : r ≠ []) (h : byte r 0 ≠ 10) (hm : metaB (byte r 0) = false) (hw : wordV r = (n, 0)) (hk : (if n = 1 ∧ digB (byte r 0) = true ∧ (byte r 1 = 60 ∨ byte r 1 = 62) ∧ 1 < r.length then (4 : Int) else 1) = kd) : nextT r i = (⟨kd, r.take n, i, [], false⟩, n, 0) := by
  unfold nextT; rw [if_neg hr, if_neg h, if_neg (by rw [hm]; simp), hw, if_neg (by simp)]
  simp only [hk]

theorem tnext_spec (s : Bytes) (i : Nat) (w : World) (hs : s.length < 4294967281) (hi : i ≤ s.length) (hb : s.drop i ≠ [] → byte (s.drop i) 0 ≠ 32 ∧ byte (s.drop i) 0 ≠ 9) (ht : Tab w) : CallR Tryz.prog 35 #[S s, .int .i64 (i : Int)] w fun v w' => ∃ z : Int, v = .tuple ⟨[.agg ⟨[.int .i64 (nextT (s.drop i) i).1.kind, S (nextT (s.drop i) i).1.text, .int .i64 (nextT (s.drop i) i).1.at_, S (nextT (s.drop i) i).1.here, .bool (nextT (s.drop i) i).1.raw]⟩, .int .i64 z, .int .i64 (nextT (s.drop i) i).2.2]⟩ ∧ ((nextT (s.drop i) i).2.2 = 0 → z = ((i + (nextT (s.drop i) i).2.1 : Nat) : Int)) ∧ Chg [] w w' := by
 refine callR_of_wp (args := [_, _]) Tryz.func35 rfl (Nat.le_of_ble_eq_true rfl) ?_
 have HC : Chg [] w w := .refl _
 have ht1 := ht.lt
 refine sr rfl <| Wp rfl <| st_alloc T.zero51 ?_
 intro bq4 w1 e2 c3 hb4
 have ge_bq4 := gB e2 HC.size
 replace HC := HC.then c3
 replace ht := ht.tr0 c3
 clear e2
 refine aI rfl <| aI rfl <| en <| sr rfl <| mI rfl <| Wp rfl <| st_bld (ps := [(2, .tmp 13)]) (vs := [.int _ _, S _, .int _ _, S _, .bool _]) T.bld51 rfl <| Wp rfl <| st_alloc T.zero51 ?_
 intro bq7 w5 e6 c7 hb8
 have ge_bq7 := gB e6 HC.size
 have ne_bq4_bq7 := nF e6 hb4.ne_size
 replace HC := HC.then c7
 replace ht := ht.tr0 c7
 replace hb4 := hb4.tr0 c7
 clear e6
 refine Wp rfl <| st_st (v := .agg ⟨[_, _, _, _, _]⟩) T.size51 rfl rfl rfl hb8 ?_
 intro w9 c10 hb11; simp only [setVs, setV] at hb11
 clear hb8
 replace HC := HC.then1 c10 ge_bq7
 replace ht := ht.tr c10 q1
 replace hb4 := hb4.tr1 c10 ne_bq4_bq7
 refine en <| sr rfl <| mS rfl <| mI rfl <| Wp rfl <| st_sslo (i := i) T.u9 rfl ⟨_, rfl⟩ (by omega) <| Wp rfl <| st_alloc T.zero9 ?_
 intro bq8 w12 e13 c14 hb15
 have ge_bq8 := gB e13 HC.size
 have ne_bq4_bq8 := nF e13 hb4.ne_size
 have ne_bq7_bq8 := nF e13 hb11.ne_size
 replace HC := HC.then c14
 replace ht := ht.tr0 c14
 replace hb4 := hb4.tr0 c14
 replace hb11 := hb11.tr0 c14
 clear e13
 refine Wp rfl <| st_st (v := S _) T.size9 rfl rfl rfl hb15 ?_
 intro w16 c17 hb18; simp only [setVs, setV] at hb18
 clear hb15
 replace HC := HC.then1 c17 ge_bq8
 replace ht := ht.tr c17 q1
 replace hb4 := hb4.tr1 c17 ne_bq4_bq8
 replace hb11 := hb11.tr1 c17 ne_bq7_bq8
 refine en <| x_seq <| x_block <| sr rfl <| lS T.one9 rfl (hb18.cell rfl) <| Wp rfl <| st_seql rfl rfl <| aB rfl <| en <| x_cond rfl (fun h0 => ?_) (fun h0 => ?_)
 ·try simp only [nm, ne_eq] at h0
  refine sr rfl <| Wp rfl <| st_loadA (vs := [_, _, _, _, _]) T.agg51 rfl (hb11.cells (n := 5) (vs := [_, _, _, _, _]) rfl) rfl <| mI rfl <| Wp rfl <| st_st (v := .agg ⟨[_, _, _, _, _]⟩) T.size51 rfl rfl rfl hb4 ?_
  intro w19 c20 hb21; simp only [setVs, setV] at hb21
  clear hb4
  replace HC := HC.then1 c20 ge_bq4
  refine aI rfl <| aI rfl <| en <| x_ret <| block_r <| then_r <| ret_many (vs := [.agg ⟨[_, _, _, _, _]⟩, .int _ _, .int _ _]) rfl ⟨⟨_, _, rfl, run_loadVarA T.agg51 (hb21.cells (n := 5) rfl) rfl⟩, ⟨rfl, ⟨rfl, trivial⟩⟩⟩ (Nat.le_of_ble_eq_true rfl) ?_
  have hq9 := nextT_nil (i : Int) h0
  rw [hq9]
  exact ⟨_, rfl, (fun _ => rfl), HC⟩
 ·try simp only [nm, ne_eq] at h0
  have hil : i < s.length := by rcases Nat.lt_or_ge i s.length with h | h; exact h; exact absurd (List.drop_eq_nil_of_le h) h0
  have hbb := hb h0
  refine sr rfl <| lS T.one9 rfl (hb18.cell rfl) <| Wp rfl <| st_sidx T.u9 rfl rfl (by decide) (by (simp only [List.length_drop]; omega)) <| Wp rfl <| st_eql rfl rfl <| aB rfl <| en <| x_cond rfl (fun h1 => ?_) (fun h1 => ?_)
  ·try simp only [nm, ne_eq] at h1
   refine sr rfl <| fa T.fld51_0 rfl <| Wp rfl <| st_st (v := .int _ _) T.size3 rfl rfl rfl hb11 ?_
   intro w22 c23 hb24; simp only [setVs, setV] at hb24
   clear hb11
   replace HC := HC.then1 c23 ge_bq7
   replace hb4 := hb4.tr1 c23 ne_bq4_bq7
   refine fa T.fld51_1 rfl <| Wp rfl <| st_st (v := S _) T.size9 rfl rfl rfl hb24 ?_
   intro w25 c26 hb27; simp only [setVs, setV] at hb27
   clear hb24
   replace HC := HC.then1 c26 ge_bq7
   replace hb4 := hb4.tr1 c26 ne_bq4_bq7
   refine en <| sr rfl <| Wp rfl <| st_loadA (vs := [_, _, _, _, _]) T.agg51 rfl (hb27.cells (n := 5) (vs := [_, _, _, _, _]) rfl) rfl <| mI rfl <| Wp rfl <| st_addn rfl rfl (by constructor <;> omega) <| Wp rfl <| st_st (v := .agg ⟨[_, _, _, _, _]⟩) T.size51 rfl rfl rfl hb4 ?_
   intro w28 c29 hb30; simp only [setVs, setV] at hb30
   clear hb4
   replace HC := HC.then1 c29 ge_bq4
   refine aI rfl <| aI rfl <| en <| x_ret <| block_r <| then_r <| ret_many (vs := [.agg ⟨[_, _, _, _, _]⟩, .int _ _, .int _ _]) rfl ⟨⟨_, _, rfl, run_loadVarA T.agg51 (hb30.cells (n := 5) rfl) rfl⟩, ⟨rfl, ⟨rfl, trivial⟩⟩⟩ (Nat.le_of_ble_eq_true rfl) ?_
   have hq9 := nextT_line (i : Int) h0 (u8_eq h1 rfl)
   rw [hq9]
   exact ⟨_, rfl, (fun _ => rfl), HC⟩
  ·try simp only [nm, ne_eq] at h1
   have hn10 : byte (s.drop i) 0 ≠ 10 := fun e => h1 (by rw [e]; rfl)
   refine sr rfl <| lS T.one9 rfl (hb18.cell rfl) <| Wp rfl <| st_sidx T.u9 rfl rfl (by decide) (by (simp only [List.length_drop]; omega)) <| Wp rfl <| st_call (ags := [_]) rfl rfl T.ent47 rfl (meta_spec (byte (s.drop i) 0) _) ?_
   rintro _ w31 ⟨rfl, c32⟩
   replace HC := HC.then c32
   replace ht := ht.tr0 c32
   replace hb4 := hb4.tr0 c32
   replace hb11 := hb11.tr0 c32
   replace hb18 := hb18.tr0 c32
   refine aB rfl <| en <| x_cond rfl (fun h2 => ?_) (fun h2 => ?_)
   ·try simp only [nm, ne_eq] at h2
    obtain ⟨j, hje, hjl, hjx, hol⟩ := op_at h2 hn10 hbb.1 hbb.2 h0
    simp only [List.length_drop] at hol
    refine sr rfl <| Wp rfl <| st_call (ags := []) rfl rfl T.ent48 rfl (operators_spec _ ht) ?_
    rintro _ w33 ⟨bf, rfl, hgf, hsf, c34⟩
    have ge_bf : w.heap.size ≤ bf := Nat.le_trans HC.size hgf
    have ne_bq4_bf : bq4 ≠ bf := Nat.ne_of_lt (Nat.lt_of_lt_of_le hb4.lt hgf)
    have ne_bq7_bf : bq7 ≠ bf := Nat.ne_of_lt (Nat.lt_of_lt_of_le hb11.lt hgf)
    have ne_bq8_bf : bq8 ≠ bf := Nat.ne_of_lt (Nat.lt_of_lt_of_le hb18.lt hgf)
    replace HC := HC.then c34
    replace hb4 := hb4.tr0 c34
    replace hb11 := hb11.tr0 c34
    replace hb18 := hb18.tr0 c34
    refine aL rfl <| en <| x_seq ?_
    obtain ⟨lb39, _, vs38, hA35, hR37, hC36⟩ := hsf.at (i := j) (x := (opT (s.drop i))) (hjx)
    obtain rfl : vs38 = [S (opT (s.drop i))] := hR37
    refine x_draw [(0, 0), (1, 0), (2, 0), (6, 0), (3, 1), (4, 0), (5, 0), (7, 1), (8, 0), (9, 2)] T.mixed rfl rfl rfl (fun W => W.heap[bq4]? = w33.heap[bq4]? ∧ W.heap[bq8]? = w33.heap[bq8]? ∧ W.heap[lb39]? = w33.heap[lb39]? ∧ True) ⟨rfl, rfl, rfl, trivial⟩ ?_
    have o42 := hb4
    have o43 := hb18
    have c41 := Chg.drew w33
    generalize World.drew w33 = w40 at c41 ⊢
    have ht_lb39 : lb39 < w40.heap.size ∧ w40.heap[lb39]? = w33.heap[lb39]? := ⟨Nat.lt_of_lt_of_le hC36.lt c41.size, c41.block lb39 hC36.lt (by simp)⟩
    replace HC := HC.then c41
    replace hb4 := hb4.tr0 c41
    replace hb11 := hb11.tr0 c41
    replace hb18 := hb18.tr0 c41
    replace hsf := hsf.tr0 c41
    refine sq_q rfl (fun W hT => r_move (v := .slice _ _ _) rfl) <| sq_q rfl (fun W hT => r_move (v := .slice _ _ _) rfl) <| sq_q rfl (fun W hT => r_makeFunc) <| sq_q rfl (fun W hT => r_fieldAddr T.fld51_0 rfl) <| sq_call1 rfl (r_call (ags := [_, _]) rfl rfl T.ent49 rfl) (IndexFunc_spec (q := preO (s.drop i)) hsf (by decide) T.ent50 (fun c W hc => tnext1_spec c (hb18.tr0 hc))) ?_
    rintro _ w44 ⟨rfl, c45⟩
    replace HC := HC.then c45
    replace hb4 := hb4.tr0 c45
    replace hb11 := hb11.tr0 c45
    replace hb18 := hb18.tr0 c45
    replace ht_lb39 := And.intro (Nat.lt_of_lt_of_le ht_lb39.1 c45.size) ((c45.block lb39 ht_lb39.1 (by simp)).trans ht_lb39.2)
    refine ⟨_, fun _ h => h, ⟨(Eq.trans hb4 o42.symm), (Eq.trans hb18 o43.symm), (by first | assumption | exact ht_lb39.2), trivial⟩, ?_⟩
    rw [hje]
    refine sq_q rfl (fun W hT => r_indexAddr T.u23 T.size9 (congrArg (fun z => Value.slice z _ _) hA35) rfl (by omega) (by omega)) <| sq_q rfl (fun W hT => r_load1 (v := S _) T.one9 rfl (Cells.at (j := 0) (Cells.tr hC36 hT.2.2.1) rfl)) <| sq_store1 rfl T.size3 (v := .int _ _) rfl rfl rfl hb11 rfl (Nat.le_of_ble_eq_true rfl) q5 rfl ?_
    intro w46 c47 hb48; simp only [setVs, setV] at hb48
    clear hb11
    replace HC := HC.then1 c47 ge_bq7
    replace hb4 := hb4.tr1 c47 ne_bq4_bq7
    replace hb18 := hb18.tr1 c47 (Ne.symm ne_bq7_bq8)
    replace ht_lb39 := And.intro (Nat.lt_of_lt_of_le ht_lb39.1 c47.size) ((c47.block lb39 ht_lb39.1 (by intro hx; have hD := hA35; simp only [List.mem_cons, List.mem_nil_iff, or_false, Option.some.injEq, Addr.mk.injEq] at hx hD; omega)).trans ht_lb39.2)
    refine ⟨_, fun _ h => h, ⟨(Eq.trans hb4 o42.symm), (Eq.trans hb18 o43.symm), (by first | assumption | exact ht_lb39.2), trivial⟩, ?_⟩
    refine sq_q rfl (fun W hT => r_fieldAddr T.fld51_1 rfl) <| sq_store2 rfl T.size9 (v := S _) rfl rfl rfl hb48 rfl (Nat.le_of_ble_eq_true rfl) q5 rfl ?_
    intro w49 c50 hb51; simp only [setVs, setV] at hb51
    clear hb48
    replace HC := HC.then1 c50 ge_bq7
    replace hb4 := hb4.tr1 c50 ne_bq4_bq7
    replace hb18 := hb18.tr1 c50 (Ne.symm ne_bq7_bq8)
    replace ht_lb39 := And.intro (Nat.lt_of_lt_of_le ht_lb39.1 c50.size) ((c50.block lb39 ht_lb39.1 (by intro hx; have hD := hA35; simp only [List.mem_cons, List.mem_nil_iff, or_false, Option.some.injEq, Addr.mk.injEq] at hx hD; omega)).trans ht_lb39.2)
    clear o42
    clear o43
    refine sq_nil <| then_n <| x_seq <| x_draw [(0, 0), (1, 0), (2, 0), (3, 0), (4, 0), (5, 0), (6, 1), (7, 0), (8, 0)] T.mixed rfl rfl rfl (fun W => W.heap[bq8]? = w49.heap[bq8]? ∧ W.heap[bq7]? = w49.heap[bq7]? ∧ True) ⟨rfl, rfl, trivial⟩ ?_
    have o54 := hb18
    have o55 := hb51
    have c53 := Chg.drew w49
    generalize World.drew w49 = w52 at c53 ⊢
    replace HC := HC.then c53
    replace hb4 := hb4.tr0 c53
    replace hb18 := hb18.tr0 c53
    replace hb51 := hb51.tr0 c53
    refine sq_q rfl (fun W hT => r_loadA (vs := [_, _, _, _, _]) T.agg51 rfl (Blk.cells (n := 5) (vs := [_, _, _, _, _]) (show Blk W bq7 _ _ from hT.2.1.trans o55) rfl) rfl) <| sq_q rfl (fun W hT => r_move (v := .int _ _) rfl) <| sq_q rfl (fun W hT => r_fieldAddr T.fld51_1 rfl) <| sq_q rfl (fun W hT => r_load1 (v := S _) T.one9 rfl (Blk.cell (show Blk W bq7 _ _ from hT.2.1.trans o55) rfl)) <| sq_q rfl (fun W hT => r_slen (ct := #[9]) T.u9 rfl) <| sq_q rfl (fun W hT => r_addn rfl rfl (by constructor <;> omega)) <| sq_store1 rfl T.size51 (v := .agg ⟨[.int _ _, S _, .int _ _, S _, .bool _]⟩) rfl rfl rfl hb4 rfl (Nat.le_of_ble_eq_true rfl) q5 rfl ?_
    intro w56 c57 hb58; simp only [setVs, setV] at hb58
    clear hb4
    replace HC := HC.then1 c57 ge_bq4
    replace hb18 := hb18.tr1 c57 (Ne.symm ne_bq4_bq8)
    replace hb51 := hb51.tr1 c57 (Ne.symm ne_bq4_bq7)
    refine ⟨_, fun _ h => h, ⟨(Eq.trans hb18 o54.symm), (Eq.trans hb51 o55.symm), trivial⟩, ?_⟩
    refine sq_q rfl (fun W hT => r_assign (v := .int _ _) rfl) <| sq_q rfl (fun W hT => r_assign (v := .int _ _) rfl) ?_
    clear o54
    clear o55
    refine sq_nil <| then_n <| x_ret <| block_r <| then_r <| ret_many (vs := [.agg ⟨[_, _, _, _, _]⟩, .int _ _, .int _ _]) rfl ⟨⟨_, _, rfl, run_loadVarA T.agg51 (hb58.cells (n := 5) rfl) rfl⟩, ⟨rfl, ⟨rfl, trivial⟩⟩⟩ (Nat.le_of_ble_eq_true rfl) ?_
    have hq9 := nextT_op (i : Int) h0 hn10 h2
    rw [hq9]
    exact ⟨_, rfl, (fun _ => rfl), HC⟩
   ·try simp only [nm, ne_eq] at h2
    have hnm : metaB (byte (s.drop i) 0) = false := by first | assumption | simpa using h2
    refine x_skip <| block_n <| then_n <| sr rfl <| mI rfl <| aI rfl <| en <| x_seq <| x_block <| x_loop (ι := Nat × Nat) [5, 6, 10, 11, 12, 52, 53, 54, 55, 56, 57, 58, 59, 60, 61, 62, 63, 64, 65, 66, 67, 68, 69, 70, 71, 72, 73, 74] (fun ⟨j, k⟩ => [(10, .int .i64 (j : Int))]) (fun ⟨j, k⟩ W => (i ≤ j ∧ j ≤ s.length ∧ s.length - j ≤ k ∧ wordV (s.drop i) = ((wordL k (s.drop j)).1 + (j - i), (wordL k (s.drop j)).2)) ∧ (Chg [] w W) ∧ (Tab W) ∧ (Blk W bq8 [S (s.drop i)] 9) ∧ (Blk W bq7 [.int .i64 0, S [], .int .i64 (i : Int), S [], .bool false] 51) ∧ (Blk W bq4 [.int .i64 0, S [], .int .i64 0, S [], .bool false] 51)) (fun ⟨j, k⟩ => s.length - j) (i, (s.drop i).length) ?_ ?_ ?_
    · exact ⟨rfl, trivial⟩
    ·refine ⟨?_, HC, ht, hb18, hb11, hb4⟩
     exact ⟨Nat.le_refl _, hi, by rw [List.length_drop]; exact Nat.le_refl _, by rw [Nat.sub_self]; rfl⟩
    intro ⟨j, k⟩ G60 w59 ⟨⟨hij, hjs, hk, hr⟩, HC, ht, hb18, hb11, hb4⟩
    change wp _ _ _ _ _ (upds (over _ _ G60) [(10, .int .i64 (j : Int))]) _ _
    refine x_seq <| sr rfl <| mI rfl <| mS rfl <| Wp rfl <| st_slen (ct := #[9]) T.u9 rfl <| Wp rfl <| st_lss rfl rfl <| mB rfl <| w_split (d := 56) rfl (fun g61 => ?_) (fun g61 => ?_)
    ·try simp only [nm, ne_eq] at g61
     refine w_yes 4 56 true <| st_move (v := S _) rfl <| w_yes 4 56 true <| st_move (v := .int _ _) rfl <| w_yes 4 56 true <| st_sidx T.u9 rfl rfl (by omega) (by omega) <| w_yes 4 56 true <| st_call (ags := [_]) rfl rfl T.ent47 rfl (meta_spec (byte s j) _) ?_
     rintro _ w62 ⟨rfl, c63⟩
     replace HC := HC.then c63
     replace ht := ht.tr0 c63
     replace hb18 := hb18.tr0 c63
     replace hb11 := hb11.tr0 c63
     replace hb4 := hb4.tr0 c63
     refine w_yes 4 56 true <| st_not rfl <| pT rfl rfl <| en <| x_cond rfl (fun h3 => ?_) (fun h3 => ?_)
     ·try simp only [nm, ne_eq] at h3
      have hmj : metaB (byte s j) = false := by first | assumption | simp_all
      have hjl : j < s.length := by first | omega | simp_all
      obtain ⟨k, rfl⟩ : ∃ z, k = z + 1 := ⟨k - 1, by omega⟩
      refine x_skip <| then_n <| x_block <| x_seq ?_
      rcases skipA_cases s j hjl with ⟨n, hn, hn1, hn2⟩ | ⟨e, he, he0⟩
      ·refine x_region rfl <| mS rfl <| mI rfl <| Wp rfl <| st_call (ags := [_, _]) rfl rfl T.ent51 rfl (Skip_at_ok s j _ hs hjl hn) ?_
       rintro _ w64 ⟨rfl, c65⟩
       replace HC := HC.then c65
       replace ht := ht.tr0 c65
       replace hb18 := hb18.tr0 c65
       replace hb11 := hb11.tr0 c65
       replace hb4 := hb4.tr0 c65
       refine mv (v := .tuple ⟨[_, _]⟩) rfl <| Wp rfl <| st_extract (vs := [_, _]) (v := .int _ _) rfl rfl <| Wp rfl <| st_extract (vs := [_, _]) (v := .int _ _) rfl rfl <| aI rfl <| aI rfl <| en <| x_seq <| sr rfl <| mI rfl <| Wp rfl <| st_neq rfl rfl <| en <| x_cond rfl (fun h4 => ?_) (fun h4 => ?_)
       ·try simp only [nm, ne_eq] at h4
        first | exact absurd rfl h4 | exact absurd trivial h4 | (simp at h4; done)
       ·try simp only [nm, ne_eq] at h4
        refine x_skip <| then_n <| x_region rfl <| mI rfl <| aI rfl <| wops_nil <| block_n <| then_n <| ⟨(n, k), ?_, ?_, rfl, ⟨rfl, trivial⟩, ?_⟩
        ·refine ⟨?_, HC, ht, hb18, hb11, hb4⟩
         exact ⟨by omega, hn2, by omega, by rw [hr, wordL_ok (by omega) hmj hn]; congr 1; omega⟩
        ·show s.length - n < s.length - j; omega
        exact q9
      ·refine x_region rfl <| mS rfl <| mI rfl <| Wp rfl <| st_call (ags := [_, _]) rfl rfl T.ent51 rfl (Skip_at_err s j _ hs hjl he) ?_
       rintro _ w66 ⟨rfl, c67⟩
       replace HC := HC.then c67
       replace hb4 := hb4.tr0 c67
       refine mv (v := .tuple ⟨[_, _]⟩) rfl <| Wp rfl <| st_extract (vs := [_, _]) (v := .int _ _) rfl rfl <| Wp rfl <| st_extract (vs := [_, _]) (v := .int _ _) rfl rfl <| aI rfl <| aI rfl <| en <| x_seq <| sr rfl <| mI rfl <| Wp rfl <| st_neq rfl rfl <| en <| x_cond rfl (fun h4 => ?_) (fun h4 => ?_)
       ·try simp only [nm, ne_eq] at h4
        have hwv : wordV (s.drop i) = (j - i, e) := by rw [hr, wordL_er (by omega) hmj he]; simp
        refine sr rfl <| mI rfl <| Wp rfl <| st_bld (ps := [(2, .tmp 71)]) (vs := [.int _ _, S _, .int _ _, S _, .bool _]) T.bld51 rfl <| mI rfl <| Wp rfl <| st_st (v := .agg ⟨[_, _, _, _, _]⟩) T.size51 rfl rfl rfl hb4 ?_
        intro w68 c69 hb70; simp only [setVs, setV] at hb70
        clear hb4
        replace HC := HC.then1 c69 ge_bq4
        refine aI rfl <| aI rfl <| en <| x_ret <| then_r <| block_r <| then_r <| block_r <| then_r <| ret_many (vs := [.agg ⟨[_, _, _, _, _]⟩, .int _ _, .int _ _]) rfl ⟨⟨_, _, rfl, run_loadVarA T.agg51 (hb70.cells (n := 5) rfl) rfl⟩, ⟨rfl, ⟨rfl, trivial⟩⟩⟩ (Nat.le_of_ble_eq_true rfl) ?_
        have hq9 := nextT_bad (i : Int) h0 hn10 hnm hwv he0
        rw [← show (i : Int) + ((j - i : Nat) : Int) = (j : Int) by omega]
        rw [hq9]
        exact ⟨_, rfl, (fun h => absurd h (by simpa using he0)), HC⟩
       ·try simp only [nm, ne_eq] at h4
        exfalso; first | omega | simp_all
     ·try simp only [nm, ne_eq] at h3
      have hwv : wordV (s.drop i) = (j - i, 0) := by first | (rw [hr, wordL_end (by omega)]; simp; done) | (obtain ⟨k, rfl⟩ : ∃ z, k = z + 1 := ⟨k - 1, by omega⟩; rw [hr, wordL_meta (by omega) (by first | assumption | simp_all)]; simp)
      refine x_exit <| then_x <| then_x <| block_x <| then_n <| x_seq <| x_draw [(0, 0), (1, 0), (2, 0), (3, 0), (4, 0), (5, 1), (6, 0), (7, 2)] T.mixed rfl rfl rfl (fun W => W.heap[bq8]? = w62.heap[bq8]? ∧ W.heap[bq4]? = w62.heap[bq4]? ∧ True) ⟨rfl, rfl, trivial⟩ ?_
      have o73 := hb18
      have o74 := hb4
      have c72 := Chg.drew w62
      generalize World.drew w62 = w71 at c72 ⊢
      replace HC := HC.then c72
      replace hb18 := hb18.tr0 c72
      replace hb11 := hb11.tr0 c72
      replace hb4 := hb4.tr0 c72
      refine sq_q rfl (fun W hT => r_move (v := S _) rfl) <| sq_q rfl (fun W hT => r_move (v := .int _ _) rfl) <| sq_q rfl (fun W hT => r_move (v := .int _ _) rfl) <| sq_q rfl (fun W hT => r_sslice (i := i) (j := j) T.u9 rfl ⟨_, rfl⟩ ⟨_, rfl⟩ (by omega) (by omega)) <| sq_q rfl (fun W hT => r_fieldAddr T.fld51_0 rfl) <| sq_store1 rfl T.size3 (v := .int _ _) rfl rfl rfl hb11 rfl (Nat.le_of_ble_eq_true rfl) q5 rfl ?_
      intro w75 c76 hb77; simp only [setVs, setV] at hb77
      clear hb11
      replace HC := HC.then1 c76 ge_bq7
      replace hb18 := hb18.tr1 c76 (Ne.symm ne_bq7_bq8)
      replace hb4 := hb4.tr1 c76 ne_bq4_bq7
      refine ⟨_, fun _ h => h, ⟨(Eq.trans hb18 o73.symm), (Eq.trans hb4 o74.symm), trivial⟩, ?_⟩
      refine sq_q rfl (fun W hT => r_fieldAddr T.fld51_1 rfl) <| sq_store2 rfl T.size9 (v := S _) rfl rfl rfl hb77 rfl (Nat.le_of_ble_eq_true rfl) q5 rfl ?_
      intro w78 c79 hb80; simp only [setVs, setV] at hb80
      clear hb77
      replace HC := HC.then1 c79 ge_bq7
      replace hb4 := hb4.tr1 c79 ne_bq4_bq7
      clear o73
      clear o74
      refine sq_nil <| then_n <| x_seq <| x_seq ?_
      have hwp := wordV_pos h0 hnm (by rw [hwv])
      rw [hwv] at hwp
      replace hwp : 1 ≤ j - i := hwp
      have htl : ((s.take j).drop i).length = j - i := by simp only [List.length_drop, List.length_take]; omega
      have hb0 : byte ((s.take j).drop i) 0 = byte (s.drop i) 0 := by rw [byte_dropk, byte_dropk]; simp only [byte, List.getD_eq_getElem?_getD, List.getElem?_take]; rw [if_pos (by omega)]
      have hb1 : byte (s.drop i) 1 = byte s (i + 1) := byte_dropk s i 1
      have hdl : (s.drop i).length = s.length - i := List.length_drop
      skip
      refine x_region rfl <| fa T.fld51_1 rfl <| lS T.one9 rfl (hb80.cell rfl) <| Wp rfl <| st_slen (ct := #[9]) T.u9 rfl <| Wp rfl <| st_eql rfl rfl <| mB rfl <| w_split (d := 85) rfl (fun g81 => ?_) (fun g81 => ?_)
      ·try simp only [nm, ne_eq] at g81
       refine w_yes 4 85 true <| st_fieldAddr T.fld51_1 rfl <| w_yes 4 85 true <| st_load1 (v := S _) T.one9 rfl (hb80.cell rfl) <| w_yes 4 85 true <| st_sidx T.u9 rfl rfl (by decide) (by omega) <| w_yes 4 85 true <| st_call (ags := [_]) rfl rfl T.ent52 rfl (c_digit (byte ((s.take j).drop i) 0) _) ?_
       rintro _ w82 ⟨rfl, c83⟩
       replace HC := HC.then c83
       replace hb4 := hb4.tr0 c83
       replace hb80 := hb80.tr0 c83
       refine pT rfl rfl <| mB rfl <| w_split (d := 91) rfl (fun g84 => ?_) (fun g84 => ?_)
       ·try simp only [nm, ne_eq] at g84
        refine w_yes 10 91 true <| st_move (v := .int _ _) rfl <| w_yes 10 91 true <| st_move (v := S _) rfl <| w_yes 10 91 true <| st_slen (ct := #[9]) T.u9 rfl <| w_yes 10 91 true <| st_lss rfl rfl <| pT rfl rfl <| mB rfl <| w_split (d := 97) rfl (fun g85 => ?_) (fun g85 => ?_)
        ·try simp only [nm, ne_eq] at g85
         refine w_yes 16 97 true <| st_move (v := S _) rfl <| w_yes 16 97 true <| st_move (v := .int _ _) rfl <| w_yes 16 97 true <| st_sidx T.u9 rfl rfl (by omega) (by omega) <| w_yes 16 97 true <| st_eql rfl rfl <| w_yes 16 97 true <| st_move (v := .bool _) rfl <| w_split (d := 102) rfl (fun g86 => ?_) (fun g86 => ?_)
         ·try simp only [nm, ne_eq] at g86
          iterate 4 refine w_no 21 102 false ?_
          refine w_yes 16 97 true <| st_pick (b := true) (v := .bool _) rfl rfl <| pT rfl rfl <| en <| x_cond (t := true) rfl (fun h5 => ?_) (fun h5 => ?_)
          rotate_left
          · exact absurd h5 (by decide)
          have hji : j = i + 1 := by first | omega | simp_all
          have hio : (if j - i = 1 ∧ digB (byte (s.drop i) 0) = true ∧ (byte (s.drop i) 1 = 60 ∨ byte (s.drop i) 1 = 62) ∧ 1 < (s.drop i).length then (4 : Int) else 1) = 4 := if_pos ⟨by omega, by rw [← hb0]; first | assumption | simp_all, by rw [hb1, ← hji]; first | (left; exact u8_eq (by assumption) rfl) | (right; exact u8_eq (by assumption) rfl), by rw [hdl]; first | omega | simp_all⟩
          refine x_region rfl <| fa T.fld51_0 rfl <| Wp rfl <| st_st (v := .int _ _) T.size3 rfl rfl rfl hb80 ?_
          intro w87 c88 hb89; simp only [setVs, setV] at hb89
          clear hb80
          replace HC := HC.then1 c88 ge_bq7
          replace hb4 := hb4.tr1 c88 ne_bq4_bq7
          refine en <| sr rfl <| Wp rfl <| st_loadA (vs := [_, _, _, _, _]) T.agg51 rfl (hb89.cells (n := 5) (vs := [_, _, _, _, _]) rfl) rfl <| mI rfl <| Wp rfl <| st_st (v := .agg ⟨[_, _, _, _, _]⟩) T.size51 rfl rfl rfl hb4 ?_
          intro w90 c91 hb92; simp only [setVs, setV] at hb92
          clear hb4
          replace HC := HC.then1 c91 ge_bq4
          refine aI rfl <| aI rfl <| en <| x_ret <| ret_many (vs := [.agg ⟨[_, _, _, _, _]⟩, .int _ _, .int _ _]) rfl ⟨⟨_, _, rfl, run_loadVarA T.agg51 (hb92.cells (n := 5) rfl) rfl⟩, ⟨rfl, ⟨rfl, trivial⟩⟩⟩ (Nat.le_of_ble_eq_true rfl) ?_
          have hq9 := nextT_word (i : Int) h0 hn10 hnm hwv hio
          rw [show ((s.take j).drop i) = (s.drop i).take (j - i) by rw [List.drop_take]]
          rw [hq9]
          exact ⟨_, rfl, (fun _ => by show (j : Int) = ((i + (j - i) : Nat) : Int); omega), HC⟩
         ·try simp only [nm, ne_eq] at g86
          refine w_yes 21 102 false <| st_move (v := S _) rfl <| w_yes 21 102 false <| st_move (v := .int _ _) rfl <| w_yes 21 102 false <| st_sidx T.u9 rfl rfl (by omega) (by omega) <| w_yes 21 102 false <| st_eql rfl rfl <| w_yes 16 97 true <| st_pick (b := false) (v := .bool _) rfl rfl <| pT rfl rfl <| en <| x_cond rfl (fun h5 => ?_) (fun h5 => ?_)
          ·try simp only [nm, ne_eq] at h5
           have hji : j = i + 1 := by first | omega | simp_all
           have hio : (if j - i = 1 ∧ digB (byte (s.drop i) 0) = true ∧ (byte (s.drop i) 1 = 60 ∨ byte (s.drop i) 1 = 62) ∧ 1 < (s.drop i).length then (4 : Int) else 1) = 4 := if_pos ⟨by omega, by rw [← hb0]; first | assumption | simp_all, by rw [hb1, ← hji]; first | (left; exact u8_eq (by assumption) rfl) | (right; exact u8_eq (by assumption) rfl), by rw [hdl]; first | omega | simp_all⟩
           refine x_region rfl <| fa T.fld51_0 rfl <| Wp rfl <| st_st (v := .int _ _) T.size3 rfl rfl rfl hb80 ?_
           intro w93 c94 hb95; simp only [setVs, setV] at hb95
           clear hb80
           replace HC := HC.then1 c94 ge_bq7
           replace hb4 := hb4.tr1 c94 ne_bq4_bq7
           refine en <| sr rfl <| Wp rfl <| st_loadA (vs := [_, _, _, _, _]) T.agg51 rfl (hb95.cells (n := 5) (vs := [_, _, _, _, _]) rfl) rfl <| mI rfl <| Wp rfl <| st_st (v := .agg ⟨[_, _, _, _, _]⟩) T.size51 rfl rfl rfl hb4 ?_
           intro w96 c97 hb98; simp only [setVs, setV] at hb98
           clear hb4
           replace HC := HC.then1 c97 ge_bq4
           refine aI rfl <| aI rfl <| en <| x_ret <| ret_many (vs := [.agg ⟨[_, _, _, _, _]⟩, .int _ _, .int _ _]) rfl ⟨⟨_, _, rfl, run_loadVarA T.agg51 (hb98.cells (n := 5) rfl) rfl⟩, ⟨rfl, ⟨rfl, trivial⟩⟩⟩ (Nat.le_of_ble_eq_true rfl) ?_
           have hq9 := nextT_word (i : Int) h0 hn10 hnm hwv hio
           rw [show ((s.take j).drop i) = (s.drop i).take (j - i) by rw [List.drop_take]]
           rw [hq9]
           exact ⟨_, rfl, (fun _ => by show (j : Int) = ((i + (j - i) : Nat) : Int); omega), HC⟩
          ·try simp only [nm, ne_eq] at h5
           have hio : (if j - i = 1 ∧ digB (byte (s.drop i) 0) = true ∧ (byte (s.drop i) 1 = 60 ∨ byte (s.drop i) 1 = 62) ∧ 1 < (s.drop i).length then (4 : Int) else 1) = 1 := if_neg (by rintro ⟨q1, q2, q3, q4⟩; rw [hdl] at q4; rw [← hb0] at q2; rw [hb1, show i + 1 = j by omega] at q3; first | omega | (rw [q2] at *; simp_all; done) | (rcases q3 with q3 | q3 <;> first | (have q5 : ((byte s j).toNat : Int) = 60 := (by rw [q3]; rfl); omega) | (have q5 : ((byte s j).toNat : Int) = 62 := (by rw [q3]; rfl); omega) | simp_all))
           refine x_skip <| then_n <| sr rfl <| Wp rfl <| st_loadA (vs := [_, _, _, _, _]) T.agg51 rfl (hb80.cells (n := 5) (vs := [_, _, _, _, _]) rfl) rfl <| mI rfl <| Wp rfl <| st_st (v := .agg ⟨[_, _, _, _, _]⟩) T.size51 rfl rfl rfl hb4 ?_
           intro w99 c100 hb101; simp only [setVs, setV] at hb101
           clear hb4
           replace HC := HC.then1 c100 ge_bq4
           refine aI rfl <| aI rfl <| en <| x_ret <| ret_many (vs := [.agg ⟨[_, _, _, _, _]⟩, .int _ _, .int _ _]) rfl ⟨⟨_, _, rfl, run_loadVarA T.agg51 (hb101.cells (n := 5) rfl) rfl⟩, ⟨rfl, ⟨rfl, trivial⟩⟩⟩ (Nat.le_of_ble_eq_true rfl) ?_
           have hq9 := nextT_word (i : Int) h0 hn10 hnm hwv hio
           rw [show ((s.take j).drop i) = (s.drop i).take (j - i) by rw [List.drop_take]]
           rw [hq9]
           exact ⟨_, rfl, (fun _ => by show (j : Int) = ((i + (j - i) : Nat) : Int); omega), HC⟩
        ·try simp only [nm, ne_eq] at g85
         iterate 5 refine w_no 16 97 true ?_
         iterate 4 refine w_no 21 102 false ?_
         refine w_no 16 97 true <| pF rfl rfl <| en <| x_cond (t := false) rfl (fun h5 => ?_) (fun h5 => ?_)
         · exact absurd h5 (by decide)
         have hio : (if j - i = 1 ∧ digB (byte (s.drop i) 0) = true ∧ (byte (s.drop i) 1 = 60 ∨ byte (s.drop i) 1 = 62) ∧ 1 < (s.drop i).length then (4 : Int) else 1) = 1 := if_neg (by rintro ⟨q1, q2, q3, q4⟩; rw [hdl] at q4; rw [← hb0] at q2; rw [hb1, show i + 1 = j by omega] at q3; first | omega | (rw [q2] at *; simp_all; done) | (rcases q3 with q3 | q3 <;> first | (have q5 : ((byte s j).toNat : Int) = 60 := (by rw [q3]; rfl); omega) | (have q5 : ((byte s j).toNat : Int) = 62 := (by rw [q3]; rfl); omega) | simp_all))
         refine x_skip <| then_n <| sr rfl <| Wp rfl <| st_loadA (vs := [_, _, _, _, _]) T.agg51 rfl (hb80.cells (n := 5) (vs := [_, _, _, _, _]) rfl) rfl <| mI rfl <| Wp rfl <| st_st (v := .agg ⟨[_, _, _, _, _]⟩) T.size51 rfl rfl rfl hb4 ?_
         intro w102 c103 hb104; simp only [setVs, setV] at hb104
         clear hb4
         replace HC := HC.then1 c103 ge_bq4
         refine aI rfl <| aI rfl <| en <| x_ret <| ret_many (vs := [.agg ⟨[_, _, _, _, _]⟩, .int _ _, .int _ _]) rfl ⟨⟨_, _, rfl, run_loadVarA T.agg51 (hb104.cells (n := 5) rfl) rfl⟩, ⟨rfl, ⟨rfl, trivial⟩⟩⟩ (Nat.le_of_ble_eq_true rfl) ?_
         have hq9 := nextT_word (i : Int) h0 hn10 hnm hwv hio
         rw [show ((s.take j).drop i) = (s.drop i).take (j - i) by rw [List.drop_take]]
         rw [hq9]
         exact ⟨_, rfl, (fun _ => by show (j : Int) = ((i + (j - i) : Nat) : Int); omega), HC⟩
       ·try simp only [nm, ne_eq] at g84
        iterate 4 refine w_no 10 91 true ?_
        refine pF rfl rfl <| mB rfl ?_
        iterate 5 refine w_no 16 97 true ?_
        iterate 4 refine w_no 21 102 false ?_
        refine w_no 16 97 true <| pF rfl rfl <| en <| x_cond (t := false) rfl (fun h5 => ?_) (fun h5 => ?_)
        · exact absurd h5 (by decide)
        have hio : (if j - i = 1 ∧ digB (byte (s.drop i) 0) = true ∧ (byte (s.drop i) 1 = 60 ∨ byte (s.drop i) 1 = 62) ∧ 1 < (s.drop i).length then (4 : Int) else 1) = 1 := if_neg (by rintro ⟨q1, q2, q3, q4⟩; rw [hdl] at q4; rw [← hb0] at q2; rw [hb1, show i + 1 = j by omega] at q3; first | omega | (rw [q2] at *; simp_all; done) | (rcases q3 with q3 | q3 <;> first | (have q5 : ((byte s j).toNat : Int) = 60 := (by rw [q3]; rfl); omega) | (have q5 : ((byte s j).toNat : Int) = 62 := (by rw [q3]; rfl); omega) | simp_all))
        refine x_skip <| then_n <| sr rfl <| Wp rfl <| st_loadA (vs := [_, _, _, _, _]) T.agg51 rfl (hb80.cells (n := 5) (vs := [_, _, _, _, _]) rfl) rfl <| mI rfl <| Wp rfl <| st_st (v := .agg ⟨[_, _, _, _, _]⟩) T.size51 rfl rfl rfl hb4 ?_
        intro w105 c106 hb107; simp only [setVs, setV] at hb107
        clear hb4
        replace HC := HC.then1 c106 ge_bq4
        refine aI rfl <| aI rfl <| en <| x_ret <| ret_many (vs := [.agg ⟨[_, _, _, _, _]⟩, .int _ _, .int _ _]) rfl ⟨⟨_, _, rfl, run_loadVarA T.agg51 (hb107.cells (n := 5) rfl) rfl⟩, ⟨rfl, ⟨rfl, trivial⟩⟩⟩ (Nat.le_of_ble_eq_true rfl) ?_
        have hq9 := nextT_word (i : Int) h0 hn10 hnm hwv hio
        rw [show ((s.take j).drop i) = (s.drop i).take (j - i) by rw [List.drop_take]]
        rw [hq9]
        exact ⟨_, rfl, (fun _ => by show (j : Int) = ((i + (j - i) : Nat) : Int); omega), HC⟩
      ·try simp only [nm, ne_eq] at g81
       iterate 4 refine w_no 4 85 true ?_
       refine pF rfl rfl <| mB rfl ?_
       iterate 4 refine w_no 10 91 true ?_
       refine pF rfl rfl <| mB rfl ?_
       iterate 5 refine w_no 16 97 true ?_
       iterate 4 refine w_no 21 102 false ?_
       refine w_no 16 97 true <| pF rfl rfl <| en <| x_cond (t := false) rfl (fun h5 => ?_) (fun h5 => ?_)
       · exact absurd h5 (by decide)
       have hio : (if j - i = 1 ∧ digB (byte (s.drop i) 0) = true ∧ (byte (s.drop i) 1 = 60 ∨ byte (s.drop i) 1 = 62) ∧ 1 < (s.drop i).length then (4 : Int) else 1) = 1 := if_neg (by rintro ⟨q1, q2, q3, q4⟩; rw [hdl] at q4; rw [← hb0] at q2; rw [hb1, show i + 1 = j by omega] at q3; first | omega | (rw [q2] at *; simp_all; done) | (rcases q3 with q3 | q3 <;> first | (have q5 : ((byte s j).toNat : Int) = 60 := (by rw [q3]; rfl); omega) | (have q5 : ((byte s j).toNat : Int) = 62 := (by rw [q3]; rfl); omega) | simp_all))
       refine x_skip <| then_n <| sr rfl <| Wp rfl <| st_loadA (vs := [_, _, _, _, _]) T.agg51 rfl (hb80.cells (n := 5) (vs := [_, _, _, _, _]) rfl) rfl <| mI rfl <| Wp rfl <| st_st (v := .agg ⟨[_, _, _, _, _]⟩) T.size51 rfl rfl rfl hb4 ?_
       intro w108 c109 hb110; simp only [setVs, setV] at hb110
       clear hb4
       replace HC := HC.then1 c109 ge_bq4
       refine aI rfl <| aI rfl <| en <| x_ret <| ret_many (vs := [.agg ⟨[_, _, _, _, _]⟩, .int _ _, .int _ _]) rfl ⟨⟨_, _, rfl, run_loadVarA T.agg51 (hb110.cells (n := 5) rfl) rfl⟩, ⟨rfl, ⟨rfl, trivial⟩⟩⟩ (Nat.le_of_ble_eq_true rfl) ?_
       have hq9 := nextT_word (i : Int) h0 hn10 hnm hwv hio
       rw [show ((s.take j).drop i) = (s.drop i).take (j - i) by rw [List.drop_take]]
       rw [hq9]
       exact ⟨_, rfl, (fun _ => by show (j : Int) = ((i + (j - i) : Nat) : Int); omega), HC⟩
    ·try simp only [nm, ne_eq] at g61
     iterate 5 refine w_no 4 56 true ?_
     refine pF rfl rfl <| en <| x_cond (t := false) rfl (fun h3 => ?_) (fun h3 => ?_)
     · exact absurd h3 (by decide)
     have hwv : wordV (s.drop i) = (j - i, 0) := by first | (rw [hr, wordL_end (by omega)]; simp; done) | (obtain ⟨k, rfl⟩ : ∃ z, k = z + 1 := ⟨k - 1, by omega⟩; rw [hr, wordL_meta (by omega) (by first | assumption | simp_all)]; simp)
     refine x_exit <| then_x <| then_x <| block_x <| then_n <| x_seq <| x_draw [(0, 0), (1, 0), (2, 0), (3, 0), (4, 0), (5, 1), (6, 0), (7, 2)] T.mixed rfl rfl rfl (fun W => W.heap[bq8]? = w59.heap[bq8]? ∧ W.heap[bq4]? = w59.heap[bq4]? ∧ True) ⟨rfl, rfl, trivial⟩ ?_
     have o113 := hb18
     have o114 := hb4
     have c112 := Chg.drew w59
     generalize World.drew w59 = w111 at c112 ⊢
     replace HC := HC.then c112
     replace hb18 := hb18.tr0 c112
     replace hb11 := hb11.tr0 c112
     replace hb4 := hb4.tr0 c112
     refine sq_q rfl (fun W hT => r_move (v := S _) rfl) <| sq_q rfl (fun W hT => r_move (v := .int _ _) rfl) <| sq_q rfl (fun W hT => r_move (v := .int _ _) rfl) <| sq_q rfl (fun W hT => r_sslice (i := i) (j := j) T.u9 rfl ⟨_, rfl⟩ ⟨_, rfl⟩ (by omega) (by omega)) <| sq_q rfl (fun W hT => r_fieldAddr T.fld51_0 rfl) <| sq_store1 rfl T.size3 (v := .int _ _) rfl rfl rfl hb11 rfl (Nat.le_of_ble_eq_true rfl) q5 rfl ?_
     intro w115 c116 hb117; simp only [setVs, setV] at hb117
     clear hb11
     replace HC := HC.then1 c116 ge_bq7
     replace hb18 := hb18.tr1 c116 (Ne.symm ne_bq7_bq8)
     replace hb4 := hb4.tr1 c116 ne_bq4_bq7
     refine ⟨_, fun _ h => h, ⟨(Eq.trans hb18 o113.symm), (Eq.trans hb4 o114.symm), trivial⟩, ?_⟩
     refine sq_q rfl (fun W hT => r_fieldAddr T.fld51_1 rfl) <| sq_store2 rfl T.size9 (v := S _) rfl rfl rfl hb117 rfl (Nat.le_of_ble_eq_true rfl) q5 rfl ?_
     intro w118 c119 hb120; simp only [setVs, setV] at hb120
     clear hb117
     replace HC := HC.then1 c119 ge_bq7
     replace hb4 := hb4.tr1 c119 ne_bq4_bq7
     clear o113
     clear o114
     refine sq_nil <| then_n <| x_seq <| x_seq ?_
     have hwp := wordV_pos h0 hnm (by rw [hwv])
     rw [hwv] at hwp
     replace hwp : 1 ≤ j - i := hwp
     have htl : ((s.take j).drop i).length = j - i := by simp only [List.length_drop, List.length_take]; omega
     have hb0 : byte ((s.take j).drop i) 0 = byte (s.drop i) 0 := by rw [byte_dropk, byte_dropk]; simp only [byte, List.getD_eq_getElem?_getD, List.getElem?_take]; rw [if_pos (by omega)]
     have hb1 : byte (s.drop i) 1 = byte s (i + 1) := byte_dropk s i 1
     have hdl : (s.drop i).length = s.length - i := List.length_drop
     skip
     refine x_region rfl <| fa T.fld51_1 rfl <| lS T.one9 rfl (hb120.cell rfl) <| Wp rfl <| st_slen (ct := #[9]) T.u9 rfl <| Wp rfl <| st_eql rfl rfl <| mB rfl <| w_split (d := 85) rfl (fun g121 => ?_) (fun g121 => ?_)
     ·try simp only [nm, ne_eq] at g121
      refine w_yes 4 85 true <| st_fieldAddr T.fld51_1 rfl <| w_yes 4 85 true <| st_load1 (v := S _) T.one9 rfl (hb120.cell rfl) <| w_yes 4 85 true <| st_sidx T.u9 rfl rfl (by decide) (by omega) <| w_yes 4 85 true <| st_call (ags := [_]) rfl rfl T.ent52 rfl (c_digit (byte ((s.take j).drop i) 0) _) ?_
      rintro _ w122 ⟨rfl, c123⟩
      replace HC := HC.then c123
      replace hb4 := hb4.tr0 c123
      replace hb120 := hb120.tr0 c123
      refine pT rfl rfl <| mB rfl <| w_split (d := 91) rfl (fun g124 => ?_) (fun g124 => ?_)
      ·try simp only [nm, ne_eq] at g124
       refine w_yes 10 91 true <| st_move (v := .int _ _) rfl <| w_yes 10 91 true <| st_move (v := S _) rfl <| w_yes 10 91 true <| st_slen (ct := #[9]) T.u9 rfl <| w_yes 10 91 true <| st_lss rfl rfl <| pT rfl rfl <| mB rfl <| w_split (d := 97) rfl (fun g125 => ?_) (fun g125 => ?_)
       ·try simp only [nm, ne_eq] at g125
        refine w_yes 16 97 true <| st_move (v := S _) rfl <| w_yes 16 97 true <| st_move (v := .int _ _) rfl <| w_yes 16 97 true <| st_sidx T.u9 rfl rfl (by omega) (by omega) <| w_yes 16 97 true <| st_eql rfl rfl <| w_yes 16 97 true <| st_move (v := .bool _) rfl <| w_split (d := 102) rfl (fun g126 => ?_) (fun g126 => ?_)
        ·try simp only [nm, ne_eq] at g126
         iterate 4 refine w_no 21 102 false ?_
         refine w_yes 16 97 true <| st_pick (b := true) (v := .bool _) rfl rfl <| pT rfl rfl <| en <| x_cond (t := true) rfl (fun h5 => ?_) (fun h5 => ?_)
         rotate_left
         · exact absurd h5 (by decide)
         have hji : j = i + 1 := by first | omega | simp_all
         have hio : (if j - i = 1 ∧ digB (byte (s.drop i) 0) = true ∧ (byte (s.drop i) 1 = 60 ∨ byte (s.drop i) 1 = 62) ∧ 1 < (s.drop i).length then (4 : Int) else 1) = 4 := if_pos ⟨by omega, by rw [← hb0]; first | assumption | simp_all, by rw [hb1, ← hji]; first | (left; exact u8_eq (by assumption) rfl) | (right; exact u8_eq (by assumption) rfl), by rw [hdl]; first | omega | simp_all⟩
         refine x_region rfl <| fa T.fld51_0 rfl <| Wp rfl <| st_st (v := .int _ _) T.size3 rfl rfl rfl hb120 ?_
         intro w127 c128 hb129; simp only [setVs, setV] at hb129
         clear hb120
         replace HC := HC.then1 c128 ge_bq7
         replace hb4 := hb4.tr1 c128 ne_bq4_bq7
         refine en <| sr rfl <| Wp rfl <| st_loadA (vs := [_, _, _, _, _]) T.agg51 rfl (hb129.cells (n := 5) (vs := [_, _, _, _, _]) rfl) rfl <| mI rfl <| Wp rfl <| st_st (v := .agg ⟨[_, _, _, _, _]⟩) T.size51 rfl rfl rfl hb4 ?_
         intro w130 c131 hb132; simp only [setVs, setV] at hb132
         clear hb4
         replace HC := HC.then1 c131 ge_bq4
         refine aI rfl <| aI rfl <| en <| x_ret <| ret_many (vs := [.agg ⟨[_, _, _, _, _]⟩, .int _ _, .int _ _]) rfl ⟨⟨_, _, rfl, run_loadVarA T.agg51 (hb132.cells (n := 5) rfl) rfl⟩, ⟨rfl, ⟨rfl, trivial⟩⟩⟩ (Nat.le_of_ble_eq_true rfl) ?_
         have hq9 := nextT_word (i : Int) h0 hn10 hnm hwv hio
         rw [show ((s.take j).drop i) = (s.drop i).take (j - i) by rw [List.drop_take]]
         rw [hq9]
         exact ⟨_, rfl, (fun _ => by show (j : Int) = ((i + (j - i) : Nat) : Int); omega), HC⟩
        ·try simp only [nm, ne_eq] at g126
         refine w_yes 21 102 false <| st_move (v := S _) rfl <| w_yes 21 102 false <| st_move (v := .int _ _) rfl <| w_yes 21 102 false <| st_sidx T.u9 rfl rfl (by omega) (by omega) <| w_yes 21 102 false <| st_eql rfl rfl <| w_yes 16 97 true <| st_pick (b := false) (v := .bool _) rfl rfl <| pT rfl rfl <| en <| x_cond rfl (fun h5 => ?_) (fun h5 => ?_)
         ·try simp only [nm, ne_eq] at h5
          have hji : j = i + 1 := by first | omega | simp_all
          have hio : (if j - i = 1 ∧ digB (byte (s.drop i) 0) = true ∧ (byte (s.drop i) 1 = 60 ∨ byte (s.drop i) 1 = 62) ∧ 1 < (s.drop i).length then (4 : Int) else 1) = 4 := if_pos ⟨by omega, by rw [← hb0]; first | assumption | simp_all, by rw [hb1, ← hji]; first | (left; exact u8_eq (by assumption) rfl) | (right; exact u8_eq (by assumption) rfl), by rw [hdl]; first | omega | simp_all⟩
          refine x_region rfl <| fa T.fld51_0 rfl <| Wp rfl <| st_st (v := .int _ _) T.size3 rfl rfl rfl hb120 ?_
          intro w133 c134 hb135; simp only [setVs, setV] at hb135
          clear hb120
          replace HC := HC.then1 c134 ge_bq7
          replace hb4 := hb4.tr1 c134 ne_bq4_bq7
          refine en <| sr rfl <| Wp rfl <| st_loadA (vs := [_, _, _, _, _]) T.agg51 rfl (hb135.cells (n := 5) (vs := [_, _, _, _, _]) rfl) rfl <| mI rfl <| Wp rfl <| st_st (v := .agg ⟨[_, _, _, _, _]⟩) T.size51 rfl rfl rfl hb4 ?_
          intro w136 c137 hb138; simp only [setVs, setV] at hb138
          clear hb4
          replace HC := HC.then1 c137 ge_bq4
          refine aI rfl <| aI rfl <| en <| x_ret <| ret_many (vs := [.agg ⟨[_, _, _, _, _]⟩, .int _ _, .int _ _]) rfl ⟨⟨_, _, rfl, run_loadVarA T.agg51 (hb138.cells (n := 5) rfl) rfl⟩, ⟨rfl, ⟨rfl, trivial⟩⟩⟩ (Nat.le_of_ble_eq_true rfl) ?_
          have hq9 := nextT_word (i : Int) h0 hn10 hnm hwv hio
          rw [show ((s.take j).drop i) = (s.drop i).take (j - i) by rw [List.drop_take]]
          rw [hq9]
          exact ⟨_, rfl, (fun _ => by show (j : Int) = ((i + (j - i) : Nat) : Int); omega), HC⟩
         ·try simp only [nm, ne_eq] at h5
          have hio : (if j - i = 1 ∧ digB (byte (s.drop i) 0) = true ∧ (byte (s.drop i) 1 = 60 ∨ byte (s.drop i) 1 = 62) ∧ 1 < (s.drop i).length then (4 : Int) else 1) = 1 := if_neg (by rintro ⟨q1, q2, q3, q4⟩; rw [hdl] at q4; rw [← hb0] at q2; rw [hb1, show i + 1 = j by omega] at q3; first | omega | (rw [q2] at *; simp_all; done) | (rcases q3 with q3 | q3 <;> first | (have q5 : ((byte s j).toNat : Int) = 60 := (by rw [q3]; rfl); omega) | (have q5 : ((byte s j).toNat : Int) = 62 := (by rw [q3]; rfl); omega) | simp_all))
          refine x_skip <| then_n <| sr rfl <| Wp rfl <| st_loadA (vs := [_, _, _, _, _]) T.agg51 rfl (hb120.cells (n := 5) (vs := [_, _, _, _, _]) rfl) rfl <| mI rfl <| Wp rfl <| st_st (v := .agg ⟨[_, _, _, _, _]⟩) T.size51 rfl rfl rfl hb4 ?_
          intro w139 c140 hb141; simp only [setVs, setV] at hb141
          clear hb4
          replace HC := HC.then1 c140 ge_bq4
          refine aI rfl <| aI rfl <| en <| x_ret <| ret_many (vs := [.agg ⟨[_, _, _, _, _]⟩, .int _ _, .int _ _]) rfl ⟨⟨_, _, rfl, run_loadVarA T.agg51 (hb141.cells (n := 5) rfl) rfl⟩, ⟨rfl, ⟨rfl, trivial⟩⟩⟩ (Nat.le_of_ble_eq_true rfl) ?_
          have hq9 := nextT_word (i : Int) h0 hn10 hnm hwv hio
          rw [show ((s.take j).drop i) = (s.drop i).take (j - i) by rw [List.drop_take]]
          rw [hq9]
          exact ⟨_, rfl, (fun _ => by show (j : Int) = ((i + (j - i) : Nat) : Int); omega), HC⟩
       ·try simp only [nm, ne_eq] at g125
        iterate 5 refine w_no 16 97 true ?_
        iterate 4 refine w_no 21 102 false ?_
        refine w_no 16 97 true <| pF rfl rfl <| en <| x_cond (t := false) rfl (fun h5 => ?_) (fun h5 => ?_)
        · exact absurd h5 (by decide)
        have hio : (if j - i = 1 ∧ digB (byte (s.drop i) 0) = true ∧ (byte (s.drop i) 1 = 60 ∨ byte (s.drop i) 1 = 62) ∧ 1 < (s.drop i).length then (4 : Int) else 1) = 1 := if_neg (by rintro ⟨q1, q2, q3, q4⟩; rw [hdl] at q4; rw [← hb0] at q2; rw [hb1, show i + 1 = j by omega] at q3; first | omega | (rw [q2] at *; simp_all; done) | (rcases q3 with q3 | q3 <;> first | (have q5 : ((byte s j).toNat : Int) = 60 := (by rw [q3]; rfl); omega) | (have q5 : ((byte s j).toNat : Int) = 62 := (by rw [q3]; rfl); omega) | simp_all))
        refine x_skip <| then_n <| sr rfl <| Wp rfl <| st_loadA (vs := [_, _, _, _, _]) T.agg51 rfl (hb120.cells (n := 5) (vs := [_, _, _, _, _]) rfl) rfl <| mI rfl <| Wp rfl <| st_st (v := .agg ⟨[_, _, _, _, _]⟩) T.size51 rfl rfl rfl hb4 ?_
        intro w142 c143 hb144; simp only [setVs, setV] at hb144
        clear hb4
        replace HC := HC.then1 c143 ge_bq4
        refine aI rfl <| aI rfl <| en <| x_ret <| ret_many (vs := [.agg ⟨[_, _, _, _, _]⟩, .int _ _, .int _ _]) rfl ⟨⟨_, _, rfl, run_loadVarA T.agg51 (hb144.cells (n := 5) rfl) rfl⟩, ⟨rfl, ⟨rfl, trivial⟩⟩⟩ (Nat.le_of_ble_eq_true rfl) ?_
        have hq9 := nextT_word (i : Int) h0 hn10 hnm hwv hio
        rw [show ((s.take j).drop i) = (s.drop i).take (j - i) by rw [List.drop_take]]
        rw [hq9]
        exact ⟨_, rfl, (fun _ => by show (j : Int) = ((i + (j - i) : Nat) : Int); omega), HC⟩
      ·try simp only [nm, ne_eq] at g124
       iterate 4 refine w_no 10 91 true ?_
       refine pF rfl rfl <| mB rfl ?_
       iterate 5 refine w_no 16 97 true ?_
       iterate 4 refine w_no 21 102 false ?_
       refine w_no 16 97 true <| pF rfl rfl <| en <| x_cond (t := false) rfl (fun h5 => ?_) (fun h5 => ?_)
       · exact absurd h5 (by decide)
       have hio : (if j - i = 1 ∧ digB (byte (s.drop i) 0) = true ∧ (byte (s.drop i) 1 = 60 ∨ byte (s.drop i) 1 = 62) ∧ 1 < (s.drop i).length then (4 : Int) else 1) = 1 := if_neg (by rintro ⟨q1, q2, q3, q4⟩; rw [hdl] at q4; rw [← hb0] at q2; rw [hb1, show i + 1 = j by omega] at q3; first | omega | (rw [q2] at *; simp_all; done) | (rcases q3 with q3 | q3 <;> first | (have q5 : ((byte s j).toNat : Int) = 60 := (by rw [q3]; rfl); omega) | (have q5 : ((byte s j).toNat : Int) = 62 := (by rw [q3]; rfl); omega) | simp_all))
       refine x_skip <| then_n <| sr rfl <| Wp rfl <| st_loadA (vs := [_, _, _, _, _]) T.agg51 rfl (hb120.cells (n := 5) (vs := [_, _, _, _, _]) rfl) rfl <| mI rfl <| Wp rfl <| st_st (v := .agg ⟨[_, _, _, _, _]⟩) T.size51 rfl rfl rfl hb4 ?_
       intro w145 c146 hb147; simp only [setVs, setV] at hb147
       clear hb4
       replace HC := HC.then1 c146 ge_bq4
       refine aI rfl <| aI rfl <| en <| x_ret <| ret_many (vs := [.agg ⟨[_, _, _, _, _]⟩, .int _ _, .int _ _]) rfl ⟨⟨_, _, rfl, run_loadVarA T.agg51 (hb147.cells (n := 5) rfl) rfl⟩, ⟨rfl, ⟨rfl, trivial⟩⟩⟩ (Nat.le_of_ble_eq_true rfl) ?_
       have hq9 := nextT_word (i : Int) h0 hn10 hnm hwv hio
       rw [show ((s.take j).drop i) = (s.drop i).take (j - i) by rw [List.drop_take]]
       rw [hq9]
       exact ⟨_, rfl, (fun _ => by show (j : Int) = ((i + (j - i) : Nat) : Int); omega), HC⟩
     ·try simp only [nm, ne_eq] at g121
      iterate 4 refine w_no 4 85 true ?_
      refine pF rfl rfl <| mB rfl ?_
      iterate 4 refine w_no 10 91 true ?_
      refine pF rfl rfl <| mB rfl ?_
      iterate 5 refine w_no 16 97 true ?_
      iterate 4 refine w_no 21 102 false ?_
      refine w_no 16 97 true <| pF rfl rfl <| en <| x_cond (t := false) rfl (fun h5 => ?_) (fun h5 => ?_)
      · exact absurd h5 (by decide)
      have hio : (if j - i = 1 ∧ digB (byte (s.drop i) 0) = true ∧ (byte (s.drop i) 1 = 60 ∨ byte (s.drop i) 1 = 62) ∧ 1 < (s.drop i).length then (4 : Int) else 1) = 1 := if_neg (by rintro ⟨q1, q2, q3, q4⟩; rw [hdl] at q4; rw [← hb0] at q2; rw [hb1, show i + 1 = j by omega] at q3; first | omega | (rw [q2] at *; simp_all; done) | (rcases q3 with q3 | q3 <;> first | (have q5 : ((byte s j).toNat : Int) = 60 := (by rw [q3]; rfl); omega) | (have q5 : ((byte s j).toNat : Int) = 62 := (by rw [q3]; rfl); omega) | simp_all))
      refine x_skip <| then_n <| sr rfl <| Wp rfl <| st_loadA (vs := [_, _, _, _, _]) T.agg51 rfl (hb120.cells (n := 5) (vs := [_, _, _, _, _]) rfl) rfl <| mI rfl <| Wp rfl <| st_st (v := .agg ⟨[_, _, _, _, _]⟩) T.size51 rfl rfl rfl hb4 ?_
      intro w148 c149 hb150; simp only [setVs, setV] at hb150
      clear hb4
      replace HC := HC.then1 c149 ge_bq4
      refine aI rfl <| aI rfl <| en <| x_ret <| ret_many (vs := [.agg ⟨[_, _, _, _, _]⟩, .int _ _, .int _ _]) rfl ⟨⟨_, _, rfl, run_loadVarA T.agg51 (hb150.cells (n := 5) rfl) rfl⟩, ⟨rfl, ⟨rfl, trivial⟩⟩⟩ (Nat.le_of_ble_eq_true rfl) ?_
      have hq9 := nextT_word (i : Int) h0 hn10 hnm hwv hio
      rw [show ((s.take j).drop i) = (s.drop i).take (j - i) by rw [List.drop_take]]
      rw [hq9]
      exact ⟨_, rfl, (fun _ => by show (j : Int) = ((i + (j - i) : Nat) : Int); omega), HC⟩

end Go.Proofs.YtghjmiggobpmoaaGreatDoor.K
set_option linter.unusedVariables false
set_option linter.unusedSimpArgs false
set_option autoImplicit false
set_option maxRecDepth 20000
namespace Go.Proofs.YtghjmiggobpmoaaGreatDoor.K
open Go Go.RowKit

def skel (t : Tok) : Int × Bytes × Int := (t.kind, t.text, t.at_)
theorem linesV_skel : ∀ (ws : List (Nat × Bool)) (out : List Tok) (r : Bytes), (linesV out ws r).1.map skel = out.map skel
  | [], out, r => rfl
  | (j, st) :: ws, out, r => by
    simp only [linesV]
    rw [linesV_skel ws]
    apply List.ext_getElem?
    intro i
    simp only [List.getElem?_map, List.getElem?_set]
    by_cases h : j = i
    · subst h
      by_cases hj : j < out.length
      · rw [if_pos rfl, if_pos hj]
        simp [List.getD_eq_getElem?_getD, hj, skel]
      · rw [if_pos rfl, if_neg hj]
        simp [hj]
    · rw [if_neg h]
theorem linesV_len (ws : List (Nat × Bool)) (out : List Tok) (r : Bytes) : (linesV out ws r).1.length = out.length := by
  have := congrArg List.length (linesV_skel ws out r); simpa using this
theorem cut_le (s c : Bytes) : (Lib.cut s c).1.length ≤ s.length := by
  unfold Lib.cut; split
  · simp only [List.length_take]; omega
  · exact Nat.le_refl _
theorem cut_more {s c : Bytes} (h : (Lib.cut s c).2.2 = true) : (Lib.cut s c).1.length + c.length ≤ s.length := by
  unfold Lib.cut at h ⊢; split
  · rename_i hk
    have := Lib.index_room s c hk
    simp only [List.length_take]
    omega
  · rename_i hk; rw [if_neg hk] at h; cases h
theorem bodyL_le (fin : Bytes) (strip : Bool) : ∀ (k : Nat) (r : Bytes), (bodyL fin strip k r).2 ≤ r.length
  | 0, r => by simp [bodyL]
  | k + 1, r => by
    simp only [bodyL]
    split
    · simp
    · have h1 : (Lib.cut r [10]).1.length + (if (Lib.cut r [10]).2.2 = true then 1 else 0) ≤ r.length := by
        by_cases h : (Lib.cut r [10]).2.2 = true
        · rw [if_pos h]; exact cut_more h
        · rw [if_neg h]; exact cut_le _ _
      generalize (if strip = true then trimT (Lib.cut r [10]).1 else (Lib.cut r [10]).1) = q
      split
      · exact h1
      · have h2 := bodyL_le fin strip k (r.drop ((Lib.cut r [10]).1.length + (if (Lib.cut r [10]).2.2 = true then 1 else 0)))
        simp only [List.length_drop] at h2
        show _ + (_ + _) ≤ _
        omega
theorem linesV_le : ∀ (ws : List (Nat × Bool)) (out : List Tok) (r : Bytes), (linesV out ws r).2 ≤ r.length
  | [], out, r => by simp [linesV]
  | (j, st) :: ws, out, r => by
    simp only [linesV]
    have h1 := linesV_le ws (out.set j { (out.getD j ⟨0, [], 0, [], false⟩) with here := (out.getD j ⟨0, [], 0, [], false⟩).here ++ (bodyV (plainV (out.getD j ⟨0, [], 0, [], false⟩).text).1 st r).1, raw := (plainV (out.getD j ⟨0, [], 0, [], false⟩).text).2 }) (r.drop (bodyV (plainV (out.getD j ⟨0, [], 0, [], false⟩).text).1 st r).2)
    have h2 := bodyL_le (plainV (out.getD j ⟨0, [], 0, [], false⟩).text).1 st r.length r
    simp only [List.length_drop] at h1
    show _ + (bodyL _ _ _ _).2 ≤ _
    simp only [bodyV] at h1 ⊢
    omega
structure Placed (s : Bytes) (i : Nat) (l : List (Int × Bytes × Int)) : Prop where
  at_ : ∀ x, x ∈ l → x.1 ≠ 0 ∧ 0 ≤ x.2.2 ∧ x.2.2.toNat + x.2.1.length ≤ i ∧ (s.drop x.2.2.toNat).take x.2.1.length = x.2.1
  up : ∀ (j : Nat) x y, l[j]? = some x → l[j + 1]? = some y → x.2.2 + x.2.1.length ≤ y.2.2
theorem Placed.nil {s : Bytes} {i : Nat} : Placed s i [] := ⟨fun x h => (by cases h), fun j x y h => (by simp at h)⟩
theorem nextT_ok {r : Bytes} (hr : r ≠ []) (hb : byte r 0 ≠ 32 ∧ byte r 0 ≠ 9 ∧ byte r 0 ≠ 35) (i : Int) :
    ((nextT r i).2.2 ≠ 0 ∧ ∃ j : Nat, (nextT r i).1.at_ = i + j ∧ j < r.length) ∨
    ((nextT r i).2.2 = 0 ∧ (nextT r i).1.kind ≠ 0 ∧ 1 ≤ (nextT r i).2.1 ∧ (nextT r i).2.1 ≤ r.length ∧ (nextT r i).1.text = r.take (nextT r i).2.1 ∧ (nextT r i).1.at_ = i ∧ (nextT r i).1.here = [] ∧ (nextT r i).1.raw = false) := by
  unfold nextT
  rw [if_neg hr]
  split
  · right
    rename_i h
    obtain ⟨c, t, rfl⟩ : ∃ c t, r = c :: t := by cases r with | nil => exact absurd rfl hr | cons c t => exact ⟨c, t, rfl⟩
    have hb : byte (c :: t) 0 = c := rfl
    rw [hb] at h; subst h
    simp
  · rename_i h10
    split
    · rename_i hm
      obtain ⟨j, h1, h2, h3, h4, h5, h6⟩ := op_hit hm h10 hb.1 hb.2.1 hr
      right
      refine ⟨rfl, by show (2 : Int) ≠ 0; decide, h5, h6, ?_, rfl, rfl, rfl⟩
      have := List.isPrefixOf_iff_prefix.1 h4
      show opT r = r.take (opT r).length
      exact List.prefix_iff_eq_take.1 this
    · rename_i hm
      have hm' : metaB (byte r 0) = false := by simpa using hm
      split
      · rename_i he
        exact .inl ⟨by simpa using he, _, rfl, wordL_err _ _ he⟩
      · rename_i he
        have he' : (wordV r).2 = 0 := by simpa using he
        exact .inr ⟨rfl, by show ite _ _ _ ≠ (0 : Int); split <;> decide, wordV_pos hr hm' he', wordL_le _ _, rfl, rfl, rfl, rfl⟩
structure GoodT (s : Bytes) (l : List Tok) : Prop where
  at_ : ∀ (i : Nat) (x : Tok), l[i]? = some x → 0 ≤ x.at_ ∧ x.at_ ≤ s.length ∧ (x.text.length : Int) ≤ s.length - x.at_ ∧ (s.drop x.at_.toNat).take x.text.length = x.text
  up : ∀ (i : Nat) (x y : Tok), l[i]? = some x → l[i + 1]? = some y → x.at_ + x.text.length ≤ y.at_
  fin : ∀ (i : Nat) (x : Tok), l[i]? = some x → (x.kind = 0 ↔ i + 1 = l.length)
  last : ∃ n z, l.length = n + 1 ∧ l[n]? = some z ∧ z.at_ = s.length
end Go.Proofs.YtghjmiggobpmoaaGreatDoor.K
set_option linter.unusedVariables false
set_option linter.unusedSimpArgs false
set_option autoImplicit false
set_option maxRecDepth 20000
namespace Go.Proofs.YtghjmiggobpmoaaGreatDoor.K
open Go Go.RowKit

def L10 (r : Bytes) : Prop := r.getLast? = some 10
theorem L10.drop {r : Bytes} (h : L10 r) {j : Nat} (hj : r.drop j ≠ []) : L10 (r.drop j) := by
  unfold L10 at h ⊢
  rw [List.getLast?_drop, if_neg (by intro h9; exact hj (List.drop_eq_nil_of_le h9))]; exact h
theorem L10.one {c : UInt8} (h : L10 [c]) : c = 10 := by simpa [L10] using h
theorem L10.ne {r : Bytes} (h : L10 r) : r ≠ [] := by intro e; subst e; simp [L10] at h
theorem L10.tail {c : UInt8} {u : Bytes} (h : L10 (c :: u)) (hu : u ≠ []) : L10 u := by
  have := L10.drop (j := 1) h (by simpa using hu); simpa using this
theorem blank_facts (r : Bytes) : blankV r ≤ r.length ∧ (r.drop (blankV r) = [] ∨ (byte (r.drop (blankV r)) 0 ≠ 32 ∧ byte (r.drop (blankV r)) 0 ≠ 9 ∧ byte (r.drop (blankV r)) 0 ≠ 35)) :=
  ⟨blankL_le _ _, blankL_stop _ _ (Nat.le_refl _)⟩
theorem pushW_lt {out : List Tok} {ws : List (Nat × Bool)} {t : Tok} (h : ∀ w, w ∈ ws → w.1 < out.length) : ∀ w, w ∈ pushW out ws t → w.1 < (out ++ [t]).length := fun w hw => by
  rw [List.length_append]
  unfold pushW at hw
  split at hw
  · rcases List.mem_append.1 hw with h1 | h1
    · have := h w h1; simp; omega
    · rw [List.mem_singleton.1 h1]; simp
  · have := h w hw; simp; omega
end Go.Proofs.YtghjmiggobpmoaaGreatDoor.K
set_option linter.unusedVariables false
set_option linter.unusedSimpArgs false
set_option autoImplicit false
set_option maxRecDepth 20000
namespace Go.Proofs.YtghjmiggobpmoaaGreatDoor.K
open Go Go.RowKit

end Go.Proofs.YtghjmiggobpmoaaGreatDoor.K
