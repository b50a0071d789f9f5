/- Walks: the next token. -/
import Derived.Test.YtmbbhgglllfelaaDoorBb
set_option linter.unusedVariables false
set_option linter.unusedSimpArgs false
set_option autoImplicit false
set_option maxRecDepth 20000
namespace Go.Proofs.YtmbbhgglllfelaaDoor.K
open Go Go.Proofs Go.RowKit

/-- A token's cells. -/
def tokC (x : Int × Int × Bytes) (a : Int) : List Value := [.int .i64 x.1, .int .i64 x.2.1, S x.2.2, .int .i64 a]
/-- The next token, how long it is, and what is wrong. -/
def nextV (s : Bytes) : (Int × Int × Bytes) × Int × Int :=
  if s = [] then ((0, 0, []), 0, 0)
  else if digB (byte s 0) = true then
    if (constV (s.take (runN wordB s))).2 = true then ((1, (constV (s.take (runN wordB s))).1, []), runN wordB s, 0) else ((0, 0, []), 0, 102)
  else if 0 < runN wordB s then ((2, 0, s.take (runN wordB s)), runN wordB s, 0)
  else if findN (Lib.hasPrefix s) 0 opsL < 0 then ((0, 0, []), 0, 101)
  else ((3, 0, opsL.getD (findN (Lib.hasPrefix s) 0 opsL).toNat []), (opsL.getD (findN (Lib.hasPrefix s) 0 opsL).toNat []).length, 0)

theorem findN_lt {q : Bytes → Bool} : ∀ (l : List Bytes) (i : Nat), findN q i l < i + l.length
  | [], i => by simp only [findN, List.length_nil]; omega
  | x :: l, i => by
    have := findN_lt (q := q) l (i + 1)
    simp only [findN, List.length_cons]; split <;> omega

theorem next_spec (s : Bytes) (a : Int) (w : World) (hs : s.length ≤ 9223372036854775807) (ht : Tab w) : CallR Tryd.prog 63 #[S s, .int .i64 a] w fun v w' => v = .tuple ⟨[.agg ⟨tokC (nextV s).1 a⟩, .int .i64 (nextV s).2.1, .int .i64 (nextV s).2.2]⟩ ∧ Chg [] w w' := by
 refine callR_of_wp (args := [_, _]) Tryd.func63 rfl (Nat.le_of_ble_eq_true rfl) ?_
 have HC : Chg [] w w := .refl _
 have ht1 := ht.lt
 refine sr rfl <| Wp rfl <| st_box (v := S _) (vs := [_]) rfl rfl ?_
 intro b2 w1 e2 c3 hb4
 have ge_b2 : w.heap.size ≤ b2 := by rw [e2]; exact HC.size
 replace HC := HC.then c3
 replace ht := ht.tr0 c3
 clear e2
 refine Wp rfl <| st_alloc T.zero68 ?_
 intro b4 w5 e6 c7 hb8
 have ge_b4 : w.heap.size ≤ b4 := by rw [e6]; exact HC.size
 have ne_b2_b4 : b2 ≠ b4 := by rw [e6]; exact hb4.ne_size
 replace HC := HC.then c7
 replace ht := ht.tr0 c7
 replace hb4 := hb4.tr0 c7
 clear e6
 refine aI rfl <| aI rfl <| en <| sr rfl <| mI rfl <| Wp rfl <| st_bld (ps := [(3, .tmp 13)]) (vs := [.int _ _, .int _ _, S _, .int _ _]) T.bld68 rfl <| Wp rfl <| st_alloc T.zero68 ?_
 intro b7 w9 e10 c11 hb12
 have ge_b7 : w.heap.size ≤ b7 := by rw [e10]; exact HC.size
 have ne_b2_b7 : b2 ≠ b7 := by rw [e10]; exact hb4.ne_size
 have ne_b4_b7 : b4 ≠ b7 := by rw [e10]; exact hb8.ne_size
 replace HC := HC.then c11
 replace ht := ht.tr0 c11
 replace hb4 := hb4.tr0 c11
 replace hb8 := hb8.tr0 c11
 clear e10
 refine Wp rfl <| st_store (v := .agg ⟨[.int _ _, .int _ _, S _, .int _ _]⟩) T.size68 rfl rfl rfl hb12 rfl (Nat.le_of_ble_eq_true rfl) (by simp [Value.oneCell', S]) rfl ?_
 intro w13 c14 hb15; simp only [setVs, setV] at hb15
 clear hb12
 replace HC := HC.then1 c14 ge_b7
 replace ht := ht.tr c14 (by intro hx; have := ht.lt; have := ht1; simp only [List.mem_cons, List.mem_nil_iff, or_false] at hx; omega)
 replace hb4 := hb4.tr1 c14 ne_b2_b7
 replace hb8 := hb8.tr1 c14 ne_b4_b7
 refine en <| x_seq <| sr rfl <| lS T.one9 rfl (hb4.cell rfl) <| Wp rfl <| st_seql rfl rfl <| en <| x_cond rfl (fun h0 => ?_) (fun h0 => ?_)
 ·try simp only [nm, ne_eq] at h0
  refine sr rfl <| Wp rfl <| st_loadA (vs := [_, _, _, _]) T.agg68 rfl (hb15.cells (n := 4) (vs := [_, _, _, _]) rfl) rfl <| Wp rfl <| st_store (v := .agg ⟨[.int _ _, .int _ _, S _, .int _ _]⟩) T.size68 rfl rfl rfl hb8 rfl (Nat.le_of_ble_eq_true rfl) (by simp [Value.oneCell', S]) rfl ?_
  intro w16 c17 hb18; simp only [setVs, setV] at hb18
  clear hb8
  replace HC := HC.then1 c17 ge_b4
  replace ht := ht.tr c17 (by intro hx; have := ht.lt; have := ht1; simp only [List.mem_cons, List.mem_nil_iff, or_false] at hx; omega)
  replace hb4 := hb4.tr1 c17 ne_b2_b4
  replace hb15 := hb15.tr1 c17 (Ne.symm ne_b4_b7)
  refine aI rfl <| aI rfl <| en <| x_ret <| then_r <| ret_many (vs := [.agg ⟨[_, _, _, _]⟩, .int _ _, .int _ _]) rfl ⟨⟨_, _, rfl, run_loadVarA T.agg68 (hb18.cells (n := 4) rfl) rfl⟩, ⟨rfl, ⟨rfl, trivial⟩⟩⟩ (Nat.le_of_ble_eq_true rfl) <| ⟨?_, HC⟩
  rw [show nextV s = ((0, 0, []), 0, 0) by unfold nextV; rw [if_pos (by assumption)]]; rfl
 ·try simp only [nm, ne_eq] at h0
  have hs0 : 0 < s.length := List.length_pos_iff.2 (by assumption)
  refine x_skip <| then_n <| sr rfl <| lS T.one9 rfl (hb4.cell rfl) <| Wp rfl <| st_call (ags := [_, _]) rfl rfl T.ent61 rfl (run_spec (k := 76) (caps := #[]) _ (by first | assumption | (simp only [List.length_take, List.length_drop]; omega)) T.ent76 (fun c W _ => a_word c W)) ?_
  rintro _ w19 ⟨rfl, c20⟩
  replace HC := HC.then c20
  replace ht := ht.tr0 c20
  replace hb4 := hb4.tr0 c20
  replace hb8 := hb8.tr0 c20
  replace hb15 := hb15.tr0 c20
  have hrl := runN_le wordB s
  refine aI rfl <| en <| x_seq <| x_block <| sr rfl <| lS T.one9 rfl (hb4.cell rfl) <| Wp rfl <| st_sidx T.u9 rfl rfl (by omega) (by omega) <| Wp rfl <| st_call (ags := [_]) rfl rfl T.ent77 rfl (c_digit _ _) ?_
  rintro _ w21 ⟨rfl, c22⟩
  replace HC := HC.then c22
  replace ht := ht.tr0 c22
  replace hb4 := hb4.tr0 c22
  replace hb8 := hb8.tr0 c22
  replace hb15 := hb15.tr0 c22
  refine aB rfl <| en <| x_cond rfl (fun h1 => ?_) (fun h1 => ?_)
  ·try simp only [nm, ne_eq] at h1
   refine sr rfl <| lS T.one9 rfl (hb4.cell rfl) <| mI rfl <| Wp rfl <| st_sslice (i := _) (j := _) T.u9 rfl (by rfl) ⟨_, rfl⟩ (by omega) (by omega) <| Wp rfl <| st_call (ags := [_]) rfl rfl T.ent13 rfl (Constant_spec (List.drop 0 (List.take (runN wordB s) s)) _ (by simp only [List.length_take, List.length_drop]; omega)) ?_
   rintro _ w23 ⟨rfl, c24⟩
   replace HC := HC.then c24
   replace ht := ht.tr0 c24
   replace hb4 := hb4.tr0 c24
   replace hb8 := hb8.tr0 c24
   replace hb15 := hb15.tr0 c24
   refine mv (v := .tuple ⟨[_, _]⟩) rfl <| Wp rfl <| st_extract (vs := [_, _]) (v := .int _ _) rfl rfl <| Wp rfl <| st_extract (vs := [_, _]) (v := .bool _) rfl rfl <| aI rfl <| aB rfl <| en <| x_seq <| sr rfl <| mB rfl <| Wp rfl <| st_not rfl <| en <| x_cond rfl (fun h2 => ?_) (fun h2 => ?_)
   ·try simp only [nm, ne_eq] at h2
    refine sr rfl <| Wp rfl <| st_loadA (vs := [_, _, _, _]) T.agg68 rfl (hb15.cells (n := 4) (vs := [_, _, _, _]) rfl) rfl <| Wp rfl <| st_store (v := .agg ⟨[.int _ _, .int _ _, S _, .int _ _]⟩) T.size68 rfl rfl rfl hb8 rfl (Nat.le_of_ble_eq_true rfl) (by simp [Value.oneCell', S]) rfl ?_
    intro w25 c26 hb27; simp only [setVs, setV] at hb27
    clear hb8
    replace HC := HC.then1 c26 ge_b4
    replace ht := ht.tr c26 (by intro hx; have := ht.lt; have := ht1; simp only [List.mem_cons, List.mem_nil_iff, or_false] at hx; omega)
    replace hb4 := hb4.tr1 c26 ne_b2_b4
    replace hb15 := hb15.tr1 c26 (Ne.symm ne_b4_b7)
    refine aI rfl <| aI rfl <| en <| x_ret <| then_r <| block_r <| then_r <| ret_many (vs := [.agg ⟨[_, _, _, _]⟩, .int _ _, .int _ _]) rfl ⟨⟨_, _, rfl, run_loadVarA T.agg68 (hb27.cells (n := 4) rfl) rfl⟩, ⟨rfl, ⟨rfl, trivial⟩⟩⟩ (Nat.le_of_ble_eq_true rfl) <| ⟨?_, HC⟩
    (try simp only [List.drop_zero] at *); rw [show nextV s = (((0, 0, []), 0, 102) : (Int × Int × Bytes) × Int × Int) by unfold nextV; rw [if_neg h0, if_pos h1, if_neg (by rw [Bool.not_eq_true]; exact h2)]]; rfl
   ·try simp only [nm, ne_eq] at h2
    refine x_skip <| then_n <| sr rfl <| mI rfl <| fa T.fld68_0 rfl <| Wp rfl <| st_store (v := .int _ _) T.size3 rfl rfl rfl hb15 rfl (Nat.le_of_ble_eq_true rfl) (by simp [Value.oneCell', S]) rfl ?_
    intro w28 c29 hb30; simp only [setVs, setV] at hb30
    clear hb15
    replace HC := HC.then1 c29 ge_b7
    replace ht := ht.tr c29 (by intro hx; have := ht.lt; have := ht1; simp only [List.mem_cons, List.mem_nil_iff, or_false] at hx; omega)
    replace hb4 := hb4.tr1 c29 ne_b2_b7
    replace hb8 := hb8.tr1 c29 ne_b4_b7
    refine fa T.fld68_1 rfl <| Wp rfl <| st_store (v := .int _ _) T.size2 rfl rfl rfl hb30 rfl (Nat.le_of_ble_eq_true rfl) (by simp [Value.oneCell', S]) rfl ?_
    intro w31 c32 hb33; simp only [setVs, setV] at hb33
    clear hb30
    replace HC := HC.then1 c32 ge_b7
    replace ht := ht.tr c32 (by intro hx; have := ht.lt; have := ht1; simp only [List.mem_cons, List.mem_nil_iff, or_false] at hx; omega)
    replace hb4 := hb4.tr1 c32 ne_b2_b7
    replace hb8 := hb8.tr1 c32 ne_b4_b7
    refine en <| sr rfl <| Wp rfl <| st_loadA (vs := [_, _, _, _]) T.agg68 rfl (hb33.cells (n := 4) (vs := [_, _, _, _]) rfl) rfl <| mI rfl <| Wp rfl <| st_store (v := .agg ⟨[.int _ _, .int _ _, S _, .int _ _]⟩) T.size68 rfl rfl rfl hb8 rfl (Nat.le_of_ble_eq_true rfl) (by simp [Value.oneCell', S]) rfl ?_
    intro w34 c35 hb36; simp only [setVs, setV] at hb36
    clear hb8
    replace HC := HC.then1 c35 ge_b4
    replace ht := ht.tr c35 (by intro hx; have := ht.lt; have := ht1; simp only [List.mem_cons, List.mem_nil_iff, or_false] at hx; omega)
    replace hb4 := hb4.tr1 c35 ne_b2_b4
    replace hb33 := hb33.tr1 c35 (Ne.symm ne_b4_b7)
    refine aI rfl <| aI rfl <| en <| x_ret <| block_r <| then_r <| ret_many (vs := [.agg ⟨[_, _, _, _]⟩, .int _ _, .int _ _]) rfl ⟨⟨_, _, rfl, run_loadVarA T.agg68 (hb36.cells (n := 4) rfl) rfl⟩, ⟨rfl, ⟨rfl, trivial⟩⟩⟩ (Nat.le_of_ble_eq_true rfl) <| ⟨?_, HC⟩
    (try simp only [List.drop_zero] at *); rw [show nextV s = (((1, (constV (s.take (runN wordB s))).1, []), runN wordB s, 0) : (Int × Int × Bytes) × Int × Int) by unfold nextV; rw [if_neg h0, if_pos h1, if_pos h2]]; rfl
  ·try simp only [nm, ne_eq] at h1
   refine sr rfl <| mI rfl <| Wp rfl <| st_gtr rfl rfl <| aB rfl <| en <| x_cond rfl (fun h3 => ?_) (fun h3 => ?_)
   ·try simp only [nm, ne_eq] at h3
    refine x_seq <| x_draw [(0, 0), (1, 0), (2, 0), (3, 0), (4, 1), (5, 0), (6, 2)] T.mixed rfl rfl rfl (fun W => W.heap[b2]? = w21.heap[b2]? ∧ W.heap[b4]? = w21.heap[b4]? ∧ True) ⟨rfl, rfl, trivial⟩ ?_
    have o39 := hb4
    have o40 := hb8
    have c38 := Chg.drew w21
    generalize World.drew w21 = w37 at c38 ⊢
    replace HC := HC.then c38
    replace ht := ht.tr0 c38
    replace hb4 := hb4.tr0 c38
    replace hb8 := hb8.tr0 c38
    replace hb15 := hb15.tr0 c38
    refine sq_q rfl (fun W hT => r_load1 (v := S _) T.one9 rfl (Blk.cell (show Blk W b2 _ _ from hT.1.trans o39) rfl)) <| sq_q rfl (fun W hT => r_move (v := .int _ _) rfl) <| sq_q rfl (fun W hT => r_sslice (i := _) (j := _) T.u9 rfl (by rfl) ⟨_, rfl⟩ (by omega) (by omega)) <| sq_q rfl (fun W hT => r_fieldAddr T.fld68_0 rfl) <| sq_store1 rfl T.size3 (v := .int _ _) rfl rfl rfl hb15 rfl (Nat.le_of_ble_eq_true rfl) (by simp [Value.oneCell', S]) rfl ?_
    intro w41 c42 hb43; simp only [setVs, setV] at hb43
    clear hb15
    replace HC := HC.then1 c42 ge_b7
    replace ht := ht.tr c42 (by intro hx; have := ht.lt; have := ht1; simp only [List.mem_cons, List.mem_nil_iff, or_false] at hx; omega)
    replace hb4 := hb4.tr1 c42 ne_b2_b7
    replace hb8 := hb8.tr1 c42 ne_b4_b7
    refine ⟨_, fun _ h => h, ⟨(Eq.trans hb4 o39.symm), (Eq.trans hb8 o40.symm), trivial⟩, ?_⟩
    refine sq_q rfl (fun W hT => r_fieldAddr T.fld68_2 rfl) <| sq_store2 rfl T.size9 (v := S _) rfl rfl rfl hb43 rfl (Nat.le_of_ble_eq_true rfl) (by simp [Value.oneCell', S]) rfl ?_
    intro w44 c45 hb46; simp only [setVs, setV] at hb46
    clear hb43
    replace HC := HC.then1 c45 ge_b7
    replace ht := ht.tr c45 (by intro hx; have := ht.lt; have := ht1; simp only [List.mem_cons, List.mem_nil_iff, or_false] at hx; omega)
    replace hb4 := hb4.tr1 c45 ne_b2_b7
    replace hb8 := hb8.tr1 c45 ne_b4_b7
    clear o39
    clear o40
    refine sq_nil <| then_n <| sr rfl <| Wp rfl <| st_loadA (vs := [_, _, _, _]) T.agg68 rfl (hb46.cells (n := 4) (vs := [_, _, _, _]) rfl) rfl <| mI rfl <| Wp rfl <| st_store (v := .agg ⟨[.int _ _, .int _ _, S _, .int _ _]⟩) T.size68 rfl rfl rfl hb8 rfl (Nat.le_of_ble_eq_true rfl) (by simp [Value.oneCell', S]) rfl ?_
    intro w47 c48 hb49; simp only [setVs, setV] at hb49
    clear hb8
    replace HC := HC.then1 c48 ge_b4
    replace ht := ht.tr c48 (by intro hx; have := ht.lt; have := ht1; simp only [List.mem_cons, List.mem_nil_iff, or_false] at hx; omega)
    replace hb4 := hb4.tr1 c48 ne_b2_b4
    replace hb46 := hb46.tr1 c48 (Ne.symm ne_b4_b7)
    refine aI rfl <| aI rfl <| en <| x_ret <| block_r <| then_r <| ret_many (vs := [.agg ⟨[_, _, _, _]⟩, .int _ _, .int _ _]) rfl ⟨⟨_, _, rfl, run_loadVarA T.agg68 (hb49.cells (n := 4) rfl) rfl⟩, ⟨rfl, ⟨rfl, trivial⟩⟩⟩ (Nat.le_of_ble_eq_true rfl) <| ⟨?_, HC⟩
    (try simp only [List.drop_zero] at *); rw [show nextV s = (((2, 0, s.take (runN wordB s)), runN wordB s, 0) : (Int × Int × Bytes) × Int × Int) by unfold nextV; rw [if_neg h0, if_neg (by rw [Bool.not_eq_true]; exact h1), if_pos (by omega)]]; rfl
   ·try simp only [nm, ne_eq] at h3
    refine x_skip <| block_n <| then_n <| sr rfl <| Wp rfl <| st_call (ags := []) rfl rfl T.ent78 rfl (operators_spec _ ht) ?_
    rintro _ w50 ⟨bo, rfl, hge, hops, c51⟩
    have lt_b2 := hb4.lt
    have lt_b4 := hb8.lt
    have lt_b7 := hb15.lt
    have nf_hops_b2 : opsL = [] ∨ b2 ∉ ob (some ⟨bo, 0, none⟩) := .inr (fun hx => by have := hb4.lt; simp [ob] at hx; omega)
    have nf_hops_b4 : opsL = [] ∨ b4 ∉ ob (some ⟨bo, 0, none⟩) := .inr (fun hx => by have := hb8.lt; simp [ob] at hx; omega)
    have nf_hops_b7 : opsL = [] ∨ b7 ∉ ob (some ⟨bo, 0, none⟩) := .inr (fun hx => by have := hb15.lt; simp [ob] at hx; omega)
    replace HC := HC.then c51
    replace ht := ht.tr0 c51
    replace hb4 := hb4.tr0 c51
    replace hb8 := hb8.tr0 c51
    replace hb15 := hb15.tr0 c51
    refine aL rfl <| en <| sr rfl <| mL rfl <| Wp rfl <| st_makeFunc <| Wp rfl <| st_call (ags := [_, _]) rfl rfl T.ent79 rfl (IndexFunc_spec (q := Lib.hasPrefix s) hops (by decide) T.ent80 (fun c W hW => next1_spec c (hb4.tr0 hW))) ?_
    rintro _ w52 ⟨rfl, c53⟩
    replace HC := HC.then c53
    replace ht := ht.tr0 c53
    replace hb4 := hb4.tr0 c53
    replace hb8 := hb8.tr0 c53
    replace hb15 := hb15.tr0 c53
    replace hops := hops.tr0 c53
    refine aI rfl <| en <| x_seq <| sr rfl <| mI rfl <| Wp rfl <| st_lss rfl rfl <| en <| x_cond rfl (fun h4 => ?_) (fun h4 => ?_)
    ·try simp only [nm, ne_eq] at h4
     refine sr rfl <| Wp rfl <| st_loadA (vs := [_, _, _, _]) T.agg68 rfl (hb15.cells (n := 4) (vs := [_, _, _, _]) rfl) rfl <| Wp rfl <| st_store (v := .agg ⟨[.int _ _, .int _ _, S _, .int _ _]⟩) T.size68 rfl rfl rfl hb8 rfl (Nat.le_of_ble_eq_true rfl) (by simp [Value.oneCell', S]) rfl ?_
     intro w54 c55 hb56; simp only [setVs, setV] at hb56
     clear hb8
     replace HC := HC.then1 c55 ge_b4
     replace ht := ht.tr c55 (by intro hx; have := ht.lt; have := ht1; simp only [List.mem_cons, List.mem_nil_iff, or_false] at hx; omega)
     replace hb4 := hb4.tr1 c55 ne_b2_b4
     replace hb15 := hb15.tr1 c55 (Ne.symm ne_b4_b7)
     replace hops := hops.trF flat_flat c55 (by intro k hx; simp only [List.mem_singleton] at hx; subst hx; exact nf_hops_b4)
     refine aI rfl <| aI rfl <| en <| x_ret <| then_r <| ret_many (vs := [.agg ⟨[_, _, _, _]⟩, .int _ _, .int _ _]) rfl ⟨⟨_, _, rfl, run_loadVarA T.agg68 (hb56.cells (n := 4) rfl) rfl⟩, ⟨rfl, ⟨rfl, trivial⟩⟩⟩ (Nat.le_of_ble_eq_true rfl) <| ⟨?_, HC⟩
     (try simp only [List.drop_zero] at *); rw [show nextV s = (((0, 0, []), 0, 101) : (Int × Int × Bytes) × Int × Int) by unfold nextV; rw [if_neg h0, if_neg (by rw [Bool.not_eq_true]; exact h1), if_neg (by omega), if_pos h4]]; rfl
    ·try simp only [nm, ne_eq] at h4
     obtain ⟨l, hl⟩ : ∃ l : Nat, findN (Lib.hasPrefix s) 0 opsL = l := ⟨_, (Int.toNat_of_nonneg (by omega)).symm⟩
     have hlt : l < opsL.length := by have := findN_lt (q := Lib.hasPrefix s) opsL 0; omega
     rw [hl]
     refine x_skip <| then_n <| x_seq ?_
     obtain ⟨x57, hx58⟩ : ∃ zz, opsL[l]? = some zz := ⟨_, List.getElem?_eq_getElem (by first | assumption | omega)⟩
     obtain ⟨lb63, _, vs62, hA59, hR61, hC60⟩ := hops.at hx58
     obtain rfl : vs62 = [S x57] := hR61
     refine x_draw [(0, 0), (1, 0), (2, 0), (3, 0), (4, 0), (5, 1), (6, 0), (7, 2)] T.mixed rfl rfl rfl (fun W => W.heap[b2]? = w52.heap[b2]? ∧ W.heap[b4]? = w52.heap[b4]? ∧ W.heap[lb63]? = w52.heap[lb63]? ∧ True) ⟨rfl, rfl, rfl, trivial⟩ ?_
     have o66 := hb4
     have o67 := hb8
     have c65 := Chg.drew w52
     generalize World.drew w52 = w64 at c65 ⊢
     have ht_lb63 : lb63 < w64.heap.size ∧ w64.heap[lb63]? = w52.heap[lb63]? := ⟨Nat.lt_of_lt_of_le hC60.lt c65.size, c65.block lb63 hC60.lt (by simp)⟩
     replace HC := HC.then c65
     replace ht := ht.tr0 c65
     replace hb4 := hb4.tr0 c65
     replace hb8 := hb8.tr0 c65
     replace hb15 := hb15.tr0 c65
     replace hops := hops.tr0 c65
     refine sq_q rfl (fun W hT => r_move (v := .slice _ _ _) rfl) <| sq_q rfl (fun W hT => r_move (v := .int _ _) rfl) <| sq_q rfl (fun W hT => r_indexAddr T.u92 T.size9 (congrArg (fun z => Value.slice z _ _) hA59) rfl (by omega) (by first | assumption | omega)) <| sq_q rfl (fun W hT => r_load1 (v := S _) T.one9 rfl (Cells.at (j := 0) (Cells.tr hC60 hT.2.2.1) rfl)) <| sq_q rfl (fun W hT => r_fieldAddr T.fld68_0 rfl) <| sq_store1 rfl T.size3 (v := .int _ _) rfl rfl rfl hb15 rfl (Nat.le_of_ble_eq_true rfl) (by simp [Value.oneCell', S]) rfl ?_
     intro w68 c69 hb70; simp only [setVs, setV] at hb70
     clear hb15
     replace HC := HC.then1 c69 ge_b7
     replace ht := ht.tr c69 (by intro hx; have := ht.lt; have := ht1; simp only [List.mem_cons, List.mem_nil_iff, or_false] at hx; omega)
     replace hb4 := hb4.tr1 c69 ne_b2_b7
     replace hb8 := hb8.tr1 c69 ne_b4_b7
     replace hops := hops.trF flat_flat c69 (by intro k hx; simp only [List.mem_singleton] at hx; subst hx; exact nf_hops_b7)
     replace ht_lb63 := And.intro (Nat.lt_of_lt_of_le ht_lb63.1 c69.size) ((c69.block lb63 ht_lb63.1 (by intro hx; have hD := hA59; simp only [List.mem_cons, List.mem_nil_iff, or_false, Option.some.injEq, Addr.mk.injEq] at hx hD; omega)).trans ht_lb63.2)
     refine ⟨_, fun _ h => h, ⟨(Eq.trans hb4 o66.symm), (Eq.trans hb8 o67.symm), (by first | assumption | exact ht_lb63.2), trivial⟩, ?_⟩
     refine sq_q rfl (fun W hT => r_fieldAddr T.fld68_2 rfl) <| sq_store2 rfl T.size9 (v := S _) rfl rfl rfl hb70 rfl (Nat.le_of_ble_eq_true rfl) (by simp [Value.oneCell', S]) rfl ?_
     intro w71 c72 hb73; simp only [setVs, setV] at hb73
     clear hb70
     replace HC := HC.then1 c72 ge_b7
     replace ht := ht.tr c72 (by intro hx; have := ht.lt; have := ht1; simp only [List.mem_cons, List.mem_nil_iff, or_false] at hx; omega)
     replace hb4 := hb4.tr1 c72 ne_b2_b7
     replace hb8 := hb8.tr1 c72 ne_b4_b7
     replace hops := hops.trF flat_flat c72 (by intro k hx; simp only [List.mem_singleton] at hx; subst hx; exact nf_hops_b7)
     replace ht_lb63 := And.intro (Nat.lt_of_lt_of_le ht_lb63.1 c72.size) ((c72.block lb63 ht_lb63.1 (by intro hx; have hD := hA59; simp only [List.mem_cons, List.mem_nil_iff, or_false, Option.some.injEq, Addr.mk.injEq] at hx hD; omega)).trans ht_lb63.2)
     clear o66
     clear o67
     refine sq_nil <| then_n <| x_seq ?_
     obtain ⟨x74, hx75⟩ : ∃ zz, opsL[l]? = some zz := ⟨_, List.getElem?_eq_getElem (by first | assumption | omega)⟩
     obtain ⟨lb80, _, vs79, hA76, hR78, hC77⟩ := hops.at hx75
     obtain rfl : vs79 = [S x74] := hR78
     refine x_draw [(0, 0), (1, 0), (2, 0), (3, 0), (4, 0), (5, 0), (6, 1), (7, 0), (8, 0)] T.mixed rfl rfl rfl (fun W => W.heap[b2]? = w71.heap[b2]? ∧ W.heap[b7]? = w71.heap[b7]? ∧ W.heap[lb80]? = w71.heap[lb80]? ∧ True) ⟨rfl, rfl, rfl, trivial⟩ ?_
     have o83 := hb4
     have o84 := hb73
     have c82 := Chg.drew w71
     generalize World.drew w71 = w81 at c82 ⊢
     have ht_lb80 : lb80 < w81.heap.size ∧ w81.heap[lb80]? = w71.heap[lb80]? := ⟨Nat.lt_of_lt_of_le hC77.lt c82.size, c82.block lb80 hC77.lt (by simp)⟩
     replace HC := HC.then c82
     replace ht := ht.tr0 c82
     replace hb4 := hb4.tr0 c82
     replace hb8 := hb8.tr0 c82
     replace hops := hops.tr0 c82
     replace hb73 := hb73.tr0 c82
     refine sq_q rfl (fun W hT => r_loadA (vs := [_, _, _, _]) T.agg68 rfl (Blk.cells (n := 4) (vs := [_, _, _, _]) (show Blk W b7 _ _ from hT.2.1.trans o84) rfl) rfl) <| sq_q rfl (fun W hT => r_move (v := .slice _ _ _) rfl) <| sq_q rfl (fun W hT => r_move (v := .int _ _) rfl) <| sq_q rfl (fun W hT => r_indexAddr T.u92 T.size9 (congrArg (fun z => Value.slice z _ _) hA76) rfl (by omega) (by first | assumption | omega)) <| sq_q rfl (fun W hT => r_load1 (v := S _) T.one9 rfl (Cells.at (j := 0) (Cells.tr hC77 hT.2.2.1) rfl)) <| sq_q rfl (fun W hT => r_slen (ct := #[9]) T.u9 rfl) <| sq_store1 rfl T.size68 (v := .agg ⟨[.int _ _, .int _ _, S _, .int _ _]⟩) rfl rfl rfl hb8 rfl (Nat.le_of_ble_eq_true rfl) (by simp [Value.oneCell', S]) rfl ?_
     intro w85 c86 hb87; simp only [setVs, setV] at hb87
     clear hb8
     replace HC := HC.then1 c86 ge_b4
     replace ht := ht.tr c86 (by intro hx; have := ht.lt; have := ht1; simp only [List.mem_cons, List.mem_nil_iff, or_false] at hx; omega)
     replace hb4 := hb4.tr1 c86 ne_b2_b4
     replace hops := hops.trF flat_flat c86 (by intro k hx; simp only [List.mem_singleton] at hx; subst hx; exact nf_hops_b4)
     replace hb73 := hb73.tr1 c86 (Ne.symm ne_b4_b7)
     replace ht_lb80 := And.intro (Nat.lt_of_lt_of_le ht_lb80.1 c86.size) ((c86.block lb80 ht_lb80.1 (by intro hx; have hD := hA76; simp only [List.mem_cons, List.mem_nil_iff, or_false, Option.some.injEq, Addr.mk.injEq] at hx hD; omega)).trans ht_lb80.2)
     refine ⟨_, fun _ h => h, ⟨(Eq.trans hb4 o83.symm), (Eq.trans hb73 o84.symm), (by first | assumption | exact ht_lb80.2), trivial⟩, ?_⟩
     refine sq_q rfl (fun W hT => r_assign (v := .int _ _) rfl) <| sq_q rfl (fun W hT => r_assign (v := .int _ _) rfl) ?_
     clear o83
     clear o84
     refine sq_nil <| then_n <| x_ret <| ret_many (vs := [.agg ⟨[_, _, _, _]⟩, .int _ _, .int _ _]) rfl ⟨⟨_, _, rfl, run_loadVarA T.agg68 (hb87.cells (n := 4) rfl) rfl⟩, ⟨rfl, ⟨rfl, trivial⟩⟩⟩ (Nat.le_of_ble_eq_true rfl) <| ⟨?_, HC⟩
     rw [show nextV s = (((3, 0, opsL.getD l []), (opsL.getD l []).length, 0) : (Int × Int × Bytes) × Int × Int) by unfold nextV; rw [if_neg h0, if_neg (by rw [Bool.not_eq_true]; exact h1), if_neg (by omega), if_neg (by rw [hl]; omega), hl]; rfl]
     have hg : ∀ x, opsL[l]? = some x → x = opsL.getD l [] := fun x hx => by rw [List.getD_eq_getElem?_getD, hx]; rfl
     obtain rfl := hg _ hx58
     obtain rfl := hg _ hx75
     rfl

end Go.Proofs.YtmbbhgglllfelaaDoor.K
