import Derived.Test.YtmbbhgglllfelaaGreatDoorBa
import Derived.Test.YtmbbhgglllfelaaGreatDoorTy
import Derived.KernelRfl
import Derived.Test.YtmbbhgglllfelaaGreatDoorKitQ
set_option linter.unusedVariables false
set_option linter.unusedSimpArgs false
set_option autoImplicit false
set_option maxRecDepth 20000
namespace Go.Proofs.YtmbbhgglllfelaaGreatDoor.K
open Go Go.Proofs Go.RowKit

/-- The operators, the longest first. -/
def opsL : List Bytes := [[60, 60, 61], [62, 62, 61], [38, 38], [124, 124], [61, 61], [33, 61], [60, 61], [62, 61], [60, 60], [62, 62], [43, 61], [45, 61], [42, 61], [47, 61], [37, 61], [38, 61], [94, 61], [124, 61], [43], [45], [42], [47], [37], [60], [62], [38], [94], [124], [33], [126], [63], [58], [61], [40], [41]]
theorem fields_ops : Lib.fields [60, 60, 61, 32, 62, 62, 61, 32, 38, 38, 32, 124, 124, 32, 61, 61, 32, 33, 61, 32, 60, 61, 32, 62, 61, 32, 60, 60, 32, 62, 62, 32, 43, 61, 32, 45, 61, 32, 42, 61, 32, 47, 61, 32, 37, 61, 32, 38, 61, 32, 94, 61, 32, 124, 61, 32, 43, 32, 45, 32, 42, 32, 47, 32, 37, 32, 60, 32, 62, 32, 38, 32, 94, 32, 124, 32, 33, 32, 126, 32, 63, 32, 58, 32, 61, 32, 40, 32, 41] = opsL := by kernel_rfl

theorem operators_spec (w : World) (ht : Tab w) : CallR Tryz.prog 81 #[] w fun v w' => ∃ b, v = .slice (some ⟨b, 0, none⟩) opsL.length opsL.length ∧ w.heap.size ≤ b ∧ Sl sE w' (fun k => k = b) (some ⟨b, 0, none⟩) opsL ∧ Chg [] w w' := by
 refine callR_of_wp (args := []) Tryz.func81 rfl (Nat.le_of_ble_eq_true rfl) ?_
 have HC : Chg [] w w := .refl _
 refine sr rfl <| aL rfl <| en <| sr rfl <| Wp rfl <| st_call (ags := [_]) rfl rfl T.ent63 rfl (Fields_spec [60, 60, 61, 32, 62, 62, 61, 32, 38, 38, 32, 124, 124, 32, 61, 61, 32, 33, 61, 32, 60, 61, 32, 62, 61, 32, 60, 60, 32, 62, 62, 32, 43, 61, 32, 45, 61, 32, 42, 61, 32, 47, 61, 32, 37, 61, 32, 38, 61, 32, 94, 61, 32, 124, 61, 32, 43, 32, 45, 32, 42, 32, 47, 32, 37, 32, 60, 32, 62, 32, 38, 32, 94, 32, 124, 32, 33, 32, 126, 32, 63, 32, 58, 32, 61, 32, 40, 32, 41] w (by decide) (all128 _ rfl) ht) ?_
 rintro _ w1 ⟨b, rfl, hge, hsl, c2⟩
 replace HC := HC.then c2
 refine aL rfl <| en <| x_ret <| ret_tmp (v := .slice _ _ _) rfl rfl ?_
 rw [fields_ops] at hsl ⊢
 exact ⟨b, rfl, hge, hsl, HC⟩

theorem IndexFunc_spec {k : FuncId} {caps : Array Value} {q : Bytes → Bool} {w : World} {l : List Bytes} {Al : Option Addr} {capl : Nat} {D : Nat → Prop} (hl : Sl sE w D Al l) (hlen : l.length ≤ 9223372036854775807) (hent : ∀ args (w : World), (callFunc k args).run Tryz.prog w = .ok (.enter k args) w) (hp : ∀ c W, Chg [] w W → CallR Tryz.prog k ⟨S c :: caps.toList⟩ W fun v W' => v = .bool (q c) ∧ Chg [] W W') :
    CallR Tryz.prog 82 #[.slice Al l.length capl, .func (.func k) #[] caps] w fun v w' => v = .int .i64 (findN q 0 l) ∧ Chg [] w w' := by
 refine callR_of_wp (args := [_, _]) Tryz.func82 rfl (Nat.le_of_ble_eq_true rfl) ?_
 have HC : Chg [] w w := .refl _
 refine sr rfl <| aI rfl <| en <| x_seq <| sr rfl <| mL rfl <| Wp rfl <| st_len (ct := #[62]) (by rw [show ((#[62] : Array TypeId)[0]?).bind Tryz.prog.underlying = some (.slice 9) from T.u62]; rfl) rfl <| mI rfl <| en <| x_block <| x_loop (ι := Nat) [4, 5, 8, 9, 10, 11, 12, 13, 14, 15, 16, 17, 18] (fun i => [(8, .int .i64 (i : Int))]) (fun i W => (i ≤ l.length ∧ findN q 0 l = findN q i (l.drop i)) ∧ (Chg [] w W) ∧ (Sl sE W D Al l)) (fun i => l.length - i) 0 ?_ ?_ ?_
 · exact ⟨rfl, trivial⟩
 ·refine ⟨?_, HC, hl⟩
  exact ⟨Nat.zero_le _, by simp⟩
 intro i G2 w1 ⟨⟨hi, hr⟩, HC, hl⟩
 change wp _ _ _ _ _ (upds (over _ _ G2) [(8, .int .i64 (i : Int))]) _ _
 refine sr rfl <| Wp rfl <| st_lss rfl rfl <| en <| x_seq <| x_cond rfl (fun h0 => ?_) (fun h0 => ?_)
 ·try simp only [nm, ne_eq] at h0
  refine x_skip <| then_n <| x_seq <| x_block <| sr rfl <| mI rfl <| aI rfl <| en <| sr rfl <| mv (v := .func _ _ _) rfl <| mL rfl <| mI rfl ?_
  obtain ⟨x3, hx4⟩ : ∃ zz, l[i]? = some zz := ⟨_, List.getElem?_eq_getElem (by omega)⟩
  obtain ⟨lb9, _, vs8, hA5, hR7, hC6⟩ := hl.at hx4
  obtain rfl : vs8 = [S x3] := hR7
  refine Wp rfl <| st_indexAddr T.u62 T.size9 (congrArg (fun z => Value.slice z _ _) hA5) rfl (by omega) (by omega) <| lS T.one9 rfl (hC6.at (j := 0) rfl) <| Wp rfl <| st_call (f := k) (cap := caps) (ags := S _ :: caps.toList) rfl rfl hent rfl (hp _ _ HC) ?_
  rintro _ w10 ⟨rfl, c11⟩
  replace HC := HC.then c11
  replace hl := hl.tr0 c11
  refine en <| x_cond rfl (fun h1 => ?_) (fun h1 => ?_)
  ·try simp only [nm, ne_eq] at h1
   refine sr rfl <| mI rfl <| aI rfl <| en <| x_ret <| block_r <| then_r <| then_r <| block_r <| then_r <| ret_tmp (v := .int _ _) rfl rfl <| ⟨?_, HC⟩
   rw [hr, findN_off hx4 h1]
  ·try simp only [nm, ne_eq] at h1
   refine x_skip <| block_n <| then_n <| x_region rfl <| Wp rfl <| st_addn rfl rfl (by constructor <;> omega) <| mI rfl <| en <| ⟨i + 1, ?_, ?_, rfl, ⟨rfl, trivial⟩, ?_⟩
   ·refine ⟨?_, HC, hl⟩
    exact ⟨by omega, by rw [hr, findN_on hx4 h1]⟩
   ·show l.length - (i + 1) < l.length - i; omega
   repeat (first | exact agree_upds agree_over rfl | refine agree_upd ?_ rfl | refine agree_upds ?_ rfl | refine agree_over_sub ?_ rfl)
 ·try simp only [nm, ne_eq] at h0
  refine x_exit <| then_x <| then_x <| block_x <| then_n <| sr rfl <| aI rfl <| en <| x_ret <| ret_tmp (v := .int _ _) rfl rfl <| ⟨?_, HC⟩
  rw [hr, findN_end (by omega)]

theorem next1_spec {bs : Nat} {s : Bytes} {w : World} (o : Bytes) (hb : Blk w bs [S s] 9) : CallR Tryz.prog 83 #[S o, .pointer (some ⟨bs, 0, none⟩)] w fun v w' => v = .bool (Lib.hasPrefix s o) ∧ Chg [] w w' := by
 refine callR_of_wp (args := [_, _]) Tryz.func83 rfl (Nat.le_of_ble_eq_true rfl) ?_
 have HC : Chg [] w w := .refl _
 refine sr rfl <| aB rfl <| en <| sr rfl <| lS T.one9 rfl (hb.cell rfl) <| mS rfl <| Wp rfl <| st_call (ags := [_, _]) rfl rfl T.ent84 rfl (HasPrefix_spec _ _ _) ?_
 rintro _ w1 ⟨rfl, c2⟩
 replace HC := HC.then c2
 replace hb := hb.tr0 c2
 refine aB rfl <| en <| x_ret <| ret_tmp (v := .bool _) rfl rfl ?_
 exact ⟨rfl, HC⟩

end Go.Proofs.YtmbbhgglllfelaaGreatDoor.K
set_option linter.unusedVariables false
set_option linter.unusedSimpArgs false
set_option autoImplicit false
set_option maxRecDepth 20000
namespace Go.Proofs.YtmbbhgglllfelaaGreatDoor.K
open Go Go.Proofs Go.RowKit

/-- A token's cells. -/
def tokC (x : Int × Int × Bytes) (a : Int) : List Value := [.int .i64 x.1, .int .i64 x.2.1, S x.2.2, .int .i64 a]
/-- The next token, how long it is, and what is wrong. -/
def nextV (s : Bytes) : (Int × Int × Bytes) × Int × Int :=
  if s = [] then ((0, 0, []), 0, 0)
  else if digB (byte s 0) = true then
    if (constV (s.take (runN wordB s))).2 = true then ((1, (constV (s.take (runN wordB s))).1, []), runN wordB s, 0) else ((0, 0, []), 0, 102)
  else if 0 < runN wordB s then ((2, 0, s.take (runN wordB s)), runN wordB s, 0)
  else if findN (Lib.hasPrefix s) 0 opsL < 0 then ((0, 0, []), 0, 101)
  else ((3, 0, opsL.getD (findN (Lib.hasPrefix s) 0 opsL).toNat []), (opsL.getD (findN (Lib.hasPrefix s) 0 opsL).toNat []).length, 0)

theorem findN_lt {q : Bytes → Bool} : ∀ (l : List Bytes) (i : Nat), findN q i l < i + l.length
  | [], i => by simp only [findN, List.length_nil]; omega
  | x :: l, i => by
    have := findN_lt (q := q) l (i + 1)
    simp only [findN, List.length_cons]; split <;> omega

theorem next_spec (s : Bytes) (a : Int) (w : World) (hs : s.length ≤ 9223372036854775807) (ht : Tab w) : CallR Tryz.prog 61 #[S s, .int .i64 a] w fun v w' => v = .tuple ⟨[.agg ⟨tokC (nextV s).1 a⟩, .int .i64 (nextV s).2.1, .int .i64 (nextV s).2.2]⟩ ∧ Chg [] w w' := by
 refine callR_of_wp (args := [_, _]) Tryz.func61 rfl (Nat.le_of_ble_eq_true rfl) ?_
 have HC : Chg [] w w := .refl _
 have ht1 := ht.lt
 refine sr rfl <| Wp rfl <| st_box (v := S _) (vs := [_]) rfl rfl ?_
 intro b2 w1 e2 c3 hb4
 have ge_b2 : w.heap.size ≤ b2 := by rw [e2]; exact HC.size
 replace HC := HC.then c3
 replace ht := ht.tr0 c3
 clear e2
 refine Wp rfl <| st_alloc T.zero60 ?_
 intro b4 w5 e6 c7 hb8
 have ge_b4 : w.heap.size ≤ b4 := by rw [e6]; exact HC.size
 have ne_b2_b4 : b2 ≠ b4 := by rw [e6]; exact hb4.ne_size
 replace HC := HC.then c7
 replace ht := ht.tr0 c7
 replace hb4 := hb4.tr0 c7
 clear e6
 refine aI rfl <| aI rfl <| en <| sr rfl <| mI rfl <| Wp rfl <| st_bld (ps := [(3, .tmp 13)]) (vs := [.int _ _, .int _ _, S _, .int _ _]) T.bld60 rfl <| Wp rfl <| st_alloc T.zero60 ?_
 intro b7 w9 e10 c11 hb12
 have ge_b7 : w.heap.size ≤ b7 := by rw [e10]; exact HC.size
 have ne_b2_b7 : b2 ≠ b7 := by rw [e10]; exact hb4.ne_size
 have ne_b4_b7 : b4 ≠ b7 := by rw [e10]; exact hb8.ne_size
 replace HC := HC.then c11
 replace ht := ht.tr0 c11
 replace hb4 := hb4.tr0 c11
 replace hb8 := hb8.tr0 c11
 clear e10
 refine Wp rfl <| st_store (v := .agg ⟨[.int _ _, .int _ _, S _, .int _ _]⟩) T.size60 rfl rfl rfl hb12 rfl (Nat.le_of_ble_eq_true rfl) (by simp [Value.oneCell', S]) rfl ?_
 intro w13 c14 hb15; simp only [setVs, setV] at hb15
 clear hb12
 replace HC := HC.then1 c14 ge_b7
 replace ht := ht.tr c14 (by intro hx; have := ht.lt; have := ht1; simp only [List.mem_cons, List.mem_nil_iff, or_false] at hx; omega)
 replace hb4 := hb4.tr1 c14 ne_b2_b7
 replace hb8 := hb8.tr1 c14 ne_b4_b7
 refine en <| x_seq <| sr rfl <| lS T.one9 rfl (hb4.cell rfl) <| Wp rfl <| st_seql rfl rfl <| en <| x_cond rfl (fun h0 => ?_) (fun h0 => ?_)
 ·try simp only [nm, ne_eq] at h0
  refine sr rfl <| Wp rfl <| st_loadA (vs := [_, _, _, _]) T.agg60 rfl (hb15.cells (n := 4) (vs := [_, _, _, _]) rfl) rfl <| Wp rfl <| st_store (v := .agg ⟨[.int _ _, .int _ _, S _, .int _ _]⟩) T.size60 rfl rfl rfl hb8 rfl (Nat.le_of_ble_eq_true rfl) (by simp [Value.oneCell', S]) rfl ?_
  intro w16 c17 hb18; simp only [setVs, setV] at hb18
  clear hb8
  replace HC := HC.then1 c17 ge_b4
  replace ht := ht.tr c17 (by intro hx; have := ht.lt; have := ht1; simp only [List.mem_cons, List.mem_nil_iff, or_false] at hx; omega)
  replace hb4 := hb4.tr1 c17 ne_b2_b4
  replace hb15 := hb15.tr1 c17 (Ne.symm ne_b4_b7)
  refine aI rfl <| aI rfl <| en <| x_ret <| then_r <| ret_many (vs := [.agg ⟨[_, _, _, _]⟩, .int _ _, .int _ _]) rfl ⟨⟨_, _, rfl, run_loadVarA T.agg60 (hb18.cells (n := 4) rfl) rfl⟩, ⟨rfl, ⟨rfl, trivial⟩⟩⟩ (Nat.le_of_ble_eq_true rfl) <| ⟨?_, HC⟩
  rw [show nextV s = ((0, 0, []), 0, 0) by unfold nextV; rw [if_pos (by assumption)]]; rfl
 ·try simp only [nm, ne_eq] at h0
  have hs0 : 0 < s.length := List.length_pos_iff.2 (by assumption)
  refine x_skip <| then_n <| sr rfl <| lS T.one9 rfl (hb4.cell rfl) <| Wp rfl <| st_call (ags := [_, _]) rfl rfl T.ent59 rfl (run_spec (k := 79) (caps := #[]) _ (by first | assumption | (simp only [List.length_take, List.length_drop]; omega)) T.ent79 (fun c W _ => a_word c W)) ?_
  rintro _ w19 ⟨rfl, c20⟩
  replace HC := HC.then c20
  replace ht := ht.tr0 c20
  replace hb4 := hb4.tr0 c20
  replace hb8 := hb8.tr0 c20
  replace hb15 := hb15.tr0 c20
  have hrl := runN_le wordB s
  refine aI rfl <| en <| x_seq <| x_block <| sr rfl <| lS T.one9 rfl (hb4.cell rfl) <| Wp rfl <| st_sidx T.u9 rfl rfl (by omega) (by omega) <| Wp rfl <| st_call (ags := [_]) rfl rfl T.ent80 rfl (c_digit _ _) ?_
  rintro _ w21 ⟨rfl, c22⟩
  replace HC := HC.then c22
  replace ht := ht.tr0 c22
  replace hb4 := hb4.tr0 c22
  replace hb8 := hb8.tr0 c22
  replace hb15 := hb15.tr0 c22
  refine aB rfl <| en <| x_cond rfl (fun h1 => ?_) (fun h1 => ?_)
  ·try simp only [nm, ne_eq] at h1
   refine sr rfl <| lS T.one9 rfl (hb4.cell rfl) <| mI rfl <| Wp rfl <| st_sslice (i := _) (j := _) T.u9 rfl (by rfl) ⟨_, rfl⟩ (by omega) (by omega) <| Wp rfl <| st_call (ags := [_]) rfl rfl T.ent71 rfl (Constant_spec (List.drop 0 (List.take (runN wordB s) s)) _ (by simp only [List.length_take, List.length_drop]; omega)) ?_
   rintro _ w23 ⟨rfl, c24⟩
   replace HC := HC.then c24
   replace ht := ht.tr0 c24
   replace hb4 := hb4.tr0 c24
   replace hb8 := hb8.tr0 c24
   replace hb15 := hb15.tr0 c24
   refine mv (v := .tuple ⟨[_, _]⟩) rfl <| Wp rfl <| st_extract (vs := [_, _]) (v := .int _ _) rfl rfl <| Wp rfl <| st_extract (vs := [_, _]) (v := .bool _) rfl rfl <| aI rfl <| aB rfl <| en <| x_seq <| sr rfl <| mB rfl <| Wp rfl <| st_not rfl <| en <| x_cond rfl (fun h2 => ?_) (fun h2 => ?_)
   ·try simp only [nm, ne_eq] at h2
    refine sr rfl <| Wp rfl <| st_loadA (vs := [_, _, _, _]) T.agg60 rfl (hb15.cells (n := 4) (vs := [_, _, _, _]) rfl) rfl <| Wp rfl <| st_store (v := .agg ⟨[.int _ _, .int _ _, S _, .int _ _]⟩) T.size60 rfl rfl rfl hb8 rfl (Nat.le_of_ble_eq_true rfl) (by simp [Value.oneCell', S]) rfl ?_
    intro w25 c26 hb27; simp only [setVs, setV] at hb27
    clear hb8
    replace HC := HC.then1 c26 ge_b4
    replace ht := ht.tr c26 (by intro hx; have := ht.lt; have := ht1; simp only [List.mem_cons, List.mem_nil_iff, or_false] at hx; omega)
    replace hb4 := hb4.tr1 c26 ne_b2_b4
    replace hb15 := hb15.tr1 c26 (Ne.symm ne_b4_b7)
    refine aI rfl <| aI rfl <| en <| x_ret <| then_r <| block_r <| then_r <| ret_many (vs := [.agg ⟨[_, _, _, _]⟩, .int _ _, .int _ _]) rfl ⟨⟨_, _, rfl, run_loadVarA T.agg60 (hb27.cells (n := 4) rfl) rfl⟩, ⟨rfl, ⟨rfl, trivial⟩⟩⟩ (Nat.le_of_ble_eq_true rfl) <| ⟨?_, HC⟩
    (try simp only [List.drop_zero] at *); rw [show nextV s = (((0, 0, []), 0, 102) : (Int × Int × Bytes) × Int × Int) by unfold nextV; rw [if_neg h0, if_pos h1, if_neg (by rw [Bool.not_eq_true]; exact h2)]]; rfl
   ·try simp only [nm, ne_eq] at h2
    refine x_skip <| then_n <| sr rfl <| mI rfl <| fa T.fld60_0 rfl <| Wp rfl <| st_store (v := .int _ _) T.size3 rfl rfl rfl hb15 rfl (Nat.le_of_ble_eq_true rfl) (by simp [Value.oneCell', S]) rfl ?_
    intro w28 c29 hb30; simp only [setVs, setV] at hb30
    clear hb15
    replace HC := HC.then1 c29 ge_b7
    replace ht := ht.tr c29 (by intro hx; have := ht.lt; have := ht1; simp only [List.mem_cons, List.mem_nil_iff, or_false] at hx; omega)
    replace hb4 := hb4.tr1 c29 ne_b2_b7
    replace hb8 := hb8.tr1 c29 ne_b4_b7
    refine fa T.fld60_1 rfl <| Wp rfl <| st_store (v := .int _ _) T.size2 rfl rfl rfl hb30 rfl (Nat.le_of_ble_eq_true rfl) (by simp [Value.oneCell', S]) rfl ?_
    intro w31 c32 hb33; simp only [setVs, setV] at hb33
    clear hb30
    replace HC := HC.then1 c32 ge_b7
    replace ht := ht.tr c32 (by intro hx; have := ht.lt; have := ht1; simp only [List.mem_cons, List.mem_nil_iff, or_false] at hx; omega)
    replace hb4 := hb4.tr1 c32 ne_b2_b7
    replace hb8 := hb8.tr1 c32 ne_b4_b7
    refine en <| sr rfl <| Wp rfl <| st_loadA (vs := [_, _, _, _]) T.agg60 rfl (hb33.cells (n := 4) (vs := [_, _, _, _]) rfl) rfl <| mI rfl <| Wp rfl <| st_store (v := .agg ⟨[.int _ _, .int _ _, S _, .int _ _]⟩) T.size60 rfl rfl rfl hb8 rfl (Nat.le_of_ble_eq_true rfl) (by simp [Value.oneCell', S]) rfl ?_
    intro w34 c35 hb36; simp only [setVs, setV] at hb36
    clear hb8
    replace HC := HC.then1 c35 ge_b4
    replace ht := ht.tr c35 (by intro hx; have := ht.lt; have := ht1; simp only [List.mem_cons, List.mem_nil_iff, or_false] at hx; omega)
    replace hb4 := hb4.tr1 c35 ne_b2_b4
    replace hb33 := hb33.tr1 c35 (Ne.symm ne_b4_b7)
    refine aI rfl <| aI rfl <| en <| x_ret <| block_r <| then_r <| ret_many (vs := [.agg ⟨[_, _, _, _]⟩, .int _ _, .int _ _]) rfl ⟨⟨_, _, rfl, run_loadVarA T.agg60 (hb36.cells (n := 4) rfl) rfl⟩, ⟨rfl, ⟨rfl, trivial⟩⟩⟩ (Nat.le_of_ble_eq_true rfl) <| ⟨?_, HC⟩
    (try simp only [List.drop_zero] at *); rw [show nextV s = (((1, (constV (s.take (runN wordB s))).1, []), runN wordB s, 0) : (Int × Int × Bytes) × Int × Int) by unfold nextV; rw [if_neg h0, if_pos h1, if_pos h2]]; rfl
  ·try simp only [nm, ne_eq] at h1
   refine sr rfl <| mI rfl <| Wp rfl <| st_gtr rfl rfl <| aB rfl <| en <| x_cond rfl (fun h3 => ?_) (fun h3 => ?_)
   ·try simp only [nm, ne_eq] at h3
    refine x_seq <| x_draw [(0, 0), (1, 0), (2, 0), (3, 0), (4, 1), (5, 0), (6, 2)] T.mixed rfl rfl rfl (fun W => W.heap[b2]? = w21.heap[b2]? ∧ W.heap[b4]? = w21.heap[b4]? ∧ True) ⟨rfl, rfl, trivial⟩ ?_
    have o39 := hb4
    have o40 := hb8
    have c38 := Chg.drew w21
    generalize World.drew w21 = w37 at c38 ⊢
    replace HC := HC.then c38
    replace ht := ht.tr0 c38
    replace hb4 := hb4.tr0 c38
    replace hb8 := hb8.tr0 c38
    replace hb15 := hb15.tr0 c38
    refine sq_q rfl (fun W hT => r_load1 (v := S _) T.one9 rfl (Blk.cell (show Blk W b2 _ _ from hT.1.trans o39) rfl)) <| sq_q rfl (fun W hT => r_move (v := .int _ _) rfl) <| sq_q rfl (fun W hT => r_sslice (i := _) (j := _) T.u9 rfl (by rfl) ⟨_, rfl⟩ (by omega) (by omega)) <| sq_q rfl (fun W hT => r_fieldAddr T.fld60_0 rfl) <| sq_store1 rfl T.size3 (v := .int _ _) rfl rfl rfl hb15 rfl (Nat.le_of_ble_eq_true rfl) (by simp [Value.oneCell', S]) rfl ?_
    intro w41 c42 hb43; simp only [setVs, setV] at hb43
    clear hb15
    replace HC := HC.then1 c42 ge_b7
    replace ht := ht.tr c42 (by intro hx; have := ht.lt; have := ht1; simp only [List.mem_cons, List.mem_nil_iff, or_false] at hx; omega)
    replace hb4 := hb4.tr1 c42 ne_b2_b7
    replace hb8 := hb8.tr1 c42 ne_b4_b7
    refine ⟨_, fun _ h => h, ⟨(Eq.trans hb4 o39.symm), (Eq.trans hb8 o40.symm), trivial⟩, ?_⟩
    refine sq_q rfl (fun W hT => r_fieldAddr T.fld60_2 rfl) <| sq_store2 rfl T.size9 (v := S _) rfl rfl rfl hb43 rfl (Nat.le_of_ble_eq_true rfl) (by simp [Value.oneCell', S]) rfl ?_
    intro w44 c45 hb46; simp only [setVs, setV] at hb46
    clear hb43
    replace HC := HC.then1 c45 ge_b7
    replace ht := ht.tr c45 (by intro hx; have := ht.lt; have := ht1; simp only [List.mem_cons, List.mem_nil_iff, or_false] at hx; omega)
    replace hb4 := hb4.tr1 c45 ne_b2_b7
    replace hb8 := hb8.tr1 c45 ne_b4_b7
    clear o39
    clear o40
    refine sq_nil <| then_n <| sr rfl <| Wp rfl <| st_loadA (vs := [_, _, _, _]) T.agg60 rfl (hb46.cells (n := 4) (vs := [_, _, _, _]) rfl) rfl <| mI rfl <| Wp rfl <| st_store (v := .agg ⟨[.int _ _, .int _ _, S _, .int _ _]⟩) T.size60 rfl rfl rfl hb8 rfl (Nat.le_of_ble_eq_true rfl) (by simp [Value.oneCell', S]) rfl ?_
    intro w47 c48 hb49; simp only [setVs, setV] at hb49
    clear hb8
    replace HC := HC.then1 c48 ge_b4
    replace ht := ht.tr c48 (by intro hx; have := ht.lt; have := ht1; simp only [List.mem_cons, List.mem_nil_iff, or_false] at hx; omega)
    replace hb4 := hb4.tr1 c48 ne_b2_b4
    replace hb46 := hb46.tr1 c48 (Ne.symm ne_b4_b7)
    refine aI rfl <| aI rfl <| en <| x_ret <| block_r <| then_r <| ret_many (vs := [.agg ⟨[_, _, _, _]⟩, .int _ _, .int _ _]) rfl ⟨⟨_, _, rfl, run_loadVarA T.agg60 (hb49.cells (n := 4) rfl) rfl⟩, ⟨rfl, ⟨rfl, trivial⟩⟩⟩ (Nat.le_of_ble_eq_true rfl) <| ⟨?_, HC⟩
    (try simp only [List.drop_zero] at *); rw [show nextV s = (((2, 0, s.take (runN wordB s)), runN wordB s, 0) : (Int × Int × Bytes) × Int × Int) by unfold nextV; rw [if_neg h0, if_neg (by rw [Bool.not_eq_true]; exact h1), if_pos (by omega)]]; rfl
   ·try simp only [nm, ne_eq] at h3
    refine x_skip <| block_n <| then_n <| sr rfl <| Wp rfl <| st_call (ags := []) rfl rfl T.ent81 rfl (operators_spec _ ht) ?_
    rintro _ w50 ⟨bo, rfl, hge, hops, c51⟩
    have lt_b2 := hb4.lt
    have lt_b4 := hb8.lt
    have lt_b7 := hb15.lt
    have nf_hops_b2 : opsL = [] ∨ b2 ∉ ob (some ⟨bo, 0, none⟩) := .inr (fun hx => by have := hb4.lt; simp [ob] at hx; omega)
    have nf_hops_b4 : opsL = [] ∨ b4 ∉ ob (some ⟨bo, 0, none⟩) := .inr (fun hx => by have := hb8.lt; simp [ob] at hx; omega)
    have nf_hops_b7 : opsL = [] ∨ b7 ∉ ob (some ⟨bo, 0, none⟩) := .inr (fun hx => by have := hb15.lt; simp [ob] at hx; omega)
    replace HC := HC.then c51
    replace ht := ht.tr0 c51
    replace hb4 := hb4.tr0 c51
    replace hb8 := hb8.tr0 c51
    replace hb15 := hb15.tr0 c51
    refine aL rfl <| en <| sr rfl <| mL rfl <| Wp rfl <| st_makeFunc <| Wp rfl <| st_call (ags := [_, _]) rfl rfl T.ent82 rfl (IndexFunc_spec (q := Lib.hasPrefix s) hops (by decide) T.ent83 (fun c W hW => next1_spec c (hb4.tr0 hW))) ?_
    rintro _ w52 ⟨rfl, c53⟩
    replace HC := HC.then c53
    replace ht := ht.tr0 c53
    replace hb4 := hb4.tr0 c53
    replace hb8 := hb8.tr0 c53
    replace hb15 := hb15.tr0 c53
    replace hops := hops.tr0 c53
    refine aI rfl <| en <| x_seq <| sr rfl <| mI rfl <| Wp rfl <| st_lss rfl rfl <| en <| x_cond rfl (fun h4 => ?_) (fun h4 => ?_)
    ·try simp only [nm, ne_eq] at h4
     refine sr rfl <| Wp rfl <| st_loadA (vs := [_, _, _, _]) T.agg60 rfl (hb15.cells (n := 4) (vs := [_, _, _, _]) rfl) rfl <| Wp rfl <| st_store (v := .agg ⟨[.int _ _, .int _ _, S _, .int _ _]⟩) T.size60 rfl rfl rfl hb8 rfl (Nat.le_of_ble_eq_true rfl) (by simp [Value.oneCell', S]) rfl ?_
     intro w54 c55 hb56; simp only [setVs, setV] at hb56
     clear hb8
     replace HC := HC.then1 c55 ge_b4
     replace ht := ht.tr c55 (by intro hx; have := ht.lt; have := ht1; simp only [List.mem_cons, List.mem_nil_iff, or_false] at hx; omega)
     replace hb4 := hb4.tr1 c55 ne_b2_b4
     replace hb15 := hb15.tr1 c55 (Ne.symm ne_b4_b7)
     replace hops := hops.trF flat_flat c55 (by intro k hx; simp only [List.mem_singleton] at hx; subst hx; exact nf_hops_b4)
     refine aI rfl <| aI rfl <| en <| x_ret <| then_r <| ret_many (vs := [.agg ⟨[_, _, _, _]⟩, .int _ _, .int _ _]) rfl ⟨⟨_, _, rfl, run_loadVarA T.agg60 (hb56.cells (n := 4) rfl) rfl⟩, ⟨rfl, ⟨rfl, trivial⟩⟩⟩ (Nat.le_of_ble_eq_true rfl) <| ⟨?_, HC⟩
     (try simp only [List.drop_zero] at *); rw [show nextV s = (((0, 0, []), 0, 101) : (Int × Int × Bytes) × Int × Int) by unfold nextV; rw [if_neg h0, if_neg (by rw [Bool.not_eq_true]; exact h1), if_neg (by omega), if_pos h4]]; rfl
    ·try simp only [nm, ne_eq] at h4
     obtain ⟨l, hl⟩ : ∃ l : Nat, findN (Lib.hasPrefix s) 0 opsL = l := ⟨_, (Int.toNat_of_nonneg (by omega)).symm⟩
     have hlt : l < opsL.length := by have := findN_lt (q := Lib.hasPrefix s) opsL 0; omega
     rw [hl]
     refine x_skip <| then_n <| x_seq ?_
     obtain ⟨x57, hx58⟩ : ∃ zz, opsL[l]? = some zz := ⟨_, List.getElem?_eq_getElem (by first | assumption | omega)⟩
     obtain ⟨lb63, _, vs62, hA59, hR61, hC60⟩ := hops.at hx58
     obtain rfl : vs62 = [S x57] := hR61
     refine x_draw [(0, 0), (1, 0), (2, 0), (3, 0), (4, 0), (5, 1), (6, 0), (7, 2)] T.mixed rfl rfl rfl (fun W => W.heap[b2]? = w52.heap[b2]? ∧ W.heap[b4]? = w52.heap[b4]? ∧ W.heap[lb63]? = w52.heap[lb63]? ∧ True) ⟨rfl, rfl, rfl, trivial⟩ ?_
     have o66 := hb4
     have o67 := hb8
     have c65 := Chg.drew w52
     generalize World.drew w52 = w64 at c65 ⊢
     have ht_lb63 : lb63 < w64.heap.size ∧ w64.heap[lb63]? = w52.heap[lb63]? := ⟨Nat.lt_of_lt_of_le hC60.lt c65.size, c65.block lb63 hC60.lt (by simp)⟩
     replace HC := HC.then c65
     replace ht := ht.tr0 c65
     replace hb4 := hb4.tr0 c65
     replace hb8 := hb8.tr0 c65
     replace hb15 := hb15.tr0 c65
     replace hops := hops.tr0 c65
     refine sq_q rfl (fun W hT => r_move (v := .slice _ _ _) rfl) <| sq_q rfl (fun W hT => r_move (v := .int _ _) rfl) <| sq_q rfl (fun W hT => r_indexAddr T.u62 T.size9 (congrArg (fun z => Value.slice z _ _) hA59) rfl (by omega) (by first | assumption | omega)) <| sq_q rfl (fun W hT => r_load1 (v := S _) T.one9 rfl (Cells.at (j := 0) (Cells.tr hC60 hT.2.2.1) rfl)) <| sq_q rfl (fun W hT => r_fieldAddr T.fld60_0 rfl) <| sq_store1 rfl T.size3 (v := .int _ _) rfl rfl rfl hb15 rfl (Nat.le_of_ble_eq_true rfl) (by simp [Value.oneCell', S]) rfl ?_
     intro w68 c69 hb70; simp only [setVs, setV] at hb70
     clear hb15
     replace HC := HC.then1 c69 ge_b7
     replace ht := ht.tr c69 (by intro hx; have := ht.lt; have := ht1; simp only [List.mem_cons, List.mem_nil_iff, or_false] at hx; omega)
     replace hb4 := hb4.tr1 c69 ne_b2_b7
     replace hb8 := hb8.tr1 c69 ne_b4_b7
     replace hops := hops.trF flat_flat c69 (by intro k hx; simp only [List.mem_singleton] at hx; subst hx; exact nf_hops_b7)
     replace ht_lb63 := And.intro (Nat.lt_of_lt_of_le ht_lb63.1 c69.size) ((c69.block lb63 ht_lb63.1 (by intro hx; have hD := hA59; simp only [List.mem_cons, List.mem_nil_iff, or_false, Option.some.injEq, Addr.mk.injEq] at hx hD; omega)).trans ht_lb63.2)
     refine ⟨_, fun _ h => h, ⟨(Eq.trans hb4 o66.symm), (Eq.trans hb8 o67.symm), (by first | assumption | exact ht_lb63.2), trivial⟩, ?_⟩
     refine sq_q rfl (fun W hT => r_fieldAddr T.fld60_2 rfl) <| sq_store2 rfl T.size9 (v := S _) rfl rfl rfl hb70 rfl (Nat.le_of_ble_eq_true rfl) (by simp [Value.oneCell', S]) rfl ?_
     intro w71 c72 hb73; simp only [setVs, setV] at hb73
     clear hb70
     replace HC := HC.then1 c72 ge_b7
     replace ht := ht.tr c72 (by intro hx; have := ht.lt; have := ht1; simp only [List.mem_cons, List.mem_nil_iff, or_false] at hx; omega)
     replace hb4 := hb4.tr1 c72 ne_b2_b7
     replace hb8 := hb8.tr1 c72 ne_b4_b7
     replace hops := hops.trF flat_flat c72 (by intro k hx; simp only [List.mem_singleton] at hx; subst hx; exact nf_hops_b7)
     replace ht_lb63 := And.intro (Nat.lt_of_lt_of_le ht_lb63.1 c72.size) ((c72.block lb63 ht_lb63.1 (by intro hx; have hD := hA59; simp only [List.mem_cons, List.mem_nil_iff, or_false, Option.some.injEq, Addr.mk.injEq] at hx hD; omega)).trans ht_lb63.2)
     clear o66
     clear o67
     refine sq_nil <| then_n <| x_seq ?_
     obtain ⟨x74, hx75⟩ : ∃ zz, opsL[l]? = some zz := ⟨_, List.getElem?_eq_getElem (by first | assumption | omega)⟩
     obtain ⟨lb80, _, vs79, hA76, hR78, hC77⟩ := hops.at hx75
     obtain rfl : vs79 = [S x74] := hR78
     refine x_draw [(0, 0), (1, 0), (2, 0), (3, 0), (4, 0), (5, 0), (6, 1), (7, 0), (8, 0)] T.mixed rfl rfl rfl (fun W => W.heap[b2]? = w71.heap[b2]? ∧ W.heap[b7]? = w71.heap[b7]? ∧ W.heap[lb80]? = w71.heap[lb80]? ∧ True) ⟨rfl, rfl, rfl, trivial⟩ ?_
     have o83 := hb4
     have o84 := hb73
     have c82 := Chg.drew w71
     generalize World.drew w71 = w81 at c82 ⊢
     have ht_lb80 : lb80 < w81.heap.size ∧ w81.heap[lb80]? = w71.heap[lb80]? := ⟨Nat.lt_of_lt_of_le hC77.lt c82.size, c82.block lb80 hC77.lt (by simp)⟩
     replace HC := HC.then c82
     replace ht := ht.tr0 c82
     replace hb4 := hb4.tr0 c82
     replace hb8 := hb8.tr0 c82
     replace hops := hops.tr0 c82
     replace hb73 := hb73.tr0 c82
     refine sq_q rfl (fun W hT => r_loadA (vs := [_, _, _, _]) T.agg60 rfl (Blk.cells (n := 4) (vs := [_, _, _, _]) (show Blk W b7 _ _ from hT.2.1.trans o84) rfl) rfl) <| sq_q rfl (fun W hT => r_move (v := .slice _ _ _) rfl) <| sq_q rfl (fun W hT => r_move (v := .int _ _) rfl) <| sq_q rfl (fun W hT => r_indexAddr T.u62 T.size9 (congrArg (fun z => Value.slice z _ _) hA76) rfl (by omega) (by first | assumption | omega)) <| sq_q rfl (fun W hT => r_load1 (v := S _) T.one9 rfl (Cells.at (j := 0) (Cells.tr hC77 hT.2.2.1) rfl)) <| sq_q rfl (fun W hT => r_slen (ct := #[9]) T.u9 rfl) <| sq_store1 rfl T.size60 (v := .agg ⟨[.int _ _, .int _ _, S _, .int _ _]⟩) rfl rfl rfl hb8 rfl (Nat.le_of_ble_eq_true rfl) (by simp [Value.oneCell', S]) rfl ?_
     intro w85 c86 hb87; simp only [setVs, setV] at hb87
     clear hb8
     replace HC := HC.then1 c86 ge_b4
     replace ht := ht.tr c86 (by intro hx; have := ht.lt; have := ht1; simp only [List.mem_cons, List.mem_nil_iff, or_false] at hx; omega)
     replace hb4 := hb4.tr1 c86 ne_b2_b4
     replace hops := hops.trF flat_flat c86 (by intro k hx; simp only [List.mem_singleton] at hx; subst hx; exact nf_hops_b4)
     replace hb73 := hb73.tr1 c86 (Ne.symm ne_b4_b7)
     replace ht_lb80 := And.intro (Nat.lt_of_lt_of_le ht_lb80.1 c86.size) ((c86.block lb80 ht_lb80.1 (by intro hx; have hD := hA76; simp only [List.mem_cons, List.mem_nil_iff, or_false, Option.some.injEq, Addr.mk.injEq] at hx hD; omega)).trans ht_lb80.2)
     refine ⟨_, fun _ h => h, ⟨(Eq.trans hb4 o83.symm), (Eq.trans hb73 o84.symm), (by first | assumption | exact ht_lb80.2), trivial⟩, ?_⟩
     refine sq_q rfl (fun W hT => r_assign (v := .int _ _) rfl) <| sq_q rfl (fun W hT => r_assign (v := .int _ _) rfl) ?_
     clear o83
     clear o84
     refine sq_nil <| then_n <| x_ret <| ret_many (vs := [.agg ⟨[_, _, _, _]⟩, .int _ _, .int _ _]) rfl ⟨⟨_, _, rfl, run_loadVarA T.agg60 (hb87.cells (n := 4) rfl) rfl⟩, ⟨rfl, ⟨rfl, trivial⟩⟩⟩ (Nat.le_of_ble_eq_true rfl) <| ⟨?_, HC⟩
     rw [show nextV s = (((3, 0, opsL.getD l []), (opsL.getD l []).length, 0) : (Int × Int × Bytes) × Int × Int) by unfold nextV; rw [if_neg h0, if_neg (by rw [Bool.not_eq_true]; exact h1), if_neg (by omega), if_neg (by rw [hl]; omega), hl]; rfl]
     have hg : ∀ x, opsL[l]? = some x → x = opsL.getD l [] := fun x hx => by rw [List.getD_eq_getElem?_getD, hx]; rfl
     obtain rfl := hg _ hx58
     obtain rfl := hg _ hx75
     rfl

end Go.Proofs.YtmbbhgglllfelaaGreatDoor.K
set_option linter.unusedVariables false
set_option linter.unusedSimpArgs false
set_option autoImplicit false
set_option maxRecDepth 20000
namespace Go.Proofs.YtmbbhgglllfelaaGreatDoor.K
open Go Go.Proofs Go.RowKit

/-- A token, its place, what is wrong. -/
abbrev Yd := (Int × Int × Bytes) × Int × Int
def stopV (y : Yd) : Prop := ¬ y.2.2 = 0 ∨ y.1.1 = 0
instance (y : Yd) : Decidable (stopV y) := inferInstanceAs (Decidable (_ ∨ _))
def atV (s : Bytes) (i : Nat) : Nat := i + runN blankB (s.drop i)
def yV (s : Bytes) (j : Nat) : Yd := ((nextV (s.drop j)).1, (j : Int), (nextV (s.drop j)).2.2)
def toksF : Nat → Bytes → Nat → List Yd
  | 0, _, _ => []
  | k + 1, s, i => yV s (atV s i) :: if stopV (yV s (atV s i)) then [] else toksF k s (atV s i + (nextV (s.drop (atV s i))).2.1.toNat)
theorem toksF_succ (k : Nat) (s : Bytes) (i : Nat) : toksF (k + 1) s i = yV s (atV s i) :: if stopV (yV s (atV s i)) then [] else toksF k s (atV s i + (nextV (s.drop (atV s i))).2.1.toNat) := by rw [toksF]
def yE (y : Yd) : List Value := [.agg ⟨tokC y.1 y.2.1⟩, .int .i64 y.2.2]
theorem Tab.kept {K : Nat → Prop} {A B : World} (h : Tab A) (hk : Kept K A B) (h1 : K 0) : Tab B := by
  have he := hk.2 0 h1 h.lt
  unfold Tab Lib.TabIs World.var? at *
  simp only [gTab, Option.bind_some] at *
  rw [he]; exact h
theorem atV_le {s : Bytes} {i : Nat} (h : i ≤ s.length) : i ≤ atV s i ∧ atV s i ≤ s.length := by
  have := runN_le blankB (s.drop i)
  simp only [List.length_drop] at this
  unfold atV; omega
theorem findN_hit {q : Bytes → Bool} : ∀ (l : List Bytes) (i : Nat), 0 ≤ findN q i l → ∃ j x, findN q i l = ((i + j : Nat) : Int) ∧ l[j]? = some x ∧ q x = true
  | [], i, h => by simp [findN] at h
  | x :: l, i, h => by
    unfold findN at h ⊢
    by_cases hq : q x = true
    · rw [if_pos hq]; exact ⟨0, x, rfl, rfl, hq⟩
    · rw [if_neg hq] at h ⊢
      obtain ⟨j, y, h1, h2, h3⟩ := findN_hit l (i + 1) h
      exact ⟨j + 1, y, by rw [h1]; omega, by simpa using h2, h3⟩
theorem ops_pos : ∀ o, o ∈ opsL → 0 < o.length := by decide
theorem nextV_len (s : Bytes) : 0 ≤ (nextV s).2.1 ∧ (nextV s).2.1 ≤ s.length ∧ (¬ ((nextV s).2.2 ≠ 0 ∨ (nextV s).1.1 = 0) → 0 < (nextV s).2.1) := by
  have hr := runN_le wordB s
  unfold nextV
  split
  · simp
  · rename_i hs
    split
    · rename_i hd
      have h1 : 0 < runN wordB s := by
        cases s with
        | nil => exact absurd rfl hs
        | cons c s =>
          have : digB c = true := by simpa [byte] using hd
          rw [runN, if_pos (by simp [wordB, this])]; omega
      split <;> simp <;> omega
    · split
      · simp; omega
      · split
        · simp
        · rename_i hf
          obtain ⟨j, x, h1, h2, h3⟩ := findN_hit (q := Lib.hasPrefix s) opsL 0 (by omega)
          rw [h1, Nat.zero_add, Int.toNat_natCast, List.getD_eq_getElem?_getD, h2]
          have := pre_len h3
          have := ops_pos x (List.mem_of_getElem? h2)
          simp; omega

theorem tokens_iter {bt : Nat} {s : Bytes} {L : List Yd} {K : Nat → Prop} {w : World} (hL : toksF (s.length + 1) s 0 = L) (q1 : Blk w bt [S s] 9) (ht : Tab w) (hK1 : K bt) (hKt : K 0) (hs : s.length ≤ 9223372036854775807) :
    Iter2 Tryz.prog 58 [.pointer (some ⟨bt, 0, none⟩)] [] K yE L w := by
 intro lp J Jx W hws hk hJm hJxm hR hJ
 replace ht := ht.kept ⟨hws, fun k hK hl => hk k hl hK⟩ hKt
 replace q1 := q1.of_eq (hk _ q1.lt hK1)
 refine callR_of_wp (args := [_, _]) Tryz.func58 rfl (Nat.le_of_ble_eq_true rfl) ?_
 have HC : Chg [] W W := .refl _
 have ht1 := ht.lt
 refine sr rfl <| aI rfl <| en <| x_block <| x_loop (ι := Nat × Nat × List Yd) [3, 4, 5, 6, 7, 8, 9, 10, 11, 12, 13, 14, 15, 16, 17, 18, 19, 20, 21, 22, 23, 24, 25, 26, 27, 28, 29, 30, 31, 32, 33, 34, 35, 36, 37, 38] (fun ⟨i, k, pre⟩ => [(3, .int .i64 (i : Int))]) (fun ⟨i, k, pre⟩ W => (i ≤ s.length ∧ s.length - i < k ∧ pre ++ toksF k s i = L) ∧ (Blk W bt [S s] 9) ∧ (Tab W) ∧ (J pre W)) (fun ⟨i, k, pre⟩ => s.length - i) (0, s.length + 1, []) ?_ ?_ ?_
 · exact ⟨rfl, trivial⟩
 ·refine ⟨?_, q1, ht, hJm _ _ _ hJ HC⟩
  exact ⟨Nat.zero_le _, by omega, hL⟩
 intro ⟨i, k, pre⟩ G2 w1 ⟨⟨hi, hkl, hq⟩, q1, ht, hJ⟩
 change wp _ _ _ _ _ (upds (over _ _ G2) [(3, .int .i64 (i : Int))]) _ _
 have HC : Chg [] w1 w1 := .refl _
 have ht1 := ht.lt
 have hat := atV_le hi
 have hnl := nextV_len (s.drop (atV s i))
 have hrl := runN_le blankB (s.drop i)
 simp only [List.length_drop] at hnl hrl
 have hadd : IntKind.i64.wrap ((i : Int) + (runN blankB (s.drop i) : Int)) = ((atV s i : Nat) : Int) := by rw [wrap64_id (by omega) (by omega)]; unfold atV; omega
 have hadd2 : IntKind.i64.wrap (((atV s i : Nat) : Int) + (nextV (s.drop (atV s i))).2.1) = ((atV s i + (nextV (s.drop (atV s i))).2.1.toNat : Nat) : Int) := by rw [wrap64_id (by omega) (by omega)]; omega
 obtain ⟨k, rfl⟩ : ∃ k', k = k' + 1 := ⟨k - 1, by omega⟩
 rw [toksF_succ] at hq
 have hyx : L = pre ++ yV s (atV s i) :: (if stopV (yV s (atV s i)) then [] else toksF k s (atV s i + (nextV (s.drop (atV s i))).2.1.toNat)) := hq.symm
 refine x_block <| sr rfl <| mI rfl <| lS T.one9 rfl (q1.cell rfl) <| mI rfl <| Wp rfl <| st_sslo (i := i) T.u9 rfl ⟨_, rfl⟩ (by omega) <| Wp rfl <| st_call (ags := [_, _]) rfl rfl T.ent59 rfl (run_spec (k := 60) (caps := #[]) (s.drop i) (by simp only [List.length_drop]; omega) T.ent60 (fun c W _ => a_blank c W)) ?_
 rintro _ w3 ⟨rfl, c4⟩
 replace q1 := q1.tr0 c4
 replace ht := ht.tr0 c4
 replace HC := HC.then c4
 refine Wp rfl <| st_addk rfl rfl (by exact hadd) <| aI rfl <| en <| sr rfl <| lS T.one9 rfl (q1.cell rfl) <| mI rfl <| Wp rfl <| st_sslo (i := atV s i) T.u9 rfl ⟨_, rfl⟩ (by omega) <| mI rfl <| Wp rfl <| st_call (ags := [_, _]) rfl rfl T.ent61 rfl (next_spec (s.drop (atV s i)) _ _ (by simp only [List.length_drop]; omega) ht) ?_
 rintro _ w5 ⟨rfl, c6⟩
 replace q1 := q1.tr0 c6
 replace ht := ht.tr0 c6
 replace HC := HC.then c6
 refine mv (v := .tuple ⟨[_, _, _]⟩) rfl <| Wp rfl <| st_extract (vs := [_, _, _]) (v := .agg ⟨[.int _ _, .int _ _, S _, .int _ _]⟩) rfl rfl <| Wp rfl <| st_extract (vs := [_, _, _]) (v := .int _ _) rfl rfl <| Wp rfl <| st_extract (vs := [_, _, _]) (v := .int _ _) rfl rfl <| Wp rfl <| st_alloc T.zero60 ?_
 intro b4 w7 e8 c9 hb10
 have ge_b4 : w1.heap.size ≤ b4 := by rw [e8]; exact HC.size
 have ne_bt_b4 : bt ≠ b4 := by rw [e8]; exact q1.ne_size
 replace q1 := q1.tr0 c9
 replace ht := ht.tr0 c9
 replace HC := HC.then c9
 clear e8
 refine Wp rfl <| st_store (v := .agg ⟨[.int _ _, .int _ _, S _, .int _ _]⟩) T.size60 rfl rfl rfl hb10 rfl (Nat.le_of_ble_eq_true rfl) (by simp [Value.oneCell', S]) rfl ?_
 intro w11 c12 hb13; simp only [setVs, setV] at hb13
 clear hb10
 replace q1 := q1.tr1 c12 ne_bt_b4
 replace ht := ht.tr c12 (by intro hx; have := ht.lt; have := ht1; simp only [List.mem_cons, List.mem_nil_iff, or_false] at hx; omega)
 replace HC := HC.then1 c12 ge_b4
 refine aI rfl <| aI rfl <| en <| x_seq <| sr rfl <| mv (v := .func _ _ _) rfl <| Wp rfl <| st_loadA (vs := [_, _, _, _]) T.agg60 rfl (hb13.cells (n := 4) (vs := [_, _, _, _]) rfl) rfl <| mI rfl <| Wp rfl <| st_yield (vs := [_, _]) rfl rfl rfl rfl (hR pre (yV s (atV s i)) _ _ _ hyx hJ HC) ?_
 rintro _ w14 ⟨hk2, ⟨rfl, hJ2⟩ | ⟨rfl, hJ2⟩⟩
 ·replace q1 := q1.kept hk2 (.inl hK1)
  replace ht := ht.kept hk2 (.inl hKt)
  replace hb13 := hb13.kept hk2 (.inr ge_b4)
  have HCn : Chg [] w14 w14 := .refl _
  refine Wp rfl <| st_not rfl <| mB rfl <| w_yes 5 27 false <| st_move (v := .int _ _) rfl <| w_yes 5 27 false <| st_neq rfl rfl <| pF rfl rfl <| mB rfl <| w_split (d := 31) rfl (fun g15 => ?_) (fun g15 => ?_)
  ·try simp only [nm, ne_eq] at g15
   have hst : stopV (yV s (atV s i)) := .inl (by assumption)
   iterate 3 refine w_no 9 31 false ?_
   refine pT rfl rfl <| en <| x_cond (t := true) rfl (fun h0 => ?_) (fun h0 => ?_)
   rotate_left
   · exact absurd h0 (by decide)
   refine x_ret <| then_r <| block_r <| then_r <| block_r <| ret_none rfl ?_
   left; rw [hyx, if_pos hst]; exact hJm _ _ _ hJ2 HCn
  ·try simp only [nm, ne_eq] at g15
   refine w_yes 9 31 false <| st_fieldAddr T.fld60_0 rfl <| w_yes 9 31 false <| st_load1 (v := .int _ _) T.one3 rfl (hb13.cell rfl) <| w_yes 9 31 false <| st_eql rfl rfl <| pF rfl rfl <| en <| x_cond rfl (fun h0 => ?_) (fun h0 => ?_)
   ·try simp only [nm, ne_eq] at h0
    have hst : stopV (yV s (atV s i)) := .inr (by assumption)
    refine x_ret <| then_r <| block_r <| then_r <| block_r <| ret_none rfl ?_
    left; rw [hyx, if_pos hst]; exact hJm _ _ _ hJ2 HCn
   ·try simp only [nm, ne_eq] at h0
    have hst : ¬ stopV (yV s (atV s i)) := fun h => h.elim (fun h => h (by assumption)) (fun h => absurd h (by assumption))
    refine x_skip <| then_n <| x_region rfl <| mI rfl <| mI rfl <| Wp rfl <| st_addk rfl rfl (by exact hadd2) <| aI rfl <| wops_nil <| block_n <| then_n <| ⟨(atV s i + (nextV (s.drop (atV s i))).2.1.toNat, k, pre ++ [yV s (atV s i)]), ?_, ?_, rfl, ⟨rfl, trivial⟩, ?_⟩
    ·refine ⟨?_, q1, ht, hJm _ _ _ hJ2 HCn⟩
     exact ⟨by omega, by omega, by rw [hyx, if_neg hst]; simp⟩
    ·show s.length - (atV s i + (nextV (s.drop (atV s i))).2.1.toNat) < s.length - i; omega
    repeat (first | exact agree_upds agree_over rfl | refine agree_upd ?_ rfl | refine agree_upds ?_ rfl | refine agree_over_sub ?_ rfl)
 ·replace q1 := q1.kept hk2 (.inl hK1)
  replace ht := ht.kept hk2 (.inl hKt)
  replace hb13 := hb13.kept hk2 (.inr ge_b4)
  have HCn : Chg [] w14 w14 := .refl _
  refine Wp rfl <| st_not rfl <| mB rfl <| w_no 5 27 false <| w_no 5 27 false <| pT rfl rfl <| mB rfl ?_
  iterate 3 refine w_no 9 31 false ?_
  refine pT rfl rfl <| en <| x_cond (t := true) rfl (fun h0 => ?_) (fun h0 => ?_)
  rotate_left
  · exact absurd h0 (by decide)
  refine x_ret <| then_r <| block_r <| then_r <| block_r <| ret_none rfl ?_
  exact .inr ⟨_, hJ2⟩

end Go.Proofs.YtmbbhgglllfelaaGreatDoor.K
