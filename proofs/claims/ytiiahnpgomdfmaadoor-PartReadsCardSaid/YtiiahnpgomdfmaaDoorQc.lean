/- The document's parameters. -/
import Derived.Test.YtiiahnpgomdfmaaDoorTokV
set_option linter.unusedVariables false
set_option linter.unusedSimpArgs false
set_option autoImplicit false
set_option maxRecDepth 20000
namespace Go.Proofs.YtiiahnpgomdfmaaDoor.K
open Go Go.Proofs Go.RowKit

def opV (s : Bytes) : Bytes := if findN (preP s) 0 opsP < 0 then [] else opsP.getD (findN (preP s) 0 opsP).toNat []
theorem drop_neQ {s : Bytes} {j : Nat} (h : j < s.length) : s.drop j ≠ [] := fun e => by have := List.drop_eq_nil_iff.1 e; omega
theorem hasP1 {s : Bytes} {c : UInt8} : Lib.hasPrefix s [c] = true ↔ 0 < s.length ∧ byte s 0 = c := by
  cases s with
  | nil => simp [Lib.hasPrefix]
  | cons d t => simp only [Lib.hasPrefix, List.isPrefixOf, Bool.and_true, beq_iff_eq, List.length_cons, Nat.zero_lt_succ, true_and]; exact ⟨fun h => h.symm, fun h => h.symm⟩

theorem roperator_spec (s : Bytes) (w : World) (hs : s.length < 4294967281) : CallR Tryd.prog 89 #[S s] w fun v w' => v = S (opV s) ∧ Chg [] w w' := by
 refine callR_of_wp (args := [_]) Tryd.func89 rfl (Nat.le_of_ble_eq_true rfl) ?_
 have HC : Chg [] w w := .refl _
 refine sr rfl <| aS rfl <| en <| sr rfl <| Wp rfl <| st_lit (ps := [(0, .const (S [58, 45])), (1, .const (S [58, 61])), (2, .const (S [58, 63])), (3, .const (S [58, 43])), (4, .const (S [37, 37])), (5, .const (S [35, 35])), (6, .const (S [45])), (7, .const (S [61])), (8, .const (S [63])), (9, .const (S [43])), (10, .const (S [37])), (11, .const (S [35]))]) (vs := [S _, S _, S _, S _, S _, S _, S _, S _, S _, S _, S _, S _]) T.lit109 (by decide) rfl (by simp only [List.forall_mem_cons, List.not_mem_nil, false_imp_iff, implies_true, and_true]; exact ⟨rfl, rfl, rfl, rfl, rfl, rfl, rfl, rfl, rfl, rfl, rfl, rfl⟩) rfl ?_
 intro b1 w2 e3 c4 hb5
 have ge_b1 : w.heap.size ≤ b1 := by rw [e3]; exact HC.size
 replace HC := HC.then c4
 clear e3
 refine aL rfl <| en <| x_seq <| x_seq ?_
 have hl : Sl sE w2 (fun k => k = b1) (some ⟨b1, 0, none⟩) opsP := sl_lit opsP (by decide) (show Blk _ _ (opsP.flatMap (fun x => [S x])) 9 from hb5)
 refine x_region rfl <| aI rfl <| en <| x_block <| x_loop (ι := Nat) [2, 4, 6, 7, 8, 9, 10, 11, 12, 13, 14, 15, 16, 17, 18, 19, 20, 21] (fun i => [(4, .int .i64 (i : Int))]) (fun i W => (i ≤ 12 ∧ findN (preP s) 0 opsP = findN (preP s) i (opsP.drop i)) ∧ (Chg [] w W) ∧ (Sl sE W (fun k => k = b1) (some ⟨b1, 0, none⟩) opsP)) (fun i => 12 - i) 0 ?_ ?_ ?_
 · exact ⟨rfl, trivial⟩
 ·refine ⟨?_, HC, hl⟩
  exact ⟨Nat.zero_le _, rfl⟩
 intro i G7 w6 ⟨⟨hi, hr⟩, HC, hl⟩
 change wp _ _ _ _ _ (upds (over _ _ G7) [(4, .int .i64 (i : Int))]) _ _
 refine x_seq <| sr rfl <| mI rfl <| mL rfl <| Wp rfl <| st_len (ct := #[109]) (by rw [show ((#[109] : Array TypeId)[0]?).bind Tryd.prog.underlying = some (.slice 9) from T.u109]; rfl) rfl <| Wp rfl <| st_lss rfl rfl <| en <| x_cond rfl (fun h0 => ?_) (fun h0 => ?_)
 ·try simp only [nm, ne_eq] at h0
  refine x_skip <| then_n <| x_seq <| x_block <| x_seq ?_
  have hi12 : i < opsP.length := by show i < 12; omega
  refine x_region rfl <| mS rfl <| mL rfl <| mI rfl ?_
  obtain ⟨y, hx8⟩ : ∃ zz, opsP[i]? = some zz := ⟨_, List.getElem?_eq_getElem (by first | omega | exact hi12 | (show i < 12; omega))⟩
  obtain ⟨lb13, _, vs12, hA9, hR11, hC10⟩ := hl.at hx8
  obtain rfl : vs12 = [S y] := hR11
  refine Wp rfl <| st_indexAddr T.u109 T.size9 (congrArg (fun z => Value.slice z _ _) hA9) rfl (by first | omega | exact hi12 | (show i < 12; omega)) (by first | omega | exact hi12 | (show i < 12; omega)) <| lS T.one9 rfl (hC10.at (j := 0) rfl) <| Wp rfl <| st_call (ags := [_, _]) rfl rfl T.ent63 rfl (rbegins_spec s y _ hs) ?_
  rintro _ w14 ⟨rfl, c15⟩
  replace HC := HC.then c15
  replace hl := hl.tr0 c15
  refine en <| x_cond rfl (fun h1 => ?_) (fun h1 => ?_)
  ·try simp only [nm, ne_eq] at h1
   have h1 : preP s y = true := h1
   refine sr rfl <| mL rfl <| mI rfl ?_
   obtain ⟨y2, hx16⟩ : ∃ zz, opsP[i]? = some zz := ⟨_, List.getElem?_eq_getElem (by first | omega | exact hi12 | (show i < 12; omega))⟩
   obtain ⟨lb21, _, vs20, hA17, hR19, hC18⟩ := hl.at hx16
   obtain rfl : vs20 = [S y2] := hR19
   refine Wp rfl <| st_indexAddr T.u109 T.size9 (congrArg (fun z => Value.slice z _ _) hA17) rfl (by first | omega | exact hi12 | (show i < 12; omega)) (by first | omega | exact hi12 | (show i < 12; omega)) <| lS T.one9 rfl (hC18.at (j := 0) rfl) <| aS rfl <| en <| x_ret <| block_r <| then_r <| then_r <| block_r <| then_r <| ret_tmp (v := S _) rfl rfl ?_
   obtain rfl : y = y2 := Option.some.inj (hx8.symm.trans hx16)
   rw [show opV s = y by unfold opV; rw [hr, findN_off hx8 h1, if_neg (by omega), Int.toNat_natCast, getD_at hx8]]
   exact ⟨rfl, HC⟩
  ·try simp only [nm, ne_eq] at h1
   have h1 : preP s y = false := by first | exact h1 | simpa using h1
   refine x_skip <| block_n <| then_n <| x_region rfl <| mI rfl <| Wp rfl <| st_addn rfl rfl (by constructor <;> omega) <| aI rfl <| en <| ⟨i + 1, ?_, ?_, rfl, ⟨rfl, trivial⟩, ?_⟩
   ·refine ⟨?_, HC, hl⟩
    exact ⟨by omega, by rw [hr, findN_on hx8 h1]⟩
   ·show 12 - (i + 1) < 12 - i; omega
   repeat (first | exact agree_upds agree_over rfl | refine agree_upd ?_ rfl | refine agree_upds ?_ rfl | refine agree_over_sub ?_ rfl)
 ·try simp only [nm, ne_eq] at h0
  refine x_exit <| then_x <| then_x <| block_x <| then_n <| sr rfl <| aS rfl <| en <| x_ret <| ret_tmp (v := S _) rfl rfl ?_
  rw [show opV s = [] by unfold opV; rw [hr, findN_end (by show ¬ i < 12; omega)]; rfl]
  exact ⟨rfl, HC⟩

theorem rtext_spec (s : Bytes) (q : Bool) (w : World) : CallR Tryd.prog 36 #[S s, .bool q] w fun v w' => v = .agg ⟨prtC (txtP s q)⟩ ∧ Chg [] w w' := by
 refine callR_of_wp (args := [_, _]) Tryd.func36 rfl (Nat.le_of_ble_eq_true rfl) ?_
 have HC : Chg [] w w := .refl _
 refine sr rfl <| Wp rfl <| st_alloc T.zero33 ?_
 intro b4 w1 e2 c3 hb4
 have ge_b4 : w.heap.size ≤ b4 := by rw [e2]; exact HC.size
 replace HC := HC.then c3
 clear e2
 refine en <| sr rfl <| mS rfl <| mB rfl <| Wp rfl <| st_bld (ps := [(1, .tmp 5), (5, .tmp 6)]) (vs := [.int _ _, S _, S _, S _, S _, .bool _]) T.bld33 rfl <| Wp rfl <| st_store (v := .agg ⟨[.int _ _, S _, S _, S _, S _, .bool _]⟩) T.size33 rfl rfl rfl hb4 rfl (Nat.le_of_ble_eq_true rfl) (by simp [Value.oneCell', S]) rfl ?_
 intro w5 c6 hb7; simp only [setVs, setV] at hb7
 clear hb4
 replace HC := HC.then1 c6 ge_b4
 refine en <| x_ret <| ret_cellA (vs := [_, _, _, _, _, _]) rfl rfl T.agg33 (hb7.cells (n := 6) rfl) rfl ?_
 exact ⟨rfl, HC⟩

theorem opsP_ne : ∀ x, x ∈ opsP → x ≠ [] := by decide
theorem op_none {s : Bytes} (h : opV s = []) : findN (preP s) 0 opsP < 0 := by
  rcases Decidable.em (findN (preP s) 0 opsP < 0) with h1 | h1
  · exact h1
  · obtain ⟨j, hje, hjl, hjq⟩ := findN_pos h1
    unfold opV at h; rw [if_neg h1, hje, Nat.zero_add, Int.toNat_natCast] at h
    rw [List.getD_eq_getElem?_getD, List.getElem?_eq_getElem hjl] at h
    exact absurd h (opsP_ne _ (List.getElem_mem hjl))
theorem op_len {s : Bytes} : (opV s).length ≤ s.length := by
  unfold opV; split
  · exact Nat.zero_le _
  · rename_i h1
    obtain ⟨j, hje, hjl, hjq⟩ := findN_pos h1
    rw [hje, Nat.zero_add, Int.toNat_natCast]
    exact pre_len hjq
theorem rparam_spec (s : Bytes) (q : Bool) (w : World) (hs : s.length < 4294967281) : CallR Tryd.prog 64 #[S s, .bool q] w fun v w' => v = .tuple ⟨[.agg ⟨prtC (paramV q s).1⟩, .int .i64 (paramV q s).2]⟩ ∧ Chg [] w w' := by
 refine callR_of_wp (args := [_, _]) Tryd.func64 rfl (Nat.le_of_ble_eq_true rfl) ?_
 have HC : Chg [] w w := .refl _
 have hnl := namedV_le s
 refine sr rfl <| Wp rfl <| st_alloc T.zero33 ?_
 intro b4 w1 e2 c3 hb4
 have ge_b4 : w.heap.size ≤ b4 := by rw [e2]; exact HC.size
 replace HC := HC.then c3
 clear e2
 refine aI rfl <| en <| sr rfl <| mB rfl <| Wp rfl <| st_bld (ps := [(0, .const (.int .i64 1)), (5, .tmp 8)]) (vs := [.int _ _, S _, S _, S _, S _, .bool _]) T.bld33 rfl <| Wp rfl <| st_alloc T.zero33 ?_
 intro b6 w5 e6 c7 hb8
 have ge_b6 : w.heap.size ≤ b6 := by rw [e6]; exact HC.size
 have ne_b4_b6 : b4 ≠ b6 := by rw [e6]; exact hb4.ne_size
 replace HC := HC.then c7
 replace hb4 := hb4.tr0 c7
 clear e6
 refine Wp rfl <| st_store (v := .agg ⟨[.int _ _, S _, S _, S _, S _, .bool _]⟩) T.size33 rfl rfl rfl hb8 rfl (Nat.le_of_ble_eq_true rfl) (by simp [Value.oneCell', S]) rfl ?_
 intro w9 c10 hb11; simp only [setVs, setV] at hb11
 clear hb8
 replace HC := HC.then1 c10 ge_b6
 replace hb4 := hb4.tr1 c10 ne_b4_b6
 refine en <| x_seq <| sr rfl <| mS rfl <| Wp rfl <| st_slen (ct := #[9]) T.u9 rfl <| Wp rfl <| st_gtr rfl rfl <| mB rfl <| w_split (d := 13) rfl (fun g12 => ?_) (fun g12 => ?_)
 ·try simp only [nm, ne_eq] at g12
  refine w_yes 3 13 true <| st_move (v := S _) rfl <| w_yes 3 13 true <| st_sidx T.u9 rfl rfl (by decide) (by omega) <| w_yes 3 13 true <| st_eql rfl rfl <| pT rfl rfl <| mB rfl <| w_split (d := 18) rfl (fun g13 => ?_) (fun g13 => ?_)
  ·try simp only [nm, ne_eq] at g13
   refine w_yes 8 18 true <| st_move (v := S _) rfl <| w_yes 8 18 true <| st_sslo (i := 1) T.u9 rfl ⟨_, rfl⟩ (by omega) <| w_yes 8 18 true <| st_call (ags := [_]) rfl rfl T.ent13 rfl (RParam_spec (s.drop 1) _ (by rw [List.length_drop]; omega)) ?_
   rintro _ w14 ⟨rfl, c15⟩
   replace HC := HC.then c15
   replace hb4 := hb4.tr0 c15
   replace hb11 := hb11.tr0 c15
   refine pT rfl rfl <| en <| x_cond rfl (fun h0 => ?_) (fun h0 => ?_)
   ·try simp only [nm, ne_eq] at h0
    have hp1 : Lib.hasPrefix s [35] = true := hasP1.2 ⟨by omega, u8_eq (by first | assumption | simp_all) rfl⟩
    have hip : isParam (s.drop 1) = true := by first | assumption | simp_all
    refine sr rfl <| mS rfl <| Wp rfl <| st_sslo (i := 1) T.u9 rfl ⟨_, rfl⟩ (by omega) <| fa T.fld33_2 rfl <| Wp rfl <| st_store (v := S _) T.size9 rfl rfl rfl hb11 rfl (Nat.le_of_ble_eq_true rfl) (by simp [Value.oneCell', S]) rfl ?_
    intro w16 c17 hb18; simp only [setVs, setV] at hb18
    clear hb11
    replace HC := HC.then1 c17 ge_b6
    replace hb4 := hb4.tr1 c17 ne_b4_b6
    refine en <| sr rfl <| fa T.fld33_3 rfl <| Wp rfl <| st_store (v := S _) T.size9 rfl rfl rfl hb18 rfl (Nat.le_of_ble_eq_true rfl) (by simp [Value.oneCell', S]) rfl ?_
    intro w19 c20 hb21; simp only [setVs, setV] at hb21
    clear hb18
    replace HC := HC.then1 c20 ge_b6
    replace hb4 := hb4.tr1 c20 ne_b4_b6
    refine en <| sr rfl <| Wp rfl <| st_loadA (vs := [_, _, _, _, _, _]) T.agg33 rfl (hb21.cells (n := 6) (vs := [_, _, _, _, _, _]) rfl) rfl <| Wp rfl <| st_store (v := .agg ⟨[.int _ _, S _, S _, S _, S _, .bool _]⟩) T.size33 rfl rfl rfl hb4 rfl (Nat.le_of_ble_eq_true rfl) (by simp [Value.oneCell', S]) rfl ?_
    intro w22 c23 hb24; simp only [setVs, setV] at hb24
    clear hb4
    replace HC := HC.then1 c23 ge_b4
    replace hb21 := hb21.tr1 c23 (Ne.symm ne_b4_b6)
    refine aI rfl <| en <| x_ret <| then_r <| ret_many (vs := [.agg ⟨[_, _, _, _, _, _]⟩, .int _ _]) rfl ⟨⟨_, _, rfl, run_loadVarA T.agg33 (hb24.cells (n := 6) rfl) rfl⟩, ⟨rfl, trivial⟩⟩ (Nat.le_of_ble_eq_true rfl) ?_
    rw [paramV, if_pos (by rw [hp1, hip]; rfl)]
    exact ⟨rfl, HC⟩
   ·try simp only [nm, ne_eq] at h0
    have hcf : (Lib.hasPrefix s [35] && isParam (s.drop 1)) = false := by rw [show isParam (s.drop 1) = false by first | assumption | simp_all, Bool.and_false]
    have hcn : ¬ (Lib.hasPrefix s [35] && isParam (s.drop 1)) = true := by rw [hcf]; simp
    refine x_skip <| then_n <| sr rfl <| mS rfl <| Wp rfl <| st_call (ags := [_]) rfl rfl T.ent22 rfl (rnamed_spec s _ hs) ?_
    rintro _ w25 ⟨rfl, c26⟩
    replace HC := HC.then c26
    replace hb4 := hb4.tr0 c26
    replace hb11 := hb11.tr0 c26
    refine aI rfl <| en <| x_seq <| sr rfl <| mI rfl <| Wp rfl <| st_eql rfl rfl <| en <| x_cond rfl (fun h1 => ?_) (fun h1 => ?_)
    ·try simp only [nm, ne_eq] at h1
     refine sr rfl <| Wp rfl <| st_bld (ps := []) (vs := [.int _ _, S _, S _, S _, S _, .bool _]) T.bld33 rfl <| Wp rfl <| st_store (v := .agg ⟨[.int _ _, S _, S _, S _, S _, .bool _]⟩) T.size33 rfl rfl rfl hb4 rfl (Nat.le_of_ble_eq_true rfl) (by simp [Value.oneCell', S]) rfl ?_
     intro w27 c28 hb29; simp only [setVs, setV] at hb29
     clear hb4
     replace HC := HC.then1 c28 ge_b4
     replace hb11 := hb11.tr1 c28 (Ne.symm ne_b4_b6)
     refine aI rfl <| en <| x_ret <| then_r <| ret_many (vs := [.agg ⟨[_, _, _, _, _, _]⟩, .int _ _]) rfl ⟨⟨_, _, rfl, run_loadVarA T.agg33 (hb29.cells (n := 6) rfl) rfl⟩, ⟨rfl, trivial⟩⟩ (Nat.le_of_ble_eq_true rfl) ?_
     rw [paramV, if_neg hcn, if_pos (by omega)]
     exact ⟨rfl, HC⟩
    ·try simp only [nm, ne_eq] at h1
     have hn0 : ¬ namedV s = 0 := by omega
     refine x_skip <| then_n <| sr rfl <| mS rfl <| mI rfl <| Wp rfl <| st_sshi (j := namedV s) T.u9 rfl ⟨_, rfl⟩ (by omega) <| fa T.fld33_2 rfl <| Wp rfl <| st_store (v := S _) T.size9 rfl rfl rfl hb11 rfl (Nat.le_of_ble_eq_true rfl) (by simp [Value.oneCell', S]) rfl ?_
     intro w30 c31 hb32; simp only [setVs, setV] at hb32
     clear hb11
     replace HC := HC.then1 c31 ge_b6
     replace hb4 := hb4.tr1 c31 ne_b4_b6
     refine en <| x_seq <| sr rfl <| mI rfl <| mS rfl <| Wp rfl <| st_slen (ct := #[9]) T.u9 rfl <| Wp rfl <| st_eql rfl rfl <| en <| x_cond rfl (fun h2 => ?_) (fun h2 => ?_)
     ·try simp only [nm, ne_eq] at h2
      have hdn : s.drop (namedV s) = [] := List.drop_eq_nil_of_le (by omega)
      refine sr rfl <| Wp rfl <| st_loadA (vs := [_, _, _, _, _, _]) T.agg33 rfl (hb32.cells (n := 6) (vs := [_, _, _, _, _, _]) rfl) rfl <| Wp rfl <| st_store (v := .agg ⟨[.int _ _, S _, S _, S _, S _, .bool _]⟩) T.size33 rfl rfl rfl hb4 rfl (Nat.le_of_ble_eq_true rfl) (by simp [Value.oneCell', S]) rfl ?_
      intro w33 c34 hb35; simp only [setVs, setV] at hb35
      clear hb4
      replace HC := HC.then1 c34 ge_b4
      replace hb32 := hb32.tr1 c34 (Ne.symm ne_b4_b6)
      refine aI rfl <| en <| x_ret <| then_r <| ret_many (vs := [.agg ⟨[_, _, _, _, _, _]⟩, .int _ _]) rfl ⟨⟨_, _, rfl, run_loadVarA T.agg33 (hb35.cells (n := 6) rfl) rfl⟩, ⟨rfl, trivial⟩⟩ (Nat.le_of_ble_eq_true rfl) ?_
      rw [paramV, if_neg hcn, if_neg hn0, if_pos hdn]
      exact ⟨rfl, HC⟩
     ·try simp only [nm, ne_eq] at h2
      have hdn : ¬ s.drop (namedV s) = [] := drop_neQ (by omega)
      refine x_skip <| then_n <| sr rfl <| mS rfl <| mI rfl <| Wp rfl <| st_sslo (i := namedV s) T.u9 rfl ⟨_, rfl⟩ (by omega) <| Wp rfl <| st_call (ags := [_]) rfl rfl T.ent89 rfl (roperator_spec (s.drop (namedV s)) _ (by rw [List.length_drop]; omega)) ?_
      rintro _ w36 ⟨rfl, c37⟩
      replace HC := HC.then c37
      replace hb4 := hb4.tr0 c37
      replace hb32 := hb32.tr0 c37
      refine fa T.fld33_3 rfl <| Wp rfl <| st_store (v := S _) T.size9 rfl rfl rfl hb32 rfl (Nat.le_of_ble_eq_true rfl) (by simp [Value.oneCell', S]) rfl ?_
      intro w38 c39 hb40; simp only [setVs, setV] at hb40
      clear hb32
      replace HC := HC.then1 c39 ge_b6
      replace hb4 := hb4.tr1 c39 ne_b4_b6
      refine en <| x_seq <| sr rfl <| fa T.fld33_3 rfl <| lS T.one9 rfl (hb40.cell rfl) <| Wp rfl <| st_seql rfl rfl <| en <| x_cond rfl (fun h3 => ?_) (fun h3 => ?_)
      ·try simp only [nm, ne_eq] at h3
       have hof : findN (preP (s.drop (namedV s))) 0 opsP < 0 := op_none (by first | assumption | simp_all)
       refine sr rfl <| Wp rfl <| st_bld (ps := []) (vs := [.int _ _, S _, S _, S _, S _, .bool _]) T.bld33 rfl <| Wp rfl <| st_store (v := .agg ⟨[.int _ _, S _, S _, S _, S _, .bool _]⟩) T.size33 rfl rfl rfl hb4 rfl (Nat.le_of_ble_eq_true rfl) (by simp [Value.oneCell', S]) rfl ?_
       intro w41 c42 hb43; simp only [setVs, setV] at hb43
       clear hb4
       replace HC := HC.then1 c42 ge_b4
       replace hb40 := hb40.tr1 c42 (Ne.symm ne_b4_b6)
       refine aI rfl <| en <| x_ret <| then_r <| ret_many (vs := [.agg ⟨[_, _, _, _, _, _]⟩, .int _ _]) rfl ⟨⟨_, _, rfl, run_loadVarA T.agg33 (hb43.cells (n := 6) rfl) rfl⟩, ⟨rfl, trivial⟩⟩ (Nat.le_of_ble_eq_true rfl) ?_
       rw [paramV, if_neg hcn, if_neg hn0, if_neg hdn, if_pos hof]
       exact ⟨rfl, HC⟩
      ·try simp only [nm, ne_eq] at h3
       have hof : ¬ findN (preP (s.drop (namedV s))) 0 opsP < 0 := fun e => absurd (show opV (s.drop (namedV s)) = [] by unfold opV; rw [if_pos e]) (by first | assumption | simp_all)
       have hov : opV (s.drop (namedV s)) = opsP.getD (findN (preP (s.drop (namedV s))) 0 opsP).toNat [] := by unfold opV; rw [if_neg hof]
       have hpl := op_len (s := s.drop (namedV s))
       rw [List.length_drop] at hpl
       refine x_skip <| then_n <| sr rfl <| mS rfl <| mI rfl <| fa T.fld33_3 rfl <| lS T.one9 rfl (hb40.cell rfl) <| Wp rfl <| st_slen (ct := #[9]) T.u9 rfl <| Wp rfl <| st_addn rfl rfl (by constructor <;> omega) <| Wp rfl <| st_sslo (i := (namedV s + (opV (s.drop (namedV s))).length)) T.u9 rfl ⟨_, rfl⟩ (by omega) <| fa T.fld33_4 rfl <| Wp rfl <| st_store (v := S _) T.size9 rfl rfl rfl hb40 rfl (Nat.le_of_ble_eq_true rfl) (by simp [Value.oneCell', S]) rfl ?_
       intro w44 c45 hb46; simp only [setVs, setV] at hb46
       clear hb40
       replace HC := HC.then1 c45 ge_b6
       replace hb4 := hb4.tr1 c45 ne_b4_b6
       refine en <| sr rfl <| Wp rfl <| st_loadA (vs := [_, _, _, _, _, _]) T.agg33 rfl (hb46.cells (n := 6) (vs := [_, _, _, _, _, _]) rfl) rfl <| Wp rfl <| st_store (v := .agg ⟨[.int _ _, S _, S _, S _, S _, .bool _]⟩) T.size33 rfl rfl rfl hb4 rfl (Nat.le_of_ble_eq_true rfl) (by simp [Value.oneCell', S]) rfl ?_
       intro w47 c48 hb49; simp only [setVs, setV] at hb49
       clear hb4
       replace HC := HC.then1 c48 ge_b4
       replace hb46 := hb46.tr1 c48 (Ne.symm ne_b4_b6)
       refine aI rfl <| en <| x_ret <| ret_many (vs := [.agg ⟨[_, _, _, _, _, _]⟩, .int _ _]) rfl ⟨⟨_, _, rfl, run_loadVarA T.agg33 (hb49.cells (n := 6) rfl) rfl⟩, ⟨rfl, trivial⟩⟩ (Nat.le_of_ble_eq_true rfl) ?_
       rw [paramV, if_neg hcn, if_neg hn0, if_neg hdn, if_neg hof, ← hov]
       rw [List.drop_drop]
       exact ⟨rfl, HC⟩
  ·try simp only [nm, ne_eq] at g13
   iterate 3 refine w_no 8 18 true ?_
   refine pF rfl rfl <| en <| x_cond (t := false) rfl (fun h0 => ?_) (fun h0 => ?_)
   · exact absurd h0 (by decide)
   have hcf : (Lib.hasPrefix s [35] && isParam (s.drop 1)) = false := by rw [show Lib.hasPrefix s [35] = false by (rw [Bool.eq_false_iff]; intro e9; have h9 := (hasP1.1 e9).2; have h8 : ((byte s 0).toNat : Int) = 35 := (by rw [h9]; rfl); first | omega | simp_all), Bool.false_and]
   have hcn : ¬ (Lib.hasPrefix s [35] && isParam (s.drop 1)) = true := by rw [hcf]; simp
   refine x_skip <| then_n <| sr rfl <| mS rfl <| Wp rfl <| st_call (ags := [_]) rfl rfl T.ent22 rfl (rnamed_spec s _ hs) ?_
   rintro _ w50 ⟨rfl, c51⟩
   replace HC := HC.then c51
   replace hb4 := hb4.tr0 c51
   replace hb11 := hb11.tr0 c51
   refine aI rfl <| en <| x_seq <| sr rfl <| mI rfl <| Wp rfl <| st_eql rfl rfl <| en <| x_cond rfl (fun h1 => ?_) (fun h1 => ?_)
   ·try simp only [nm, ne_eq] at h1
    refine sr rfl <| Wp rfl <| st_bld (ps := []) (vs := [.int _ _, S _, S _, S _, S _, .bool _]) T.bld33 rfl <| Wp rfl <| st_store (v := .agg ⟨[.int _ _, S _, S _, S _, S _, .bool _]⟩) T.size33 rfl rfl rfl hb4 rfl (Nat.le_of_ble_eq_true rfl) (by simp [Value.oneCell', S]) rfl ?_
    intro w52 c53 hb54; simp only [setVs, setV] at hb54
    clear hb4
    replace HC := HC.then1 c53 ge_b4
    replace hb11 := hb11.tr1 c53 (Ne.symm ne_b4_b6)
    refine aI rfl <| en <| x_ret <| then_r <| ret_many (vs := [.agg ⟨[_, _, _, _, _, _]⟩, .int _ _]) rfl ⟨⟨_, _, rfl, run_loadVarA T.agg33 (hb54.cells (n := 6) rfl) rfl⟩, ⟨rfl, trivial⟩⟩ (Nat.le_of_ble_eq_true rfl) ?_
    rw [paramV, if_neg hcn, if_pos (by omega)]
    exact ⟨rfl, HC⟩
   ·try simp only [nm, ne_eq] at h1
    have hn0 : ¬ namedV s = 0 := by omega
    refine x_skip <| then_n <| sr rfl <| mS rfl <| mI rfl <| Wp rfl <| st_sshi (j := namedV s) T.u9 rfl ⟨_, rfl⟩ (by omega) <| fa T.fld33_2 rfl <| Wp rfl <| st_store (v := S _) T.size9 rfl rfl rfl hb11 rfl (Nat.le_of_ble_eq_true rfl) (by simp [Value.oneCell', S]) rfl ?_
    intro w55 c56 hb57; simp only [setVs, setV] at hb57
    clear hb11
    replace HC := HC.then1 c56 ge_b6
    replace hb4 := hb4.tr1 c56 ne_b4_b6
    refine en <| x_seq <| sr rfl <| mI rfl <| mS rfl <| Wp rfl <| st_slen (ct := #[9]) T.u9 rfl <| Wp rfl <| st_eql rfl rfl <| en <| x_cond rfl (fun h2 => ?_) (fun h2 => ?_)
    ·try simp only [nm, ne_eq] at h2
     have hdn : s.drop (namedV s) = [] := List.drop_eq_nil_of_le (by omega)
     refine sr rfl <| Wp rfl <| st_loadA (vs := [_, _, _, _, _, _]) T.agg33 rfl (hb57.cells (n := 6) (vs := [_, _, _, _, _, _]) rfl) rfl <| Wp rfl <| st_store (v := .agg ⟨[.int _ _, S _, S _, S _, S _, .bool _]⟩) T.size33 rfl rfl rfl hb4 rfl (Nat.le_of_ble_eq_true rfl) (by simp [Value.oneCell', S]) rfl ?_
     intro w58 c59 hb60; simp only [setVs, setV] at hb60
     clear hb4
     replace HC := HC.then1 c59 ge_b4
     replace hb57 := hb57.tr1 c59 (Ne.symm ne_b4_b6)
     refine aI rfl <| en <| x_ret <| then_r <| ret_many (vs := [.agg ⟨[_, _, _, _, _, _]⟩, .int _ _]) rfl ⟨⟨_, _, rfl, run_loadVarA T.agg33 (hb60.cells (n := 6) rfl) rfl⟩, ⟨rfl, trivial⟩⟩ (Nat.le_of_ble_eq_true rfl) ?_
     rw [paramV, if_neg hcn, if_neg hn0, if_pos hdn]
     exact ⟨rfl, HC⟩
    ·try simp only [nm, ne_eq] at h2
     have hdn : ¬ s.drop (namedV s) = [] := drop_neQ (by omega)
     refine x_skip <| then_n <| sr rfl <| mS rfl <| mI rfl <| Wp rfl <| st_sslo (i := namedV s) T.u9 rfl ⟨_, rfl⟩ (by omega) <| Wp rfl <| st_call (ags := [_]) rfl rfl T.ent89 rfl (roperator_spec (s.drop (namedV s)) _ (by rw [List.length_drop]; omega)) ?_
     rintro _ w61 ⟨rfl, c62⟩
     replace HC := HC.then c62
     replace hb4 := hb4.tr0 c62
     replace hb57 := hb57.tr0 c62
     refine fa T.fld33_3 rfl <| Wp rfl <| st_store (v := S _) T.size9 rfl rfl rfl hb57 rfl (Nat.le_of_ble_eq_true rfl) (by simp [Value.oneCell', S]) rfl ?_
     intro w63 c64 hb65; simp only [setVs, setV] at hb65
     clear hb57
     replace HC := HC.then1 c64 ge_b6
     replace hb4 := hb4.tr1 c64 ne_b4_b6
     refine en <| x_seq <| sr rfl <| fa T.fld33_3 rfl <| lS T.one9 rfl (hb65.cell rfl) <| Wp rfl <| st_seql rfl rfl <| en <| x_cond rfl (fun h3 => ?_) (fun h3 => ?_)
     ·try simp only [nm, ne_eq] at h3
      have hof : findN (preP (s.drop (namedV s))) 0 opsP < 0 := op_none (by first | assumption | simp_all)
      refine sr rfl <| Wp rfl <| st_bld (ps := []) (vs := [.int _ _, S _, S _, S _, S _, .bool _]) T.bld33 rfl <| Wp rfl <| st_store (v := .agg ⟨[.int _ _, S _, S _, S _, S _, .bool _]⟩) T.size33 rfl rfl rfl hb4 rfl (Nat.le_of_ble_eq_true rfl) (by simp [Value.oneCell', S]) rfl ?_
      intro w66 c67 hb68; simp only [setVs, setV] at hb68
      clear hb4
      replace HC := HC.then1 c67 ge_b4
      replace hb65 := hb65.tr1 c67 (Ne.symm ne_b4_b6)
      refine aI rfl <| en <| x_ret <| then_r <| ret_many (vs := [.agg ⟨[_, _, _, _, _, _]⟩, .int _ _]) rfl ⟨⟨_, _, rfl, run_loadVarA T.agg33 (hb68.cells (n := 6) rfl) rfl⟩, ⟨rfl, trivial⟩⟩ (Nat.le_of_ble_eq_true rfl) ?_
      rw [paramV, if_neg hcn, if_neg hn0, if_neg hdn, if_pos hof]
      exact ⟨rfl, HC⟩
     ·try simp only [nm, ne_eq] at h3
      have hof : ¬ findN (preP (s.drop (namedV s))) 0 opsP < 0 := fun e => absurd (show opV (s.drop (namedV s)) = [] by unfold opV; rw [if_pos e]) (by first | assumption | simp_all)
      have hov : opV (s.drop (namedV s)) = opsP.getD (findN (preP (s.drop (namedV s))) 0 opsP).toNat [] := by unfold opV; rw [if_neg hof]
      have hpl := op_len (s := s.drop (namedV s))
      rw [List.length_drop] at hpl
      refine x_skip <| then_n <| sr rfl <| mS rfl <| mI rfl <| fa T.fld33_3 rfl <| lS T.one9 rfl (hb65.cell rfl) <| Wp rfl <| st_slen (ct := #[9]) T.u9 rfl <| Wp rfl <| st_addn rfl rfl (by constructor <;> omega) <| Wp rfl <| st_sslo (i := (namedV s + (opV (s.drop (namedV s))).length)) T.u9 rfl ⟨_, rfl⟩ (by omega) <| fa T.fld33_4 rfl <| Wp rfl <| st_store (v := S _) T.size9 rfl rfl rfl hb65 rfl (Nat.le_of_ble_eq_true rfl) (by simp [Value.oneCell', S]) rfl ?_
      intro w69 c70 hb71; simp only [setVs, setV] at hb71
      clear hb65
      replace HC := HC.then1 c70 ge_b6
      replace hb4 := hb4.tr1 c70 ne_b4_b6
      refine en <| sr rfl <| Wp rfl <| st_loadA (vs := [_, _, _, _, _, _]) T.agg33 rfl (hb71.cells (n := 6) (vs := [_, _, _, _, _, _]) rfl) rfl <| Wp rfl <| st_store (v := .agg ⟨[.int _ _, S _, S _, S _, S _, .bool _]⟩) T.size33 rfl rfl rfl hb4 rfl (Nat.le_of_ble_eq_true rfl) (by simp [Value.oneCell', S]) rfl ?_
      intro w72 c73 hb74; simp only [setVs, setV] at hb74
      clear hb4
      replace HC := HC.then1 c73 ge_b4
      replace hb71 := hb71.tr1 c73 (Ne.symm ne_b4_b6)
      refine aI rfl <| en <| x_ret <| ret_many (vs := [.agg ⟨[_, _, _, _, _, _]⟩, .int _ _]) rfl ⟨⟨_, _, rfl, run_loadVarA T.agg33 (hb74.cells (n := 6) rfl) rfl⟩, ⟨rfl, trivial⟩⟩ (Nat.le_of_ble_eq_true rfl) ?_
      rw [paramV, if_neg hcn, if_neg hn0, if_neg hdn, if_neg hof, ← hov]
      rw [List.drop_drop]
      exact ⟨rfl, HC⟩
 ·try simp only [nm, ne_eq] at g12
  iterate 3 refine w_no 3 13 true ?_
  refine pF rfl rfl <| mB rfl ?_
  iterate 3 refine w_no 8 18 true ?_
  refine pF rfl rfl <| en <| x_cond (t := false) rfl (fun h0 => ?_) (fun h0 => ?_)
  · exact absurd h0 (by decide)
  have hcf : (Lib.hasPrefix s [35] && isParam (s.drop 1)) = false := by rw [show isParam (s.drop 1) = false by (have e1 : s.drop 1 = [] := List.drop_eq_nil_of_le (by omega)); rw [e1]; rfl, Bool.and_false]
  have hcn : ¬ (Lib.hasPrefix s [35] && isParam (s.drop 1)) = true := by rw [hcf]; simp
  refine x_skip <| then_n <| sr rfl <| mS rfl <| Wp rfl <| st_call (ags := [_]) rfl rfl T.ent22 rfl (rnamed_spec s _ hs) ?_
  rintro _ w75 ⟨rfl, c76⟩
  replace HC := HC.then c76
  replace hb4 := hb4.tr0 c76
  replace hb11 := hb11.tr0 c76
  refine aI rfl <| en <| x_seq <| sr rfl <| mI rfl <| Wp rfl <| st_eql rfl rfl <| en <| x_cond rfl (fun h1 => ?_) (fun h1 => ?_)
  ·try simp only [nm, ne_eq] at h1
   refine sr rfl <| Wp rfl <| st_bld (ps := []) (vs := [.int _ _, S _, S _, S _, S _, .bool _]) T.bld33 rfl <| Wp rfl <| st_store (v := .agg ⟨[.int _ _, S _, S _, S _, S _, .bool _]⟩) T.size33 rfl rfl rfl hb4 rfl (Nat.le_of_ble_eq_true rfl) (by simp [Value.oneCell', S]) rfl ?_
   intro w77 c78 hb79; simp only [setVs, setV] at hb79
   clear hb4
   replace HC := HC.then1 c78 ge_b4
   replace hb11 := hb11.tr1 c78 (Ne.symm ne_b4_b6)
   refine aI rfl <| en <| x_ret <| then_r <| ret_many (vs := [.agg ⟨[_, _, _, _, _, _]⟩, .int _ _]) rfl ⟨⟨_, _, rfl, run_loadVarA T.agg33 (hb79.cells (n := 6) rfl) rfl⟩, ⟨rfl, trivial⟩⟩ (Nat.le_of_ble_eq_true rfl) ?_
   rw [paramV, if_neg hcn, if_pos (by omega)]
   exact ⟨rfl, HC⟩
  ·try simp only [nm, ne_eq] at h1
   have hn0 : ¬ namedV s = 0 := by omega
   refine x_skip <| then_n <| sr rfl <| mS rfl <| mI rfl <| Wp rfl <| st_sshi (j := namedV s) T.u9 rfl ⟨_, rfl⟩ (by omega) <| fa T.fld33_2 rfl <| Wp rfl <| st_store (v := S _) T.size9 rfl rfl rfl hb11 rfl (Nat.le_of_ble_eq_true rfl) (by simp [Value.oneCell', S]) rfl ?_
   intro w80 c81 hb82; simp only [setVs, setV] at hb82
   clear hb11
   replace HC := HC.then1 c81 ge_b6
   replace hb4 := hb4.tr1 c81 ne_b4_b6
   refine en <| x_seq <| sr rfl <| mI rfl <| mS rfl <| Wp rfl <| st_slen (ct := #[9]) T.u9 rfl <| Wp rfl <| st_eql rfl rfl <| en <| x_cond rfl (fun h2 => ?_) (fun h2 => ?_)
   ·try simp only [nm, ne_eq] at h2
    have hdn : s.drop (namedV s) = [] := List.drop_eq_nil_of_le (by omega)
    refine sr rfl <| Wp rfl <| st_loadA (vs := [_, _, _, _, _, _]) T.agg33 rfl (hb82.cells (n := 6) (vs := [_, _, _, _, _, _]) rfl) rfl <| Wp rfl <| st_store (v := .agg ⟨[.int _ _, S _, S _, S _, S _, .bool _]⟩) T.size33 rfl rfl rfl hb4 rfl (Nat.le_of_ble_eq_true rfl) (by simp [Value.oneCell', S]) rfl ?_
    intro w83 c84 hb85; simp only [setVs, setV] at hb85
    clear hb4
    replace HC := HC.then1 c84 ge_b4
    replace hb82 := hb82.tr1 c84 (Ne.symm ne_b4_b6)
    refine aI rfl <| en <| x_ret <| then_r <| ret_many (vs := [.agg ⟨[_, _, _, _, _, _]⟩, .int _ _]) rfl ⟨⟨_, _, rfl, run_loadVarA T.agg33 (hb85.cells (n := 6) rfl) rfl⟩, ⟨rfl, trivial⟩⟩ (Nat.le_of_ble_eq_true rfl) ?_
    rw [paramV, if_neg hcn, if_neg hn0, if_pos hdn]
    exact ⟨rfl, HC⟩
   ·try simp only [nm, ne_eq] at h2
    have hdn : ¬ s.drop (namedV s) = [] := drop_neQ (by omega)
    refine x_skip <| then_n <| sr rfl <| mS rfl <| mI rfl <| Wp rfl <| st_sslo (i := namedV s) T.u9 rfl ⟨_, rfl⟩ (by omega) <| Wp rfl <| st_call (ags := [_]) rfl rfl T.ent89 rfl (roperator_spec (s.drop (namedV s)) _ (by rw [List.length_drop]; omega)) ?_
    rintro _ w86 ⟨rfl, c87⟩
    replace HC := HC.then c87
    replace hb4 := hb4.tr0 c87
    replace hb82 := hb82.tr0 c87
    refine fa T.fld33_3 rfl <| Wp rfl <| st_store (v := S _) T.size9 rfl rfl rfl hb82 rfl (Nat.le_of_ble_eq_true rfl) (by simp [Value.oneCell', S]) rfl ?_
    intro w88 c89 hb90; simp only [setVs, setV] at hb90
    clear hb82
    replace HC := HC.then1 c89 ge_b6
    replace hb4 := hb4.tr1 c89 ne_b4_b6
    refine en <| x_seq <| sr rfl <| fa T.fld33_3 rfl <| lS T.one9 rfl (hb90.cell rfl) <| Wp rfl <| st_seql rfl rfl <| en <| x_cond rfl (fun h3 => ?_) (fun h3 => ?_)
    ·try simp only [nm, ne_eq] at h3
     have hof : findN (preP (s.drop (namedV s))) 0 opsP < 0 := op_none (by first | assumption | simp_all)
     refine sr rfl <| Wp rfl <| st_bld (ps := []) (vs := [.int _ _, S _, S _, S _, S _, .bool _]) T.bld33 rfl <| Wp rfl <| st_store (v := .agg ⟨[.int _ _, S _, S _, S _, S _, .bool _]⟩) T.size33 rfl rfl rfl hb4 rfl (Nat.le_of_ble_eq_true rfl) (by simp [Value.oneCell', S]) rfl ?_
     intro w91 c92 hb93; simp only [setVs, setV] at hb93
     clear hb4
     replace HC := HC.then1 c92 ge_b4
     replace hb90 := hb90.tr1 c92 (Ne.symm ne_b4_b6)
     refine aI rfl <| en <| x_ret <| then_r <| ret_many (vs := [.agg ⟨[_, _, _, _, _, _]⟩, .int _ _]) rfl ⟨⟨_, _, rfl, run_loadVarA T.agg33 (hb93.cells (n := 6) rfl) rfl⟩, ⟨rfl, trivial⟩⟩ (Nat.le_of_ble_eq_true rfl) ?_
     rw [paramV, if_neg hcn, if_neg hn0, if_neg hdn, if_pos hof]
     exact ⟨rfl, HC⟩
    ·try simp only [nm, ne_eq] at h3
     have hof : ¬ findN (preP (s.drop (namedV s))) 0 opsP < 0 := fun e => absurd (show opV (s.drop (namedV s)) = [] by unfold opV; rw [if_pos e]) (by first | assumption | simp_all)
     have hov : opV (s.drop (namedV s)) = opsP.getD (findN (preP (s.drop (namedV s))) 0 opsP).toNat [] := by unfold opV; rw [if_neg hof]
     have hpl := op_len (s := s.drop (namedV s))
     rw [List.length_drop] at hpl
     refine x_skip <| then_n <| sr rfl <| mS rfl <| mI rfl <| fa T.fld33_3 rfl <| lS T.one9 rfl (hb90.cell rfl) <| Wp rfl <| st_slen (ct := #[9]) T.u9 rfl <| Wp rfl <| st_addn rfl rfl (by constructor <;> omega) <| Wp rfl <| st_sslo (i := (namedV s + (opV (s.drop (namedV s))).length)) T.u9 rfl ⟨_, rfl⟩ (by omega) <| fa T.fld33_4 rfl <| Wp rfl <| st_store (v := S _) T.size9 rfl rfl rfl hb90 rfl (Nat.le_of_ble_eq_true rfl) (by simp [Value.oneCell', S]) rfl ?_
     intro w94 c95 hb96; simp only [setVs, setV] at hb96
     clear hb90
     replace HC := HC.then1 c95 ge_b6
     replace hb4 := hb4.tr1 c95 ne_b4_b6
     refine en <| sr rfl <| Wp rfl <| st_loadA (vs := [_, _, _, _, _, _]) T.agg33 rfl (hb96.cells (n := 6) (vs := [_, _, _, _, _, _]) rfl) rfl <| Wp rfl <| st_store (v := .agg ⟨[.int _ _, S _, S _, S _, S _, .bool _]⟩) T.size33 rfl rfl rfl hb4 rfl (Nat.le_of_ble_eq_true rfl) (by simp [Value.oneCell', S]) rfl ?_
     intro w97 c98 hb99; simp only [setVs, setV] at hb99
     clear hb4
     replace HC := HC.then1 c98 ge_b4
     replace hb96 := hb96.tr1 c98 (Ne.symm ne_b4_b6)
     refine aI rfl <| en <| x_ret <| ret_many (vs := [.agg ⟨[_, _, _, _, _, _]⟩, .int _ _]) rfl ⟨⟨_, _, rfl, run_loadVarA T.agg33 (hb99.cells (n := 6) rfl) rfl⟩, ⟨rfl, trivial⟩⟩ (Nat.le_of_ble_eq_true rfl) ?_
     rw [paramV, if_neg hcn, if_neg hn0, if_neg hdn, if_neg hof, ← hov]
     rw [List.drop_drop]
     exact ⟨rfl, HC⟩

end Go.Proofs.YtiiahnpgomdfmaaDoor.K
