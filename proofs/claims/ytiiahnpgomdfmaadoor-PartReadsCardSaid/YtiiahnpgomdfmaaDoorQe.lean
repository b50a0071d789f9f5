/- The document's dollar. -/
import Derived.Test.YtiiahnpgomdfmaaDoorQd
set_option linter.unusedVariables false
set_option linter.unusedSimpArgs false
set_option autoImplicit false
set_option maxRecDepth 20000
namespace Go.Proofs.YtiiahnpgomdfmaaDoor.K
open Go Go.Proofs Go.RowKit

theorem RSk_ok {n : Nat} (s : Bytes) (w : World) (hs : s.length < 4294967281) (h0 : s ≠ []) (h : skipL 64 s = .ok n) : CallR Tryd.prog 38 #[S s, .int .i64 0] w fun v w' => v = .tuple ⟨[.int .i64 (n : Int), .int .i64 0]⟩ ∧ Chg [] w w' :=
  CallR.imp (RSkip_spec s 0 w hs) fun v w' ⟨h1, h2⟩ => ⟨by rw [h1, show (0 : Int) = ((0 : Nat) : Int) from rfl, skipV_ok (List.length_pos_iff.2 h0) (by rw [skipA_0]; exact h)]; rfl, h2⟩
theorem RSk_err {e : Nat} (s : Bytes) (w : World) (hs : s.length < 4294967281) (h0 : s ≠ []) (h : skipL 64 s = .error e) : CallR Tryd.prog 38 #[S s, .int .i64 0] w fun v w' => v = .tuple ⟨[.int .i64 0, .int .i64 (e : Int)]⟩ ∧ Chg [] w w' :=
  CallR.imp (RSkip_spec s 0 w hs) fun v w' ⟨h1, h2⟩ => ⟨by rw [h1, show (0 : Int) = ((0 : Nat) : Int) from rfl, skipV_err (List.length_pos_iff.2 h0) (by rw [skipA_0]; exact h)], h2⟩
theorem suf_two {w : Bytes} {n : Nat} (hn : n ≤ w.length) (h2 : 2 ≤ n) : hasSuf (w.take n) [41, 41] = decide ((w.take n).drop (n - 2) = [41, 41]) := by
  unfold hasSuf
  rw [List.length_take, Nat.min_eq_left hn]
  show (decide (2 ≤ n) && _) = _
  rw [decide_eq_true h2, Bool.true_and]; rfl

theorem rdollar_err {e : Nat} (w : Bytes) (q : Bool) (w0 : World) (hs : w.length < 4294967281) (hw : w ≠ []) (he : skipL 64 w = .error e) (he0 : e ≠ 0) : CallR Tryd.prog 37 #[S w, .bool q] w0 fun v w' => v = .tuple ⟨[.agg ⟨prtC nilP⟩, .int .i64 0, .int .i64 (e : Int)]⟩ ∧ Chg [] w0 w' := by
 refine callR_of_wp (args := [_, _]) Tryd.func37 rfl (Nat.le_of_ble_eq_true rfl) ?_
 have HC : Chg [] w0 w0 := .refl _
 refine sr rfl <| Wp rfl <| st_alloc T.zero33 ?_
 intro b4 w1 e2 c3 hb4
 have ge_b4 : w0.heap.size ≤ b4 := by rw [e2]; exact HC.size
 replace HC := HC.then c3
 clear e2
 refine aI rfl <| aI rfl <| en <| sr rfl <| mS rfl <| Wp rfl <| st_call (ags := [_, _]) rfl rfl T.ent38 rfl (RSk_err w _ hs hw he) ?_
 rintro _ w5 ⟨rfl, c6⟩
 replace HC := HC.then c6
 replace hb4 := hb4.tr0 c6
 refine mv (v := .tuple ⟨[_, _]⟩) rfl <| Wp rfl <| st_extract (vs := [_, _]) (v := .int _ _) rfl rfl <| Wp rfl <| st_extract (vs := [_, _]) (v := .int _ _) rfl rfl <| aI rfl <| aI rfl <| en <| x_seq <| sr rfl <| mI rfl <| Wp rfl <| st_neq rfl rfl <| en <| x_cond rfl (fun h0 => ?_) (fun h0 => ?_)
 ·try simp only [nm, ne_eq] at h0
  refine sr rfl <| Wp rfl <| st_bld (ps := []) (vs := [.int _ _, S _, S _, S _, S _, .bool _]) T.bld33 rfl <| mI rfl <| Wp rfl <| st_store (v := .agg ⟨[.int _ _, S _, S _, S _, S _, .bool _]⟩) T.size33 rfl rfl rfl hb4 rfl (Nat.le_of_ble_eq_true rfl) (by simp [Value.oneCell', S]) rfl ?_
  intro w7 c8 hb9; simp only [setVs, setV] at hb9
  clear hb4
  replace HC := HC.then1 c8 ge_b4
  refine aI rfl <| aI rfl <| en <| x_ret <| then_r <| ret_many (vs := [.agg ⟨[_, _, _, _, _, _]⟩, .int _ _, .int _ _]) rfl ⟨⟨_, _, rfl, run_loadVarA T.agg33 (hb9.cells (n := 6) rfl) rfl⟩, ⟨rfl, ⟨rfl, trivial⟩⟩⟩ (Nat.le_of_ble_eq_true rfl) ?_
  exact ⟨rfl, HC⟩
 ·try simp only [nm, ne_eq] at h0
  exfalso; first | omega | simp_all

theorem rdollar_spec {n : Nat} (w : Bytes) (q : Bool) (w0 : World) (hs : w.length < 4294967281) (hw : w ≠ []) (h36 : byte w 0 = 36) (hn : skipL 64 w = .ok n) (hn1 : 1 ≤ n) (hnl : n ≤ w.length) : CallR Tryd.prog 37 #[S w, .bool q] w0 fun v w' => v = .tuple ⟨[.agg ⟨prtC (dollarV q w n).1⟩, .int .i64 ((dollarV q w n).2.1 : Int), .int .i64 (dollarV q w n).2.2]⟩ ∧ Chg [] w0 w' := by
 refine callR_of_wp (args := [_, _]) Tryd.func37 rfl (Nat.le_of_ble_eq_true rfl) ?_
 have HC : Chg [] w0 w0 := .refl _
 have hwp := List.length_pos_iff.2 hw
 have hnm := namedV_le (w.drop 1)
 simp only [List.length_drop] at hnm
 refine sr rfl <| Wp rfl <| st_alloc T.zero33 ?_
 intro b4 w1 e2 c3 hb4
 have ge_b4 : w0.heap.size ≤ b4 := by rw [e2]; exact HC.size
 replace HC := HC.then c3
 clear e2
 refine aI rfl <| aI rfl <| en <| sr rfl <| mS rfl <| Wp rfl <| st_call (ags := [_, _]) rfl rfl T.ent38 rfl (RSk_ok w _ hs hw hn) ?_
 rintro _ w5 ⟨rfl, c6⟩
 replace HC := HC.then c6
 replace hb4 := hb4.tr0 c6
 refine mv (v := .tuple ⟨[_, _]⟩) rfl <| Wp rfl <| st_extract (vs := [_, _]) (v := .int _ _) rfl rfl <| Wp rfl <| st_extract (vs := [_, _]) (v := .int _ _) rfl rfl <| aI rfl <| aI rfl <| en <| x_seq <| sr rfl <| mI rfl <| Wp rfl <| st_neq rfl rfl <| en <| x_cond rfl (fun h0 => ?_) (fun h0 => ?_)
 ·try simp only [nm, ne_eq] at h0
  exfalso; first | exact absurd rfl h0 | exact absurd trivial h0 | simp at h0
 ·try simp only [nm, ne_eq] at h0
  refine x_skip <| then_n <| x_seq <| x_block <| sr rfl <| mS rfl <| Wp rfl <| st_call (ags := [_, _]) rfl rfl T.ent63 rfl (rbegins_spec w [36, 40, 40] _ hs) ?_
  rintro _ w7 ⟨rfl, c8⟩
  replace HC := HC.then c8
  replace hb4 := hb4.tr0 c8
  refine mB rfl <| w_split (d := 24) rfl (fun g9 => ?_) (fun g9 => ?_)
  ·try simp only [nm, ne_eq] at g9
   refine w_yes 2 24 true <| st_move (v := .int _ _) rfl <| w_yes 2 24 true <| st_geq rfl rfl <| pT rfl rfl <| mB rfl <| w_split (d := 28) rfl (fun g10 => ?_) (fun g10 => ?_)
   ·try simp only [nm, ne_eq] at g10
    have hn5 : 5 ≤ n := by first | omega | simp_all
    have hs2 : IntKind.i64.wrap ((n : Int) - 2) = ((n - 2 : Nat) : Int) := by rw [wrap64_id (by omega) (by omega)]; omega
    have hsu := suf_two hnl (by omega : 2 ≤ n)
    refine w_yes 6 28 true <| st_move (v := S _) rfl <| w_yes 6 28 true <| st_move (v := .int _ _) rfl <| w_yes 6 28 true <| st_subk rfl rfl (by exact hs2) <| w_yes 6 28 true <| st_move (v := .int _ _) rfl <| w_yes 6 28 true <| st_sslice (i := n - 2) (j := n) T.u9 rfl ⟨_, rfl⟩ ⟨_, rfl⟩ (by omega) (by omega) <| w_yes 6 28 true <| st_seql rfl rfl <| pT rfl rfl <| aB rfl <| en <| x_cond rfl (fun h1 => ?_) (fun h1 => ?_)
    ·try simp only [nm, ne_eq] at h1
     have hA3 : (Lib.hasPrefix w [36, 40, 40] && decide (4 < n) && hasSuf (w.take n) [41, 41]) = true := by rw [hsu, show Lib.hasPrefix w [36, 40, 40] = true by first | assumption | simp_all, decide_eq_true (by omega)]; first | (rw [decide_eq_true (by assumption)]; rfl) | simp_all
     refine sr rfl <| mS rfl <| mI rfl <| Wp rfl <| st_subk rfl rfl (by exact hs2) <| Wp rfl <| st_sslice (i := 3) (j := n - 2) T.u9 rfl ⟨_, rfl⟩ ⟨_, rfl⟩ (by omega) (by omega) <| mB rfl <| Wp rfl <| st_bld (ps := [(0, .const (.int .i64 3)), (1, .tmp 39), (5, .tmp 40)]) (vs := [.int _ _, S _, S _, S _, S _, .bool _]) T.bld33 rfl <| mI rfl <| Wp rfl <| st_store (v := .agg ⟨[.int _ _, S _, S _, S _, S _, .bool _]⟩) T.size33 rfl rfl rfl hb4 rfl (Nat.le_of_ble_eq_true rfl) (by simp [Value.oneCell', S]) rfl ?_
     intro w11 c12 hb13; simp only [setVs, setV] at hb13
     clear hb4
     replace HC := HC.then1 c12 ge_b4
     refine aI rfl <| aI rfl <| en <| x_ret <| block_r <| then_r <| ret_many (vs := [.agg ⟨[_, _, _, _, _, _]⟩, .int _ _, .int _ _]) rfl ⟨⟨_, _, rfl, run_loadVarA T.agg33 (hb13.cells (n := 6) rfl) rfl⟩, ⟨rfl, ⟨rfl, trivial⟩⟩⟩ (Nat.le_of_ble_eq_true rfl) ?_
     rw [dollarV, if_pos hA3]
     exact ⟨rfl, HC⟩
    ·try simp only [nm, ne_eq] at h1
     have hA3 : ¬ (Lib.hasPrefix w [36, 40, 40] && decide (4 < n) && hasSuf (w.take n) [41, 41]) = true := by have hz9 : hasSuf (w.take n) [41, 41] = false := (by rw [hsu]; exact decide_eq_false (by first | assumption | simp_all)); rw [hz9]; simp
     refine sr rfl <| mS rfl <| Wp rfl <| st_call (ags := [_, _]) rfl rfl T.ent63 rfl (rbegins_spec w [36, 40] _ hs) ?_
     rintro _ w14 ⟨rfl, c15⟩
     replace HC := HC.then c15
     replace hb4 := hb4.tr0 c15
     refine aB rfl <| en <| x_cond rfl (fun h2 => ?_) (fun h2 => ?_)
     ·try simp only [nm, ne_eq] at h2
      have hB : Lib.hasPrefix w [36, 40] = true := by first | assumption | simp_all
      have hn3 := three_le hn hB (.inl rfl)
      have hs1 : IntKind.i64.wrap ((n : Int) - 1) = ((n - 1 : Nat) : Int) := by rw [wrap64_id (by omega) (by omega)]; omega
      refine sr rfl <| mS rfl <| mI rfl <| Wp rfl <| st_subk rfl rfl (by exact hs1) <| Wp rfl <| st_sslice (i := 2) (j := n - 1) T.u9 rfl ⟨_, rfl⟩ ⟨_, rfl⟩ (by omega) (by omega) <| mB rfl <| Wp rfl <| st_bld (ps := [(0, .const (.int .i64 2)), (1, .tmp 49), (5, .tmp 50)]) (vs := [.int _ _, S _, S _, S _, S _, .bool _]) T.bld33 rfl <| mI rfl <| Wp rfl <| st_store (v := .agg ⟨[.int _ _, S _, S _, S _, S _, .bool _]⟩) T.size33 rfl rfl rfl hb4 rfl (Nat.le_of_ble_eq_true rfl) (by simp [Value.oneCell', S]) rfl ?_
      intro w16 c17 hb18; simp only [setVs, setV] at hb18
      clear hb4
      replace HC := HC.then1 c17 ge_b4
      refine aI rfl <| aI rfl <| en <| x_ret <| block_r <| then_r <| ret_many (vs := [.agg ⟨[_, _, _, _, _, _]⟩, .int _ _, .int _ _]) rfl ⟨⟨_, _, rfl, run_loadVarA T.agg33 (hb18.cells (n := 6) rfl) rfl⟩, ⟨rfl, ⟨rfl, trivial⟩⟩⟩ (Nat.le_of_ble_eq_true rfl) ?_
      rw [dollarV, if_neg hA3, if_pos hB]
      exact ⟨rfl, HC⟩
     ·try simp only [nm, ne_eq] at h2
      have hB : ¬ Lib.hasPrefix w [36, 40] = true := by first | assumption | simp_all
      refine sr rfl <| mS rfl <| Wp rfl <| st_call (ags := [_, _]) rfl rfl T.ent63 rfl (rbegins_spec w [36, 123] _ hs) ?_
      rintro _ w19 ⟨rfl, c20⟩
      replace HC := HC.then c20
      replace hb4 := hb4.tr0 c20
      refine aB rfl <| en <| x_cond rfl (fun h3 => ?_) (fun h3 => ?_)
      ·try simp only [nm, ne_eq] at h3
       have hC9 : Lib.hasPrefix w [36, 123] = true := by first | assumption | simp_all
       have hn3 := three_le hn hC9 (.inr rfl)
       have hs1 : IntKind.i64.wrap ((n : Int) - 1) = ((n - 1 : Nat) : Int) := by rw [wrap64_id (by omega) (by omega)]; omega
       refine sr rfl <| mS rfl <| mI rfl <| Wp rfl <| st_subk rfl rfl (by exact hs1) <| Wp rfl <| st_sslice (i := 2) (j := n - 1) T.u9 rfl ⟨_, rfl⟩ ⟨_, rfl⟩ (by omega) (by omega) <| mB rfl <| Wp rfl <| st_call (ags := [_, _]) rfl rfl T.ent64 rfl (rparam_spec ((w.take (n - 1)).drop 2) q _ (by simp only [List.length_drop, List.length_take]; omega)) ?_
       rintro _ w21 ⟨rfl, c22⟩
       replace HC := HC.then c22
       replace hb4 := hb4.tr0 c22
       refine mv (v := .tuple ⟨[_, _]⟩) rfl <| Wp rfl <| st_extract (vs := [_, _]) (v := .agg ⟨[.int _ _, S _, S _, S _, S _, .bool _]⟩) rfl rfl <| Wp rfl <| st_extract (vs := [_, _]) (v := .int _ _) rfl rfl <| Wp rfl <| st_alloc T.zero33 ?_
       intro b9 w23 e24 c25 hb26
       have ge_b9 : w0.heap.size ≤ b9 := by rw [e24]; exact HC.size
       have ne_b4_b9 : b4 ≠ b9 := by rw [e24]; exact hb4.ne_size
       replace HC := HC.then c25
       replace hb4 := hb4.tr0 c25
       clear e24
       refine Wp rfl <| st_store (v := .agg ⟨[.int _ _, S _, S _, S _, S _, .bool _]⟩) T.size33 rfl rfl rfl hb26 rfl (Nat.le_of_ble_eq_true rfl) (by simp [Value.oneCell', S]) rfl ?_
       intro w27 c28 hb29; simp only [setVs, setV] at hb29
       clear hb26
       replace HC := HC.then1 c28 ge_b9
       replace hb4 := hb4.tr1 c28 ne_b4_b9
       refine aI rfl <| en <| sr rfl <| Wp rfl <| st_loadA (vs := [_, _, _, _, _, _]) T.agg33 rfl (hb29.cells (n := 6) (vs := [_, _, _, _, _, _]) rfl) rfl <| mI rfl <| mI rfl <| Wp rfl <| st_store (v := .agg ⟨[.int _ _, S _, S _, S _, S _, .bool _]⟩) T.size33 rfl rfl rfl hb4 rfl (Nat.le_of_ble_eq_true rfl) (by simp [Value.oneCell', S]) rfl ?_
       intro w30 c31 hb32; simp only [setVs, setV] at hb32
       clear hb4
       replace HC := HC.then1 c31 ge_b4
       replace hb29 := hb29.tr1 c31 (Ne.symm ne_b4_b9)
       refine aI rfl <| aI rfl <| en <| x_ret <| block_r <| then_r <| ret_many (vs := [.agg ⟨[_, _, _, _, _, _]⟩, .int _ _, .int _ _]) rfl ⟨⟨_, _, rfl, run_loadVarA T.agg33 (hb32.cells (n := 6) rfl) rfl⟩, ⟨rfl, ⟨rfl, trivial⟩⟩⟩ (Nat.le_of_ble_eq_true rfl) ?_
       rw [dollarV, if_neg hA3, if_neg hB, if_pos hC9]
       exact ⟨rfl, HC⟩
      ·try simp only [nm, ne_eq] at h3
       have hC9 : ¬ Lib.hasPrefix w [36, 123] = true := by first | assumption | simp_all
       refine x_skip <| block_n <| then_n <| sr rfl <| mS rfl <| Wp rfl <| st_sslo (i := 1) T.u9 rfl ⟨_, rfl⟩ (by omega) <| Wp rfl <| st_call (ags := [_]) rfl rfl T.ent22 rfl (rnamed_spec (w.drop 1) _ (by simp only [List.length_drop]; omega)) ?_
       rintro _ w33 ⟨rfl, c34⟩
       replace HC := HC.then c34
       replace hb4 := hb4.tr0 c34
       refine aI rfl <| en <| x_seq <| sr rfl <| mI rfl <| Wp rfl <| st_eql rfl rfl <| en <| x_cond rfl (fun h4 => ?_) (fun h4 => ?_)
       ·try simp only [nm, ne_eq] at h4
        refine sr rfl <| Wp rfl <| st_call (ags := [_, _]) rfl rfl T.ent36 rfl (rtext_spec [36] true _) ?_
        rintro _ w35 ⟨rfl, c36⟩
        replace HC := HC.then c36
        replace hb4 := hb4.tr0 c36
        refine Wp rfl <| st_store (v := .agg ⟨[.int _ _, S _, S _, S _, S _, .bool _]⟩) T.size33 rfl rfl rfl hb4 rfl (Nat.le_of_ble_eq_true rfl) (by simp [Value.oneCell', S]) rfl ?_
        intro w37 c38 hb39; simp only [setVs, setV] at hb39
        clear hb4
        replace HC := HC.then1 c38 ge_b4
        refine aI rfl <| aI rfl <| en <| x_ret <| then_r <| ret_many (vs := [.agg ⟨[_, _, _, _, _, _]⟩, .int _ _, .int _ _]) rfl ⟨⟨_, _, rfl, run_loadVarA T.agg33 (hb39.cells (n := 6) rfl) rfl⟩, ⟨rfl, ⟨rfl, trivial⟩⟩⟩ (Nat.le_of_ble_eq_true rfl) ?_
        rw [dollarV, if_neg hA3, if_neg hB, if_neg hC9, if_pos (by omega)]
        exact ⟨rfl, HC⟩
       ·try simp only [nm, ne_eq] at h4
        have hk0 : ¬ (namedV (w.drop 1)) = 0 := by omega
        refine x_skip <| then_n <| x_seq <| sr rfl <| mS rfl <| Wp rfl <| st_sidx T.u9 rfl rfl (by decide) (by omega) <| Wp rfl <| st_call (ags := [_]) rfl rfl T.ent45 rfl (r1_digit (byte w 1) _) ?_
        rintro _ w40 ⟨rfl, c41⟩
        replace HC := HC.then c41
        replace hb4 := hb4.tr0 c41
        refine en <| x_cond rfl (fun h5 => ?_) (fun h5 => ?_)
        ·try simp only [nm, ne_eq] at h5
         have ha1 : IntKind.i64.wrap (1 + 1) = ((2 : Nat) : Int) := by rw [wrap64_id (by omega) (by omega)]; rfl
         refine x_region rfl <| aI rfl <| en <| sr rfl <| mS rfl <| mI rfl <| Wp rfl <| st_addk rfl rfl (by exact ha1) <| Wp rfl <| st_sslice (i := 1) (j := 2) T.u9 rfl ⟨_, rfl⟩ ⟨_, rfl⟩ (by omega) (by omega) <| mB rfl <| Wp rfl <| st_bld (ps := [(0, .const (.int .i64 1)), (2, .tmp 80), (5, .tmp 81)]) (vs := [.int _ _, S _, S _, S _, S _, .bool _]) T.bld33 rfl <| mI rfl <| Wp rfl <| st_addk rfl rfl (by exact ha1) <| Wp rfl <| st_store (v := .agg ⟨[.int _ _, S _, S _, S _, S _, .bool _]⟩) T.size33 rfl rfl rfl hb4 rfl (Nat.le_of_ble_eq_true rfl) (by simp [Value.oneCell', S]) rfl ?_
         intro w42 c43 hb44; simp only [setVs, setV] at hb44
         clear hb4
         replace HC := HC.then1 c43 ge_b4
         refine aI rfl <| aI rfl <| en <| x_ret <| ret_many (vs := [.agg ⟨[_, _, _, _, _, _]⟩, .int _ _, .int _ _]) rfl ⟨⟨_, _, rfl, run_loadVarA T.agg33 (hb44.cells (n := 6) rfl) rfl⟩, ⟨rfl, ⟨rfl, trivial⟩⟩⟩ (Nat.le_of_ble_eq_true rfl) ?_
         rw [dollarV, if_neg hA3, if_neg hB, if_neg hC9, if_neg hk0, if_pos (by first | assumption | simp_all)]
         exact ⟨rfl, HC⟩
        ·try simp only [nm, ne_eq] at h5
         have ha1 : IntKind.i64.wrap (1 + ((namedV (w.drop 1)) : Int)) = ((1 + (namedV (w.drop 1)) : Nat) : Int) := by rw [wrap64_id (by omega) (by omega)]; omega
         refine x_skip <| then_n <| sr rfl <| mS rfl <| mI rfl <| Wp rfl <| st_addk rfl rfl (by exact ha1) <| Wp rfl <| st_sslice (i := 1) (j := (1 + (namedV (w.drop 1)))) T.u9 rfl ⟨_, rfl⟩ ⟨_, rfl⟩ (by omega) (by omega) <| mB rfl <| Wp rfl <| st_bld (ps := [(0, .const (.int .i64 1)), (2, .tmp 80), (5, .tmp 81)]) (vs := [.int _ _, S _, S _, S _, S _, .bool _]) T.bld33 rfl <| mI rfl <| Wp rfl <| st_addk rfl rfl (by exact ha1) <| Wp rfl <| st_store (v := .agg ⟨[.int _ _, S _, S _, S _, S _, .bool _]⟩) T.size33 rfl rfl rfl hb4 rfl (Nat.le_of_ble_eq_true rfl) (by simp [Value.oneCell', S]) rfl ?_
         intro w45 c46 hb47; simp only [setVs, setV] at hb47
         clear hb4
         replace HC := HC.then1 c46 ge_b4
         refine aI rfl <| aI rfl <| en <| x_ret <| ret_many (vs := [.agg ⟨[_, _, _, _, _, _]⟩, .int _ _, .int _ _]) rfl ⟨⟨_, _, rfl, run_loadVarA T.agg33 (hb47.cells (n := 6) rfl) rfl⟩, ⟨rfl, ⟨rfl, trivial⟩⟩⟩ (Nat.le_of_ble_eq_true rfl) ?_
         rw [dollarV, if_neg hA3, if_neg hB, if_neg hC9, if_neg hk0, if_neg (by first | assumption | simp_all)]
         exact ⟨rfl, HC⟩
   ·try simp only [nm, ne_eq] at g10
    iterate 6 refine w_no 6 28 true ?_
    refine pF rfl rfl <| aB rfl <| en <| x_cond (t := false) rfl (fun h1 => ?_) (fun h1 => ?_)
    · exact absurd h1 (by decide)
    have hA3 : ¬ (Lib.hasPrefix w [36, 40, 40] && decide (4 < n) && hasSuf (w.take n) [41, 41]) = true := by rw [decide_eq_false (by first | omega | simp_all)]; simp
    refine sr rfl <| mS rfl <| Wp rfl <| st_call (ags := [_, _]) rfl rfl T.ent63 rfl (rbegins_spec w [36, 40] _ hs) ?_
    rintro _ w48 ⟨rfl, c49⟩
    replace HC := HC.then c49
    replace hb4 := hb4.tr0 c49
    refine aB rfl <| en <| x_cond rfl (fun h2 => ?_) (fun h2 => ?_)
    ·try simp only [nm, ne_eq] at h2
     have hB : Lib.hasPrefix w [36, 40] = true := by first | assumption | simp_all
     have hn3 := three_le hn hB (.inl rfl)
     have hs1 : IntKind.i64.wrap ((n : Int) - 1) = ((n - 1 : Nat) : Int) := by rw [wrap64_id (by omega) (by omega)]; omega
     refine sr rfl <| mS rfl <| mI rfl <| Wp rfl <| st_subk rfl rfl (by exact hs1) <| Wp rfl <| st_sslice (i := 2) (j := n - 1) T.u9 rfl ⟨_, rfl⟩ ⟨_, rfl⟩ (by omega) (by omega) <| mB rfl <| Wp rfl <| st_bld (ps := [(0, .const (.int .i64 2)), (1, .tmp 49), (5, .tmp 50)]) (vs := [.int _ _, S _, S _, S _, S _, .bool _]) T.bld33 rfl <| mI rfl <| Wp rfl <| st_store (v := .agg ⟨[.int _ _, S _, S _, S _, S _, .bool _]⟩) T.size33 rfl rfl rfl hb4 rfl (Nat.le_of_ble_eq_true rfl) (by simp [Value.oneCell', S]) rfl ?_
     intro w50 c51 hb52; simp only [setVs, setV] at hb52
     clear hb4
     replace HC := HC.then1 c51 ge_b4
     refine aI rfl <| aI rfl <| en <| x_ret <| block_r <| then_r <| ret_many (vs := [.agg ⟨[_, _, _, _, _, _]⟩, .int _ _, .int _ _]) rfl ⟨⟨_, _, rfl, run_loadVarA T.agg33 (hb52.cells (n := 6) rfl) rfl⟩, ⟨rfl, ⟨rfl, trivial⟩⟩⟩ (Nat.le_of_ble_eq_true rfl) ?_
     rw [dollarV, if_neg hA3, if_pos hB]
     exact ⟨rfl, HC⟩
    ·try simp only [nm, ne_eq] at h2
     have hB : ¬ Lib.hasPrefix w [36, 40] = true := by first | assumption | simp_all
     refine sr rfl <| mS rfl <| Wp rfl <| st_call (ags := [_, _]) rfl rfl T.ent63 rfl (rbegins_spec w [36, 123] _ hs) ?_
     rintro _ w53 ⟨rfl, c54⟩
     replace HC := HC.then c54
     replace hb4 := hb4.tr0 c54
     refine aB rfl <| en <| x_cond rfl (fun h3 => ?_) (fun h3 => ?_)
     ·try simp only [nm, ne_eq] at h3
      have hC9 : Lib.hasPrefix w [36, 123] = true := by first | assumption | simp_all
      have hn3 := three_le hn hC9 (.inr rfl)
      have hs1 : IntKind.i64.wrap ((n : Int) - 1) = ((n - 1 : Nat) : Int) := by rw [wrap64_id (by omega) (by omega)]; omega
      refine sr rfl <| mS rfl <| mI rfl <| Wp rfl <| st_subk rfl rfl (by exact hs1) <| Wp rfl <| st_sslice (i := 2) (j := n - 1) T.u9 rfl ⟨_, rfl⟩ ⟨_, rfl⟩ (by omega) (by omega) <| mB rfl <| Wp rfl <| st_call (ags := [_, _]) rfl rfl T.ent64 rfl (rparam_spec ((w.take (n - 1)).drop 2) q _ (by simp only [List.length_drop, List.length_take]; omega)) ?_
      rintro _ w55 ⟨rfl, c56⟩
      replace HC := HC.then c56
      replace hb4 := hb4.tr0 c56
      refine mv (v := .tuple ⟨[_, _]⟩) rfl <| Wp rfl <| st_extract (vs := [_, _]) (v := .agg ⟨[.int _ _, S _, S _, S _, S _, .bool _]⟩) rfl rfl <| Wp rfl <| st_extract (vs := [_, _]) (v := .int _ _) rfl rfl <| Wp rfl <| st_alloc T.zero33 ?_
      intro b9 w57 e58 c59 hb60
      have ge_b9 : w0.heap.size ≤ b9 := by rw [e58]; exact HC.size
      have ne_b4_b9 : b4 ≠ b9 := by rw [e58]; exact hb4.ne_size
      replace HC := HC.then c59
      replace hb4 := hb4.tr0 c59
      clear e58
      refine Wp rfl <| st_store (v := .agg ⟨[.int _ _, S _, S _, S _, S _, .bool _]⟩) T.size33 rfl rfl rfl hb60 rfl (Nat.le_of_ble_eq_true rfl) (by simp [Value.oneCell', S]) rfl ?_
      intro w61 c62 hb63; simp only [setVs, setV] at hb63
      clear hb60
      replace HC := HC.then1 c62 ge_b9
      replace hb4 := hb4.tr1 c62 ne_b4_b9
      refine aI rfl <| en <| sr rfl <| Wp rfl <| st_loadA (vs := [_, _, _, _, _, _]) T.agg33 rfl (hb63.cells (n := 6) (vs := [_, _, _, _, _, _]) rfl) rfl <| mI rfl <| mI rfl <| Wp rfl <| st_store (v := .agg ⟨[.int _ _, S _, S _, S _, S _, .bool _]⟩) T.size33 rfl rfl rfl hb4 rfl (Nat.le_of_ble_eq_true rfl) (by simp [Value.oneCell', S]) rfl ?_
      intro w64 c65 hb66; simp only [setVs, setV] at hb66
      clear hb4
      replace HC := HC.then1 c65 ge_b4
      replace hb63 := hb63.tr1 c65 (Ne.symm ne_b4_b9)
      refine aI rfl <| aI rfl <| en <| x_ret <| block_r <| then_r <| ret_many (vs := [.agg ⟨[_, _, _, _, _, _]⟩, .int _ _, .int _ _]) rfl ⟨⟨_, _, rfl, run_loadVarA T.agg33 (hb66.cells (n := 6) rfl) rfl⟩, ⟨rfl, ⟨rfl, trivial⟩⟩⟩ (Nat.le_of_ble_eq_true rfl) ?_
      rw [dollarV, if_neg hA3, if_neg hB, if_pos hC9]
      exact ⟨rfl, HC⟩
     ·try simp only [nm, ne_eq] at h3
      have hC9 : ¬ Lib.hasPrefix w [36, 123] = true := by first | assumption | simp_all
      refine x_skip <| block_n <| then_n <| sr rfl <| mS rfl <| Wp rfl <| st_sslo (i := 1) T.u9 rfl ⟨_, rfl⟩ (by omega) <| Wp rfl <| st_call (ags := [_]) rfl rfl T.ent22 rfl (rnamed_spec (w.drop 1) _ (by simp only [List.length_drop]; omega)) ?_
      rintro _ w67 ⟨rfl, c68⟩
      replace HC := HC.then c68
      replace hb4 := hb4.tr0 c68
      refine aI rfl <| en <| x_seq <| sr rfl <| mI rfl <| Wp rfl <| st_eql rfl rfl <| en <| x_cond rfl (fun h4 => ?_) (fun h4 => ?_)
      ·try simp only [nm, ne_eq] at h4
       refine sr rfl <| Wp rfl <| st_call (ags := [_, _]) rfl rfl T.ent36 rfl (rtext_spec [36] true _) ?_
       rintro _ w69 ⟨rfl, c70⟩
       replace HC := HC.then c70
       replace hb4 := hb4.tr0 c70
       refine Wp rfl <| st_store (v := .agg ⟨[.int _ _, S _, S _, S _, S _, .bool _]⟩) T.size33 rfl rfl rfl hb4 rfl (Nat.le_of_ble_eq_true rfl) (by simp [Value.oneCell', S]) rfl ?_
       intro w71 c72 hb73; simp only [setVs, setV] at hb73
       clear hb4
       replace HC := HC.then1 c72 ge_b4
       refine aI rfl <| aI rfl <| en <| x_ret <| then_r <| ret_many (vs := [.agg ⟨[_, _, _, _, _, _]⟩, .int _ _, .int _ _]) rfl ⟨⟨_, _, rfl, run_loadVarA T.agg33 (hb73.cells (n := 6) rfl) rfl⟩, ⟨rfl, ⟨rfl, trivial⟩⟩⟩ (Nat.le_of_ble_eq_true rfl) ?_
       rw [dollarV, if_neg hA3, if_neg hB, if_neg hC9, if_pos (by omega)]
       exact ⟨rfl, HC⟩
      ·try simp only [nm, ne_eq] at h4
       have hk0 : ¬ (namedV (w.drop 1)) = 0 := by omega
       refine x_skip <| then_n <| x_seq <| sr rfl <| mS rfl <| Wp rfl <| st_sidx T.u9 rfl rfl (by decide) (by omega) <| Wp rfl <| st_call (ags := [_]) rfl rfl T.ent45 rfl (r1_digit (byte w 1) _) ?_
       rintro _ w74 ⟨rfl, c75⟩
       replace HC := HC.then c75
       replace hb4 := hb4.tr0 c75
       refine en <| x_cond rfl (fun h5 => ?_) (fun h5 => ?_)
       ·try simp only [nm, ne_eq] at h5
        have ha1 : IntKind.i64.wrap (1 + 1) = ((2 : Nat) : Int) := by rw [wrap64_id (by omega) (by omega)]; rfl
        refine x_region rfl <| aI rfl <| en <| sr rfl <| mS rfl <| mI rfl <| Wp rfl <| st_addk rfl rfl (by exact ha1) <| Wp rfl <| st_sslice (i := 1) (j := 2) T.u9 rfl ⟨_, rfl⟩ ⟨_, rfl⟩ (by omega) (by omega) <| mB rfl <| Wp rfl <| st_bld (ps := [(0, .const (.int .i64 1)), (2, .tmp 80), (5, .tmp 81)]) (vs := [.int _ _, S _, S _, S _, S _, .bool _]) T.bld33 rfl <| mI rfl <| Wp rfl <| st_addk rfl rfl (by exact ha1) <| Wp rfl <| st_store (v := .agg ⟨[.int _ _, S _, S _, S _, S _, .bool _]⟩) T.size33 rfl rfl rfl hb4 rfl (Nat.le_of_ble_eq_true rfl) (by simp [Value.oneCell', S]) rfl ?_
        intro w76 c77 hb78; simp only [setVs, setV] at hb78
        clear hb4
        replace HC := HC.then1 c77 ge_b4
        refine aI rfl <| aI rfl <| en <| x_ret <| ret_many (vs := [.agg ⟨[_, _, _, _, _, _]⟩, .int _ _, .int _ _]) rfl ⟨⟨_, _, rfl, run_loadVarA T.agg33 (hb78.cells (n := 6) rfl) rfl⟩, ⟨rfl, ⟨rfl, trivial⟩⟩⟩ (Nat.le_of_ble_eq_true rfl) ?_
        rw [dollarV, if_neg hA3, if_neg hB, if_neg hC9, if_neg hk0, if_pos (by first | assumption | simp_all)]
        exact ⟨rfl, HC⟩
       ·try simp only [nm, ne_eq] at h5
        have ha1 : IntKind.i64.wrap (1 + ((namedV (w.drop 1)) : Int)) = ((1 + (namedV (w.drop 1)) : Nat) : Int) := by rw [wrap64_id (by omega) (by omega)]; omega
        refine x_skip <| then_n <| sr rfl <| mS rfl <| mI rfl <| Wp rfl <| st_addk rfl rfl (by exact ha1) <| Wp rfl <| st_sslice (i := 1) (j := (1 + (namedV (w.drop 1)))) T.u9 rfl ⟨_, rfl⟩ ⟨_, rfl⟩ (by omega) (by omega) <| mB rfl <| Wp rfl <| st_bld (ps := [(0, .const (.int .i64 1)), (2, .tmp 80), (5, .tmp 81)]) (vs := [.int _ _, S _, S _, S _, S _, .bool _]) T.bld33 rfl <| mI rfl <| Wp rfl <| st_addk rfl rfl (by exact ha1) <| Wp rfl <| st_store (v := .agg ⟨[.int _ _, S _, S _, S _, S _, .bool _]⟩) T.size33 rfl rfl rfl hb4 rfl (Nat.le_of_ble_eq_true rfl) (by simp [Value.oneCell', S]) rfl ?_
        intro w79 c80 hb81; simp only [setVs, setV] at hb81
        clear hb4
        replace HC := HC.then1 c80 ge_b4
        refine aI rfl <| aI rfl <| en <| x_ret <| ret_many (vs := [.agg ⟨[_, _, _, _, _, _]⟩, .int _ _, .int _ _]) rfl ⟨⟨_, _, rfl, run_loadVarA T.agg33 (hb81.cells (n := 6) rfl) rfl⟩, ⟨rfl, ⟨rfl, trivial⟩⟩⟩ (Nat.le_of_ble_eq_true rfl) ?_
        rw [dollarV, if_neg hA3, if_neg hB, if_neg hC9, if_neg hk0, if_neg (by first | assumption | simp_all)]
        exact ⟨rfl, HC⟩
  ·try simp only [nm, ne_eq] at g9
   refine w_no 2 24 true <| w_no 2 24 true <| pF rfl rfl <| mB rfl ?_
   iterate 6 refine w_no 6 28 true ?_
   refine pF rfl rfl <| aB rfl <| en <| x_cond (t := false) rfl (fun h1 => ?_) (fun h1 => ?_)
   · exact absurd h1 (by decide)
   have hA3 : ¬ (Lib.hasPrefix w [36, 40, 40] && decide (4 < n) && hasSuf (w.take n) [41, 41]) = true := by rw [show Lib.hasPrefix w [36, 40, 40] = false by first | assumption | simp_all]; simp
   refine sr rfl <| mS rfl <| Wp rfl <| st_call (ags := [_, _]) rfl rfl T.ent63 rfl (rbegins_spec w [36, 40] _ hs) ?_
   rintro _ w82 ⟨rfl, c83⟩
   replace HC := HC.then c83
   replace hb4 := hb4.tr0 c83
   refine aB rfl <| en <| x_cond rfl (fun h2 => ?_) (fun h2 => ?_)
   ·try simp only [nm, ne_eq] at h2
    have hB : Lib.hasPrefix w [36, 40] = true := by first | assumption | simp_all
    have hn3 := three_le hn hB (.inl rfl)
    have hs1 : IntKind.i64.wrap ((n : Int) - 1) = ((n - 1 : Nat) : Int) := by rw [wrap64_id (by omega) (by omega)]; omega
    refine sr rfl <| mS rfl <| mI rfl <| Wp rfl <| st_subk rfl rfl (by exact hs1) <| Wp rfl <| st_sslice (i := 2) (j := n - 1) T.u9 rfl ⟨_, rfl⟩ ⟨_, rfl⟩ (by omega) (by omega) <| mB rfl <| Wp rfl <| st_bld (ps := [(0, .const (.int .i64 2)), (1, .tmp 49), (5, .tmp 50)]) (vs := [.int _ _, S _, S _, S _, S _, .bool _]) T.bld33 rfl <| mI rfl <| Wp rfl <| st_store (v := .agg ⟨[.int _ _, S _, S _, S _, S _, .bool _]⟩) T.size33 rfl rfl rfl hb4 rfl (Nat.le_of_ble_eq_true rfl) (by simp [Value.oneCell', S]) rfl ?_
    intro w84 c85 hb86; simp only [setVs, setV] at hb86
    clear hb4
    replace HC := HC.then1 c85 ge_b4
    refine aI rfl <| aI rfl <| en <| x_ret <| block_r <| then_r <| ret_many (vs := [.agg ⟨[_, _, _, _, _, _]⟩, .int _ _, .int _ _]) rfl ⟨⟨_, _, rfl, run_loadVarA T.agg33 (hb86.cells (n := 6) rfl) rfl⟩, ⟨rfl, ⟨rfl, trivial⟩⟩⟩ (Nat.le_of_ble_eq_true rfl) ?_
    rw [dollarV, if_neg hA3, if_pos hB]
    exact ⟨rfl, HC⟩
   ·try simp only [nm, ne_eq] at h2
    have hB : ¬ Lib.hasPrefix w [36, 40] = true := by first | assumption | simp_all
    refine sr rfl <| mS rfl <| Wp rfl <| st_call (ags := [_, _]) rfl rfl T.ent63 rfl (rbegins_spec w [36, 123] _ hs) ?_
    rintro _ w87 ⟨rfl, c88⟩
    replace HC := HC.then c88
    replace hb4 := hb4.tr0 c88
    refine aB rfl <| en <| x_cond rfl (fun h3 => ?_) (fun h3 => ?_)
    ·try simp only [nm, ne_eq] at h3
     have hC9 : Lib.hasPrefix w [36, 123] = true := by first | assumption | simp_all
     have hn3 := three_le hn hC9 (.inr rfl)
     have hs1 : IntKind.i64.wrap ((n : Int) - 1) = ((n - 1 : Nat) : Int) := by rw [wrap64_id (by omega) (by omega)]; omega
     refine sr rfl <| mS rfl <| mI rfl <| Wp rfl <| st_subk rfl rfl (by exact hs1) <| Wp rfl <| st_sslice (i := 2) (j := n - 1) T.u9 rfl ⟨_, rfl⟩ ⟨_, rfl⟩ (by omega) (by omega) <| mB rfl <| Wp rfl <| st_call (ags := [_, _]) rfl rfl T.ent64 rfl (rparam_spec ((w.take (n - 1)).drop 2) q _ (by simp only [List.length_drop, List.length_take]; omega)) ?_
     rintro _ w89 ⟨rfl, c90⟩
     replace HC := HC.then c90
     replace hb4 := hb4.tr0 c90
     refine mv (v := .tuple ⟨[_, _]⟩) rfl <| Wp rfl <| st_extract (vs := [_, _]) (v := .agg ⟨[.int _ _, S _, S _, S _, S _, .bool _]⟩) rfl rfl <| Wp rfl <| st_extract (vs := [_, _]) (v := .int _ _) rfl rfl <| Wp rfl <| st_alloc T.zero33 ?_
     intro b9 w91 e92 c93 hb94
     have ge_b9 : w0.heap.size ≤ b9 := by rw [e92]; exact HC.size
     have ne_b4_b9 : b4 ≠ b9 := by rw [e92]; exact hb4.ne_size
     replace HC := HC.then c93
     replace hb4 := hb4.tr0 c93
     clear e92
     refine Wp rfl <| st_store (v := .agg ⟨[.int _ _, S _, S _, S _, S _, .bool _]⟩) T.size33 rfl rfl rfl hb94 rfl (Nat.le_of_ble_eq_true rfl) (by simp [Value.oneCell', S]) rfl ?_
     intro w95 c96 hb97; simp only [setVs, setV] at hb97
     clear hb94
     replace HC := HC.then1 c96 ge_b9
     replace hb4 := hb4.tr1 c96 ne_b4_b9
     refine aI rfl <| en <| sr rfl <| Wp rfl <| st_loadA (vs := [_, _, _, _, _, _]) T.agg33 rfl (hb97.cells (n := 6) (vs := [_, _, _, _, _, _]) rfl) rfl <| mI rfl <| mI rfl <| Wp rfl <| st_store (v := .agg ⟨[.int _ _, S _, S _, S _, S _, .bool _]⟩) T.size33 rfl rfl rfl hb4 rfl (Nat.le_of_ble_eq_true rfl) (by simp [Value.oneCell', S]) rfl ?_
     intro w98 c99 hb100; simp only [setVs, setV] at hb100
     clear hb4
     replace HC := HC.then1 c99 ge_b4
     replace hb97 := hb97.tr1 c99 (Ne.symm ne_b4_b9)
     refine aI rfl <| aI rfl <| en <| x_ret <| block_r <| then_r <| ret_many (vs := [.agg ⟨[_, _, _, _, _, _]⟩, .int _ _, .int _ _]) rfl ⟨⟨_, _, rfl, run_loadVarA T.agg33 (hb100.cells (n := 6) rfl) rfl⟩, ⟨rfl, ⟨rfl, trivial⟩⟩⟩ (Nat.le_of_ble_eq_true rfl) ?_
     rw [dollarV, if_neg hA3, if_neg hB, if_pos hC9]
     exact ⟨rfl, HC⟩
    ·try simp only [nm, ne_eq] at h3
     have hC9 : ¬ Lib.hasPrefix w [36, 123] = true := by first | assumption | simp_all
     refine x_skip <| block_n <| then_n <| sr rfl <| mS rfl <| Wp rfl <| st_sslo (i := 1) T.u9 rfl ⟨_, rfl⟩ (by omega) <| Wp rfl <| st_call (ags := [_]) rfl rfl T.ent22 rfl (rnamed_spec (w.drop 1) _ (by simp only [List.length_drop]; omega)) ?_
     rintro _ w101 ⟨rfl, c102⟩
     replace HC := HC.then c102
     replace hb4 := hb4.tr0 c102
     refine aI rfl <| en <| x_seq <| sr rfl <| mI rfl <| Wp rfl <| st_eql rfl rfl <| en <| x_cond rfl (fun h4 => ?_) (fun h4 => ?_)
     ·try simp only [nm, ne_eq] at h4
      refine sr rfl <| Wp rfl <| st_call (ags := [_, _]) rfl rfl T.ent36 rfl (rtext_spec [36] true _) ?_
      rintro _ w103 ⟨rfl, c104⟩
      replace HC := HC.then c104
      replace hb4 := hb4.tr0 c104
      refine Wp rfl <| st_store (v := .agg ⟨[.int _ _, S _, S _, S _, S _, .bool _]⟩) T.size33 rfl rfl rfl hb4 rfl (Nat.le_of_ble_eq_true rfl) (by simp [Value.oneCell', S]) rfl ?_
      intro w105 c106 hb107; simp only [setVs, setV] at hb107
      clear hb4
      replace HC := HC.then1 c106 ge_b4
      refine aI rfl <| aI rfl <| en <| x_ret <| then_r <| ret_many (vs := [.agg ⟨[_, _, _, _, _, _]⟩, .int _ _, .int _ _]) rfl ⟨⟨_, _, rfl, run_loadVarA T.agg33 (hb107.cells (n := 6) rfl) rfl⟩, ⟨rfl, ⟨rfl, trivial⟩⟩⟩ (Nat.le_of_ble_eq_true rfl) ?_
      rw [dollarV, if_neg hA3, if_neg hB, if_neg hC9, if_pos (by omega)]
      exact ⟨rfl, HC⟩
     ·try simp only [nm, ne_eq] at h4
      have hk0 : ¬ (namedV (w.drop 1)) = 0 := by omega
      refine x_skip <| then_n <| x_seq <| sr rfl <| mS rfl <| Wp rfl <| st_sidx T.u9 rfl rfl (by decide) (by omega) <| Wp rfl <| st_call (ags := [_]) rfl rfl T.ent45 rfl (r1_digit (byte w 1) _) ?_
      rintro _ w108 ⟨rfl, c109⟩
      replace HC := HC.then c109
      replace hb4 := hb4.tr0 c109
      refine en <| x_cond rfl (fun h5 => ?_) (fun h5 => ?_)
      ·try simp only [nm, ne_eq] at h5
       have ha1 : IntKind.i64.wrap (1 + 1) = ((2 : Nat) : Int) := by rw [wrap64_id (by omega) (by omega)]; rfl
       refine x_region rfl <| aI rfl <| en <| sr rfl <| mS rfl <| mI rfl <| Wp rfl <| st_addk rfl rfl (by exact ha1) <| Wp rfl <| st_sslice (i := 1) (j := 2) T.u9 rfl ⟨_, rfl⟩ ⟨_, rfl⟩ (by omega) (by omega) <| mB rfl <| Wp rfl <| st_bld (ps := [(0, .const (.int .i64 1)), (2, .tmp 80), (5, .tmp 81)]) (vs := [.int _ _, S _, S _, S _, S _, .bool _]) T.bld33 rfl <| mI rfl <| Wp rfl <| st_addk rfl rfl (by exact ha1) <| Wp rfl <| st_store (v := .agg ⟨[.int _ _, S _, S _, S _, S _, .bool _]⟩) T.size33 rfl rfl rfl hb4 rfl (Nat.le_of_ble_eq_true rfl) (by simp [Value.oneCell', S]) rfl ?_
       intro w110 c111 hb112; simp only [setVs, setV] at hb112
       clear hb4
       replace HC := HC.then1 c111 ge_b4
       refine aI rfl <| aI rfl <| en <| x_ret <| ret_many (vs := [.agg ⟨[_, _, _, _, _, _]⟩, .int _ _, .int _ _]) rfl ⟨⟨_, _, rfl, run_loadVarA T.agg33 (hb112.cells (n := 6) rfl) rfl⟩, ⟨rfl, ⟨rfl, trivial⟩⟩⟩ (Nat.le_of_ble_eq_true rfl) ?_
       rw [dollarV, if_neg hA3, if_neg hB, if_neg hC9, if_neg hk0, if_pos (by first | assumption | simp_all)]
       exact ⟨rfl, HC⟩
      ·try simp only [nm, ne_eq] at h5
       have ha1 : IntKind.i64.wrap (1 + ((namedV (w.drop 1)) : Int)) = ((1 + (namedV (w.drop 1)) : Nat) : Int) := by rw [wrap64_id (by omega) (by omega)]; omega
       refine x_skip <| then_n <| sr rfl <| mS rfl <| mI rfl <| Wp rfl <| st_addk rfl rfl (by exact ha1) <| Wp rfl <| st_sslice (i := 1) (j := (1 + (namedV (w.drop 1)))) T.u9 rfl ⟨_, rfl⟩ ⟨_, rfl⟩ (by omega) (by omega) <| mB rfl <| Wp rfl <| st_bld (ps := [(0, .const (.int .i64 1)), (2, .tmp 80), (5, .tmp 81)]) (vs := [.int _ _, S _, S _, S _, S _, .bool _]) T.bld33 rfl <| mI rfl <| Wp rfl <| st_addk rfl rfl (by exact ha1) <| Wp rfl <| st_store (v := .agg ⟨[.int _ _, S _, S _, S _, S _, .bool _]⟩) T.size33 rfl rfl rfl hb4 rfl (Nat.le_of_ble_eq_true rfl) (by simp [Value.oneCell', S]) rfl ?_
       intro w113 c114 hb115; simp only [setVs, setV] at hb115
       clear hb4
       replace HC := HC.then1 c114 ge_b4
       refine aI rfl <| aI rfl <| en <| x_ret <| ret_many (vs := [.agg ⟨[_, _, _, _, _, _]⟩, .int _ _, .int _ _]) rfl ⟨⟨_, _, rfl, run_loadVarA T.agg33 (hb115.cells (n := 6) rfl) rfl⟩, ⟨rfl, ⟨rfl, trivial⟩⟩⟩ (Nat.le_of_ble_eq_true rfl) ?_
       rw [dollarV, if_neg hA3, if_neg hB, if_neg hC9, if_neg hk0, if_neg (by first | assumption | simp_all)]
       exact ⟨rfl, HC⟩

end Go.Proofs.YtiiahnpgomdfmaaDoor.K
