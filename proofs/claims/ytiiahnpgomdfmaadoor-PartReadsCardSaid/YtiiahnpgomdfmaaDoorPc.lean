/- Parts: what a $ begins. -/
import Derived.Test.YtiiahnpgomdfmaaDoorPb
set_option linter.unusedVariables false
set_option linter.unusedSimpArgs false
set_option autoImplicit false
set_option maxRecDepth 20000
namespace Go.Proofs.YtiiahnpgomdfmaaDoor.K
open Go Go.Proofs Go.RowKit

theorem untick_esc {r : Bytes} (h : 1 < r.length) (h92 : byte r 0 = 92) (hd : byte r 1 = 36 ∨ byte r 1 = 92 ∨ byte r 1 = 96) : untick r = byte r 1 :: untick (r.drop 2) := by
  match r, h with
  | c :: d :: t, _ =>
    have h1 : c = 92 := h92
    have h2 : d = 36 ∨ d = 92 ∨ d = 96 := hd
    show untick (c :: d :: t) = d :: untick t
    rw [untick, if_pos ⟨h1, h2⟩]
theorem untick_on {r : Bytes} (hr : r ≠ []) (h : ¬ (1 < r.length ∧ byte r 0 = 92 ∧ (byte r 1 = 36 ∨ byte r 1 = 92 ∨ byte r 1 = 96))) : untick r = byte r 0 :: untick (r.drop 1) := by
  match r, hr with
  | [c], _ => rfl
  | c :: d :: t, _ =>
    show untick (c :: d :: t) = c :: untick (d :: t)
    rw [untick]; exact if_neg (fun h' => h ⟨by simp, h'⟩)
theorem three_le {w : Bytes} {n : Nat} {d : UInt8} (h : skipL 64 w = .ok n) (hp : Lib.hasPrefix w [36, d] = true) (hd : d = 40 ∨ d = 123) : 3 ≤ n := by
  have h1 : skipA 64 w 0 = .ok n := by rw [skipA, List.drop_zero, h]; rfl
  rcases hd with rfl | rfl
  · rw [skipA_bracket (f := 63) (by rwa [List.drop_zero])] at h1
    obtain ⟨i, h2, rfl⟩ := map_ok h1
    have := untilN_le (fun s k hs hk => skipL_le _ _ _ hs hk) _ _ _ _ h2
    omega
  · rw [skipA_brace (f := 63) (by rwa [List.drop_zero])] at h1
    obtain ⟨i, h2, rfl⟩ := map_ok h1
    have := untilN_le (fun s k hs hk => skipL_le _ _ _ hs hk) _ _ _ _ h2
    omega
def PieceT (w w' : World) (l : List Prt) (n e : Int) (v : Value) : Prop := ∃ A cap, v = .tuple ⟨[.agg ⟨[.slice A l.length cap, .int .i64 n]⟩, .int .i64 e]⟩ ∧ Sl prtE w' (fun k => w.heap.size ≤ k) A l ∧ Chg [] w w'

theorem dollar_spec (m : Int) (w : Bytes) (n : Nat) (w0 : World) (hs : w.length < 4294967281) (hn : n ≤ w.length) (hn1 : 1 ≤ n) (hn2 : ∀ d, (d = 40 ∨ d = 123) → Lib.hasPrefix w [36, d] = true → 3 ≤ n) (ht : Tab w0) : CallR Tryd.prog 61 #[.agg ⟨[.int .i64 m]⟩, S w, .int .i64 (n : Int)] w0 fun v w' => PieceT w0 w' [(dollarV (!decide (m = 0)) w n).1] (dollarV (!decide (m = 0)) w n).2.1 (dollarV (!decide (m = 0)) w n).2.2 v := by
 refine callR_of_wp (args := [_, _, _]) Tryd.func61 rfl (Nat.le_of_ble_eq_true rfl) ?_
 have HC : Chg [] w0 w0 := .refl _
 have ht1 := ht.lt
 have hnl := namedV_le (w.drop 1)
 simp only [List.length_drop] at hnl
 refine sr rfl <| Wp rfl <| st_box (v := .agg ⟨[.int _ _]⟩) (vs := [_]) rfl rfl ?_
 intro b3 w1 e2 c3 hb4
 have ge_b3 : w0.heap.size ≤ b3 := by rw [e2]; exact HC.size
 replace HC := HC.then c3
 replace ht := ht.tr0 c3
 clear e2
 refine Wp rfl <| st_alloc T.zero78 ?_
 intro b6 w5 e6 c7 hb8
 have ge_b6 : w0.heap.size ≤ b6 := by rw [e6]; exact HC.size
 have ne_b3_b6 : b3 ≠ b6 := by rw [e6]; exact hb4.ne_size
 replace HC := HC.then c7
 replace ht := ht.tr0 c7
 replace hb4 := hb4.tr0 c7
 clear e6
 refine aI rfl <| en <| sr rfl <| Wp rfl <| st_loadA (vs := [_]) T.agg46 rfl (hb4.cells (n := 1) (vs := [_]) rfl) rfl <| Wp rfl <| st_call (ags := [_]) rfl rfl T.ent58 rfl (quoted_spec m _) ?_
 rintro _ w9 ⟨rfl, c10⟩
 replace HC := HC.then c10
 replace ht := ht.tr0 c10
 replace hb4 := hb4.tr0 c10
 replace hb8 := hb8.tr0 c10
 refine Wp rfl <| st_bld (ps := [(5, .tmp 13)]) (vs := [.int _ _, S _, S _, S _, S _, .bool _]) T.bld33 rfl <| Wp rfl <| st_alloc T.zero33 ?_
 intro b8 w11 e12 c13 hb14
 have ge_b8 : w0.heap.size ≤ b8 := by rw [e12]; exact HC.size
 have ne_b3_b8 : b3 ≠ b8 := by rw [e12]; exact hb4.ne_size
 have ne_b6_b8 : b6 ≠ b8 := by rw [e12]; exact hb8.ne_size
 replace HC := HC.then c13
 replace ht := ht.tr0 c13
 replace hb4 := hb4.tr0 c13
 replace hb8 := hb8.tr0 c13
 clear e12
 refine Wp rfl <| st_store (v := .agg ⟨[.int _ _, S _, S _, S _, S _, .bool _]⟩) T.size33 rfl rfl rfl hb14 rfl (Nat.le_of_ble_eq_true rfl) (by simp [Value.oneCell', S]) rfl ?_
 intro w15 c16 hb17; simp only [setVs, setV] at hb17
 clear hb14
 replace HC := HC.then1 c16 ge_b8
 replace ht := ht.tr c16 (by intro hx; have := ht.lt; have := ht1; simp only [List.mem_cons, List.mem_nil_iff, or_false] at hx; omega)
 replace hb4 := hb4.tr1 c16 ne_b3_b8
 replace hb8 := hb8.tr1 c16 ne_b6_b8
 refine en <| x_seq <| x_block <| sr rfl <| mS rfl <| Wp rfl <| st_call (ags := [_, _]) rfl rfl T.ent24 rfl (HasPrefix_spec _ _ _) ?_
 rintro _ w18 ⟨rfl, c19⟩
 replace HC := HC.then c19
 replace ht := ht.tr0 c19
 replace hb4 := hb4.tr0 c19
 replace hb8 := hb8.tr0 c19
 replace hb17 := hb17.tr0 c19
 refine mB rfl <| w_split (d := 35) rfl (fun g20 => ?_) (fun g20 => ?_)
 ·try simp only [nm, ne_eq] at g20
  have hA1 : Lib.hasPrefix w [36, 40, 40] = true := by first | assumption | simp_all
  refine w_yes 2 35 true <| st_move (v := .int _ _) rfl <| w_yes 2 35 true <| st_gtr rfl rfl <| pT rfl rfl <| mB rfl <| w_split (d := 39) rfl (fun g21 => ?_) (fun g21 => ?_)
  ·try simp only [nm, ne_eq] at g21
   refine w_yes 6 39 true <| st_move (v := S _) rfl <| w_yes 6 39 true <| st_move (v := .int _ _) rfl <| w_yes 6 39 true <| st_sshi (j := n) T.u9 rfl ⟨_, rfl⟩ (by omega) <| w_yes 6 39 true <| st_call (ags := [_, _]) rfl rfl T.ent86 rfl (HasSuffix_spec (w.take n) [41, 41] _ (by simp only [List.length_take]; omega)) ?_
   rintro _ w22 ⟨rfl, c23⟩
   replace HC := HC.then c23
   replace ht := ht.tr0 c23
   replace hb4 := hb4.tr0 c23
   replace hb8 := hb8.tr0 c23
   replace hb17 := hb17.tr0 c23
   refine pT rfl rfl <| aB rfl <| en <| x_cond rfl (fun h0 => ?_) (fun h0 => ?_)
   ·try simp only [nm, ne_eq] at h0
    have hn5 : 4 < n := by first | omega | simp_all
    have hs2 : IntKind.i64.wrap ((n : Int) - 2) = ((n - 2 : Nat) : Int) := by rw [wrap64_id (by omega) (by omega)]; omega
    refine x_draw [(0, 0), (1, 0), (2, 0), (3, 0), (4, 0), (5, 1), (6, 0), (7, 2)] T.mixed rfl rfl rfl (fun W => W.heap[b3]? = w22.heap[b3]? ∧ W.heap[b6]? = w22.heap[b6]? ∧ True) ⟨rfl, rfl, trivial⟩ ?_
    have o26 := hb4
    have o27 := hb8
    have c25 := Chg.drew w22
    generalize World.drew w22 = w24 at c25 ⊢
    replace HC := HC.then c25
    replace ht := ht.tr0 c25
    replace hb4 := hb4.tr0 c25
    replace hb8 := hb8.tr0 c25
    replace hb17 := hb17.tr0 c25
    refine sq_q rfl (fun W hT => r_move (v := S _) rfl) <| sq_q rfl (fun W hT => r_move (v := .int _ _) rfl) <| sq_q rfl (fun W hT => r_subk rfl rfl (by exact hs2)) <| sq_q rfl (fun W hT => r_sslice (i := 3) (j := n - 2) T.u9 rfl ⟨_, rfl⟩ ⟨_, rfl⟩ (by omega) (by omega)) <| sq_q rfl (fun W hT => r_fieldAddr T.fld33_0 rfl) <| sq_store1 rfl T.size3 (v := .int _ _) rfl rfl rfl hb17 rfl (Nat.le_of_ble_eq_true rfl) (by simp [Value.oneCell', S]) rfl ?_
    intro w28 c29 hb30; simp only [setVs, setV] at hb30
    clear hb17
    replace HC := HC.then1 c29 ge_b8
    replace ht := ht.tr c29 (by intro hx; have := ht.lt; have := ht1; simp only [List.mem_cons, List.mem_nil_iff, or_false] at hx; omega)
    replace hb4 := hb4.tr1 c29 ne_b3_b8
    replace hb8 := hb8.tr1 c29 ne_b6_b8
    refine ⟨_, fun _ h => h, ⟨(Eq.trans hb4 o26.symm), (Eq.trans hb8 o27.symm), trivial⟩, ?_⟩
    refine sq_q rfl (fun W hT => r_fieldAddr T.fld33_1 rfl) <| sq_store2 rfl T.size9 (v := S _) rfl rfl rfl hb30 rfl (Nat.le_of_ble_eq_true rfl) (by simp [Value.oneCell', S]) rfl ?_
    intro w31 c32 hb33; simp only [setVs, setV] at hb33
    clear hb30
    replace HC := HC.then1 c32 ge_b8
    replace ht := ht.tr c32 (by intro hx; have := ht.lt; have := ht1; simp only [List.mem_cons, List.mem_nil_iff, or_false] at hx; omega)
    replace hb4 := hb4.tr1 c32 ne_b3_b8
    replace hb8 := hb8.tr1 c32 ne_b6_b8
    clear o26
    clear o27
    refine sq_nil <| block_n <| then_n <| sr rfl <| Wp rfl <| st_loadA (vs := [_, _, _, _, _, _]) T.agg33 rfl (hb33.cells (n := 6) (vs := [_, _, _, _, _, _]) rfl) rfl <| mI rfl <| Wp rfl <| st_call (ags := [_, _]) rfl rfl T.ent85 rfl (one_spec ⟨3, (w.take (n - 2)).drop 3, [], [], [], (!decide (m = 0))⟩ n _) ?_
    have lt1_hsl_b3 := hb4.lt
    have lt1_hsl_b6 := hb8.lt
    have lt1_hsl_b8 := hb33.lt
    have sz1_hsl := HC.size
    rintro _ w34 ⟨A, cap, rfl, hsl, c35⟩
    replace HC := HC.then c35
    replace ht := ht.tr0 c35
    replace hb4 := hb4.tr0 c35
    replace hb8 := hb8.tr0 c35
    replace hb33 := hb33.tr0 c35
    refine Wp rfl <| st_store (v := .agg ⟨[.slice _ _ _, .int _ _]⟩) T.size78 rfl rfl rfl hb8 rfl (Nat.le_of_ble_eq_true rfl) (by simp [Value.oneCell', S]) rfl ?_
    intro w36 c37 hb38; simp only [setVs, setV] at hb38
    clear hb8
    replace HC := HC.then1 c37 ge_b6
    replace ht := ht.tr c37 (by intro hx; have := ht.lt; have := ht1; simp only [List.mem_cons, List.mem_nil_iff, or_false] at hx; omega)
    replace hb4 := hb4.tr1 c37 ne_b3_b6
    replace hb33 := hb33.tr1 c37 (Ne.symm ne_b6_b8)
    replace hsl := hsl.tr c37 (by intro k hx hD; simp only [List.mem_singleton] at hx; subst hx; omega)
    refine aI rfl <| en <| x_ret <| ret_many (vs := [.agg ⟨[_, _]⟩, .int _ _]) rfl ⟨⟨_, _, rfl, run_loadVarA T.agg78 (hb38.cells (n := 2) rfl) rfl⟩, ⟨rfl, trivial⟩⟩ (Nat.le_of_ble_eq_true rfl) <| (?_ : PieceT _ _ _ _ _ _)
    rw [dollarV, if_pos (by simp_all)]
    exact ⟨_, _, rfl, (hsl.mono (fun k _ h => Nat.le_trans sz1_hsl h)), HC⟩
   ·try simp only [nm, ne_eq] at h0
    refine sr rfl <| mS rfl <| Wp rfl <| st_call (ags := [_, _]) rfl rfl T.ent24 rfl (HasPrefix_spec _ _ _) ?_
    rintro _ w39 ⟨rfl, c40⟩
    replace HC := HC.then c40
    replace ht := ht.tr0 c40
    replace hb4 := hb4.tr0 c40
    replace hb8 := hb8.tr0 c40
    replace hb17 := hb17.tr0 c40
    refine aB rfl <| en <| x_cond rfl (fun h1 => ?_) (fun h1 => ?_)
    ·try simp only [nm, ne_eq] at h1
     have hn3 := hn2 40 (.inl rfl) h1
     have hs1 : IntKind.i64.wrap ((n : Int) - 1) = ((n - 1 : Nat) : Int) := by rw [wrap64_id (by omega) (by omega)]; omega
     refine x_draw [(0, 0), (1, 0), (2, 0), (3, 0), (4, 0), (5, 1), (6, 0), (7, 2)] T.mixed rfl rfl rfl (fun W => W.heap[b3]? = w39.heap[b3]? ∧ W.heap[b6]? = w39.heap[b6]? ∧ True) ⟨rfl, rfl, trivial⟩ ?_
     have o43 := hb4
     have o44 := hb8
     have c42 := Chg.drew w39
     generalize World.drew w39 = w41 at c42 ⊢
     replace HC := HC.then c42
     replace ht := ht.tr0 c42
     replace hb4 := hb4.tr0 c42
     replace hb8 := hb8.tr0 c42
     replace hb17 := hb17.tr0 c42
     refine sq_q rfl (fun W hT => r_move (v := S _) rfl) <| sq_q rfl (fun W hT => r_move (v := .int _ _) rfl) <| sq_q rfl (fun W hT => r_subk rfl rfl (by exact hs1)) <| sq_q rfl (fun W hT => r_sslice (i := 2) (j := n - 1) T.u9 rfl ⟨_, rfl⟩ ⟨_, rfl⟩ (by omega) (by omega)) <| sq_q rfl (fun W hT => r_fieldAddr T.fld33_0 rfl) <| sq_store1 rfl T.size3 (v := .int _ _) rfl rfl rfl hb17 rfl (Nat.le_of_ble_eq_true rfl) (by simp [Value.oneCell', S]) rfl ?_
     intro w45 c46 hb47; simp only [setVs, setV] at hb47
     clear hb17
     replace HC := HC.then1 c46 ge_b8
     replace ht := ht.tr c46 (by intro hx; have := ht.lt; have := ht1; simp only [List.mem_cons, List.mem_nil_iff, or_false] at hx; omega)
     replace hb4 := hb4.tr1 c46 ne_b3_b8
     replace hb8 := hb8.tr1 c46 ne_b6_b8
     refine ⟨_, fun _ h => h, ⟨(Eq.trans hb4 o43.symm), (Eq.trans hb8 o44.symm), trivial⟩, ?_⟩
     refine sq_q rfl (fun W hT => r_fieldAddr T.fld33_1 rfl) <| sq_store2 rfl T.size9 (v := S _) rfl rfl rfl hb47 rfl (Nat.le_of_ble_eq_true rfl) (by simp [Value.oneCell', S]) rfl ?_
     intro w48 c49 hb50; simp only [setVs, setV] at hb50
     clear hb47
     replace HC := HC.then1 c49 ge_b8
     replace ht := ht.tr c49 (by intro hx; have := ht.lt; have := ht1; simp only [List.mem_cons, List.mem_nil_iff, or_false] at hx; omega)
     replace hb4 := hb4.tr1 c49 ne_b3_b8
     replace hb8 := hb8.tr1 c49 ne_b6_b8
     clear o43
     clear o44
     refine sq_nil <| block_n <| then_n <| sr rfl <| Wp rfl <| st_loadA (vs := [_, _, _, _, _, _]) T.agg33 rfl (hb50.cells (n := 6) (vs := [_, _, _, _, _, _]) rfl) rfl <| mI rfl <| Wp rfl <| st_call (ags := [_, _]) rfl rfl T.ent85 rfl (one_spec ⟨2, (w.take (n - 1)).drop 2, [], [], [], (!decide (m = 0))⟩ n _) ?_
     have lt1_hsl_b3 := hb4.lt
     have lt1_hsl_b6 := hb8.lt
     have lt1_hsl_b8 := hb50.lt
     have sz1_hsl := HC.size
     rintro _ w51 ⟨A, cap, rfl, hsl, c52⟩
     replace HC := HC.then c52
     replace ht := ht.tr0 c52
     replace hb4 := hb4.tr0 c52
     replace hb8 := hb8.tr0 c52
     replace hb50 := hb50.tr0 c52
     refine Wp rfl <| st_store (v := .agg ⟨[.slice _ _ _, .int _ _]⟩) T.size78 rfl rfl rfl hb8 rfl (Nat.le_of_ble_eq_true rfl) (by simp [Value.oneCell', S]) rfl ?_
     intro w53 c54 hb55; simp only [setVs, setV] at hb55
     clear hb8
     replace HC := HC.then1 c54 ge_b6
     replace ht := ht.tr c54 (by intro hx; have := ht.lt; have := ht1; simp only [List.mem_cons, List.mem_nil_iff, or_false] at hx; omega)
     replace hb4 := hb4.tr1 c54 ne_b3_b6
     replace hb50 := hb50.tr1 c54 (Ne.symm ne_b6_b8)
     replace hsl := hsl.tr c54 (by intro k hx hD; simp only [List.mem_singleton] at hx; subst hx; omega)
     refine aI rfl <| en <| x_ret <| ret_many (vs := [.agg ⟨[_, _]⟩, .int _ _]) rfl ⟨⟨_, _, rfl, run_loadVarA T.agg78 (hb55.cells (n := 2) rfl) rfl⟩, ⟨rfl, trivial⟩⟩ (Nat.le_of_ble_eq_true rfl) <| (?_ : PieceT _ _ _ _ _ _)
     rw [dollarV, if_neg (by first | (rw [hA1]; simp; done) | (rw [hA1]; simp; intro h9; first | assumption | (exfalso; omega) | simp_all)), if_pos h1]
     exact ⟨_, _, rfl, (hsl.mono (fun k _ h => Nat.le_trans sz1_hsl h)), HC⟩
    ·try simp only [nm, ne_eq] at h1
     refine sr rfl <| mS rfl <| Wp rfl <| st_call (ags := [_, _]) rfl rfl T.ent24 rfl (HasPrefix_spec _ _ _) ?_
     rintro _ w56 ⟨rfl, c57⟩
     replace HC := HC.then c57
     replace ht := ht.tr0 c57
     replace hb4 := hb4.tr0 c57
     replace hb8 := hb8.tr0 c57
     replace hb17 := hb17.tr0 c57
     refine aB rfl <| en <| x_cond rfl (fun h2 => ?_) (fun h2 => ?_)
     ·try simp only [nm, ne_eq] at h2
      have hn3 := hn2 123 (.inr rfl) h2
      have hs1 : IntKind.i64.wrap ((n : Int) - 1) = ((n - 1 : Nat) : Int) := by rw [wrap64_id (by omega) (by omega)]; omega
      refine x_seq <| x_open [0, 1, 2, 3, 4] (.br 5 [6, 7, 8] (.br 9 [] (.br 10 [11] (.stop) (.nil)) (.nil)) (.br 9 [] (.br 5 [6, 7, 8] (.br 10 [11] (.stop) (.nil)) (.nil)) (.nil))) T.mixed rfl rfl (fun W => W.heap[b3]? = w56.heap[b3]? ∧ W.heap[b6]? = w56.heap[b6]? ∧ W.heap[b8]? = w56.heap[b8]? ∧ True) ⟨rfl, rfl, rfl, trivial⟩ ?_
      have o60 := hb4
      have o61 := hb8
      have o62 := hb17
      have c59 := Chg.drew w56
      generalize World.drew w56 = w58 at c59 ⊢
      replace HC := HC.then c59
      replace ht := ht.tr0 c59
      replace hb4 := hb4.tr0 c59
      replace hb8 := hb8.tr0 c59
      replace hb17 := hb17.tr0 c59
      refine sq_q rfl (fun W hT => r_loadA (vs := [_]) T.agg46 rfl (Blk.cells (n := 1) (vs := [_]) (show Blk W b3 _ _ from hT.1.trans o60) rfl) rfl) <| sq_q rfl (fun W hT => r_move (v := S _) rfl) <| sq_q rfl (fun W hT => r_move (v := .int _ _) rfl) <| sq_q rfl (fun W hT => r_subk rfl rfl (by exact hs1)) <| sq_q rfl (fun W hT => r_sslice (i := 2) (j := n - 1) T.u9 rfl ⟨_, rfl⟩ ⟨_, rfl⟩ (by omega) (by omega)) <| sq_nil <| tr_br ?_ ?_
      ·refine sq_call1 rfl (r_call (ags := [_, _]) rfl rfl T.ent87 rfl) (param_spec m ((w.take (n - 1)).drop 2) _ (by simp only [List.length_drop, List.length_take]; omega) ht) ?_
       rintro _ w63 ⟨rfl, c64⟩
       replace HC := HC.then c64
       replace ht := ht.tr0 c64
       replace hb4 := hb4.tr0 c64
       replace hb8 := hb8.tr0 c64
       replace hb17 := hb17.tr0 c64
       refine ⟨_, fun _ h => h, ⟨(Eq.trans hb4 o60.symm), (Eq.trans hb8 o61.symm), (Eq.trans hb17 o62.symm), trivial⟩, ?_⟩
       refine sq_q rfl (fun W hT => r_move (v := .tuple ⟨[_, _]⟩) rfl) <| sq_q rfl (fun W hT => r_extract (vs := [_, _]) (v := .agg ⟨[.int _ _, S _, S _, S _, S _, .bool _]⟩) rfl rfl) <| sq_q rfl (fun W hT => r_extract (vs := [_, _]) (v := .int _ _) rfl rfl) <| sq_nil <| tr_br ?_ ?_
       ·refine sq_alloc1 rfl T.zero33 ?_
        intro b9 w65 e66 c67 hb68
        have ge_b9 : w0.heap.size ≤ b9 := by rw [e66]; exact HC.size
        have ne_b3_b9 : b3 ≠ b9 := by rw [e66]; exact hb4.ne_size
        have ne_b6_b9 : b6 ≠ b9 := by rw [e66]; exact hb8.ne_size
        have ne_b8_b9 : b8 ≠ b9 := by rw [e66]; exact hb17.ne_size
        replace HC := HC.then c67
        replace ht := ht.tr0 c67
        replace hb4 := hb4.tr0 c67
        replace hb8 := hb8.tr0 c67
        replace hb17 := hb17.tr0 c67
        clear e66
        refine ⟨_, fun _ h => h, ⟨(Eq.trans hb4 o60.symm), (Eq.trans hb8 o61.symm), (Eq.trans hb17 o62.symm), trivial⟩, ?_⟩
        refine sq_nil <| tr_br ?_ ?_
        ·refine sq_store1 rfl T.size33 (v := .agg ⟨[.int _ _, S _, S _, S _, S _, .bool _]⟩) rfl rfl rfl hb68 rfl (Nat.le_of_ble_eq_true rfl) (by simp [Value.oneCell', S]) rfl ?_
         intro w69 c70 hb71; simp only [setVs, setV] at hb71
         clear hb68
         replace HC := HC.then1 c70 ge_b9
         replace ht := ht.tr c70 (by intro hx; have := ht.lt; have := ht1; simp only [List.mem_cons, List.mem_nil_iff, or_false] at hx; omega)
         replace hb4 := hb4.tr1 c70 ne_b3_b9
         replace hb8 := hb8.tr1 c70 ne_b6_b9
         replace hb17 := hb17.tr1 c70 ne_b8_b9
         refine ⟨_, fun _ h => h, ⟨(Eq.trans hb4 o60.symm), (Eq.trans hb8 o61.symm), (Eq.trans hb17 o62.symm), trivial⟩, ?_⟩
         refine sq_q rfl (fun W hT => r_assign (v := .int _ _) rfl) <| sq_nil ?_
         clear o60
         clear o61
         clear o62
         refine tr_stop <| then_n <| sr rfl <| Wp rfl <| st_loadA (vs := [_, _, _, _, _, _]) T.agg33 rfl (hb71.cells (n := 6) (vs := [_, _, _, _, _, _]) rfl) rfl <| mI rfl <| Wp rfl <| st_call (ags := [_, _]) rfl rfl T.ent85 rfl (one_spec (paramV (!decide (m = 0)) ((w.take (n - 1)).drop 2)).1 n _) ?_
         have lt1_hsl_b3 := hb4.lt
         have lt1_hsl_b6 := hb8.lt
         have lt1_hsl_b8 := hb17.lt
         have lt1_hsl_b9 := hb71.lt
         have sz1_hsl := HC.size
         rintro _ w72 ⟨A, cap, rfl, hsl, c73⟩
         replace HC := HC.then c73
         replace ht := ht.tr0 c73
         replace hb4 := hb4.tr0 c73
         replace hb8 := hb8.tr0 c73
         replace hb17 := hb17.tr0 c73
         replace hb71 := hb71.tr0 c73
         refine mI rfl <| Wp rfl <| st_store (v := .agg ⟨[.slice _ _ _, .int _ _]⟩) T.size78 rfl rfl rfl hb8 rfl (Nat.le_of_ble_eq_true rfl) (by simp [Value.oneCell', S]) rfl ?_
         intro w74 c75 hb76; simp only [setVs, setV] at hb76
         clear hb8
         replace HC := HC.then1 c75 ge_b6
         replace ht := ht.tr c75 (by intro hx; have := ht.lt; have := ht1; simp only [List.mem_cons, List.mem_nil_iff, or_false] at hx; omega)
         replace hb4 := hb4.tr1 c75 ne_b3_b6
         replace hb17 := hb17.tr1 c75 (Ne.symm ne_b6_b8)
         replace hb71 := hb71.tr1 c75 (Ne.symm ne_b6_b9)
         replace hsl := hsl.tr c75 (by intro k hx hD; simp only [List.mem_singleton] at hx; subst hx; omega)
         refine aI rfl <| en <| x_ret <| block_r <| then_r <| ret_many (vs := [.agg ⟨[_, _]⟩, .int _ _]) rfl ⟨⟨_, _, rfl, run_loadVarA T.agg78 (hb76.cells (n := 2) rfl) rfl⟩, ⟨rfl, trivial⟩⟩ (Nat.le_of_ble_eq_true rfl) <| (?_ : PieceT _ _ _ _ _ _)
         rw [dollarV, if_neg (by first | (rw [hA1]; simp; done) | (rw [hA1]; simp; intro h9; first | assumption | (exfalso; omega) | simp_all)), if_neg (by rw [h1]; simp), if_pos h2]
         exact ⟨_, _, rfl, (hsl.mono (fun k _ h => Nat.le_trans sz1_hsl h)), HC⟩
        exact tr_nil
       exact tr_nil
      refine tr_br ?_ ?_
      ·refine sq_alloc1 rfl T.zero33 ?_
       intro b9 w77 e78 c79 hb80
       have ge_b9 : w0.heap.size ≤ b9 := by rw [e78]; exact HC.size
       have ne_b3_b9 : b3 ≠ b9 := by rw [e78]; exact hb4.ne_size
       have ne_b6_b9 : b6 ≠ b9 := by rw [e78]; exact hb8.ne_size
       have ne_b8_b9 : b8 ≠ b9 := by rw [e78]; exact hb17.ne_size
       replace HC := HC.then c79
       replace ht := ht.tr0 c79
       replace hb4 := hb4.tr0 c79
       replace hb8 := hb8.tr0 c79
       replace hb17 := hb17.tr0 c79
       clear e78
       refine ⟨_, fun _ h => h, ⟨(Eq.trans hb4 o60.symm), (Eq.trans hb8 o61.symm), (Eq.trans hb17 o62.symm), trivial⟩, ?_⟩
       refine sq_nil <| tr_br ?_ ?_
       ·refine sq_call1 rfl (r_call (ags := [_, _]) rfl rfl T.ent87 rfl) (param_spec m ((w.take (n - 1)).drop 2) _ (by simp only [List.length_drop, List.length_take]; omega) ht) ?_
        rintro _ w81 ⟨rfl, c82⟩
        replace HC := HC.then c82
        replace ht := ht.tr0 c82
        replace hb4 := hb4.tr0 c82
        replace hb8 := hb8.tr0 c82
        replace hb17 := hb17.tr0 c82
        replace hb80 := hb80.tr0 c82
        refine ⟨_, fun _ h => h, ⟨(Eq.trans hb4 o60.symm), (Eq.trans hb8 o61.symm), (Eq.trans hb17 o62.symm), trivial⟩, ?_⟩
        refine sq_q rfl (fun W hT => r_move (v := .tuple ⟨[_, _]⟩) rfl) <| sq_q rfl (fun W hT => r_extract (vs := [_, _]) (v := .agg ⟨[.int _ _, S _, S _, S _, S _, .bool _]⟩) rfl rfl) <| sq_q rfl (fun W hT => r_extract (vs := [_, _]) (v := .int _ _) rfl rfl) <| sq_nil <| tr_br ?_ ?_
        ·refine sq_store1 rfl T.size33 (v := .agg ⟨[.int _ _, S _, S _, S _, S _, .bool _]⟩) rfl rfl rfl hb80 rfl (Nat.le_of_ble_eq_true rfl) (by simp [Value.oneCell', S]) rfl ?_
         intro w83 c84 hb85; simp only [setVs, setV] at hb85
         clear hb80
         replace HC := HC.then1 c84 ge_b9
         replace ht := ht.tr c84 (by intro hx; have := ht.lt; have := ht1; simp only [List.mem_cons, List.mem_nil_iff, or_false] at hx; omega)
         replace hb4 := hb4.tr1 c84 ne_b3_b9
         replace hb8 := hb8.tr1 c84 ne_b6_b9
         replace hb17 := hb17.tr1 c84 ne_b8_b9
         refine ⟨_, fun _ h => h, ⟨(Eq.trans hb4 o60.symm), (Eq.trans hb8 o61.symm), (Eq.trans hb17 o62.symm), trivial⟩, ?_⟩
         refine sq_q rfl (fun W hT => r_assign (v := .int _ _) rfl) <| sq_nil ?_
         clear o60
         clear o61
         clear o62
         refine tr_stop <| then_n <| sr rfl <| Wp rfl <| st_loadA (vs := [_, _, _, _, _, _]) T.agg33 rfl (hb85.cells (n := 6) (vs := [_, _, _, _, _, _]) rfl) rfl <| mI rfl <| Wp rfl <| st_call (ags := [_, _]) rfl rfl T.ent85 rfl (one_spec (paramV (!decide (m = 0)) ((w.take (n - 1)).drop 2)).1 n _) ?_
         have lt1_hsl_b3 := hb4.lt
         have lt1_hsl_b6 := hb8.lt
         have lt1_hsl_b8 := hb17.lt
         have lt1_hsl_b9 := hb85.lt
         have sz1_hsl := HC.size
         rintro _ w86 ⟨A, cap, rfl, hsl, c87⟩
         replace HC := HC.then c87
         replace ht := ht.tr0 c87
         replace hb4 := hb4.tr0 c87
         replace hb8 := hb8.tr0 c87
         replace hb17 := hb17.tr0 c87
         replace hb85 := hb85.tr0 c87
         refine mI rfl <| Wp rfl <| st_store (v := .agg ⟨[.slice _ _ _, .int _ _]⟩) T.size78 rfl rfl rfl hb8 rfl (Nat.le_of_ble_eq_true rfl) (by simp [Value.oneCell', S]) rfl ?_
         intro w88 c89 hb90; simp only [setVs, setV] at hb90
         clear hb8
         replace HC := HC.then1 c89 ge_b6
         replace ht := ht.tr c89 (by intro hx; have := ht.lt; have := ht1; simp only [List.mem_cons, List.mem_nil_iff, or_false] at hx; omega)
         replace hb4 := hb4.tr1 c89 ne_b3_b6
         replace hb17 := hb17.tr1 c89 (Ne.symm ne_b6_b8)
         replace hb85 := hb85.tr1 c89 (Ne.symm ne_b6_b9)
         replace hsl := hsl.tr c89 (by intro k hx hD; simp only [List.mem_singleton] at hx; subst hx; omega)
         refine aI rfl <| en <| x_ret <| block_r <| then_r <| ret_many (vs := [.agg ⟨[_, _]⟩, .int _ _]) rfl ⟨⟨_, _, rfl, run_loadVarA T.agg78 (hb90.cells (n := 2) rfl) rfl⟩, ⟨rfl, trivial⟩⟩ (Nat.le_of_ble_eq_true rfl) <| (?_ : PieceT _ _ _ _ _ _)
         rw [dollarV, if_neg (by first | (rw [hA1]; simp; done) | (rw [hA1]; simp; intro h9; first | assumption | (exfalso; omega) | simp_all)), if_neg (by rw [h1]; simp), if_pos h2]
         exact ⟨_, _, rfl, (hsl.mono (fun k _ h => Nat.le_trans sz1_hsl h)), HC⟩
        exact tr_nil
       exact tr_nil
      exact tr_nil
     ·try simp only [nm, ne_eq] at h2
      refine sr rfl <| mS rfl <| Wp rfl <| st_sslo (i := 1) T.u9 rfl ⟨_, rfl⟩ (by omega) <| Wp rfl <| st_call (ags := [_]) rfl rfl T.ent21 rfl (named_spec (w.drop 1) _ (by simp only [List.length_drop]; omega)) ?_
      rintro _ w91 ⟨rfl, c92⟩
      replace HC := HC.then c92
      replace ht := ht.tr0 c92
      replace hb4 := hb4.tr0 c92
      replace hb8 := hb8.tr0 c92
      replace hb17 := hb17.tr0 c92
      refine aI rfl <| en <| x_seq <| sr rfl <| mI rfl <| Wp rfl <| st_eql rfl rfl <| en <| x_cond rfl (fun h3 => ?_) (fun h3 => ?_)
      ·try simp only [nm, ne_eq] at h3
       refine sr rfl <| Wp rfl <| st_call (ags := [_, _, _]) rfl rfl T.ent60 rfl (text_spec [36] true 1 _) ?_
       have lt1_hsl_b3 := hb4.lt
       have lt1_hsl_b6 := hb8.lt
       have lt1_hsl_b8 := hb17.lt
       have sz1_hsl := HC.size
       rintro _ w93 ⟨A, cap, rfl, hsl, c94⟩
       replace HC := HC.then c94
       replace ht := ht.tr0 c94
       replace hb4 := hb4.tr0 c94
       replace hb8 := hb8.tr0 c94
       replace hb17 := hb17.tr0 c94
       refine Wp rfl <| st_store (v := .agg ⟨[.slice _ _ _, .int _ _]⟩) T.size78 rfl rfl rfl hb8 rfl (Nat.le_of_ble_eq_true rfl) (by simp [Value.oneCell', S]) rfl ?_
       intro w95 c96 hb97; simp only [setVs, setV] at hb97
       clear hb8
       replace HC := HC.then1 c96 ge_b6
       replace ht := ht.tr c96 (by intro hx; have := ht.lt; have := ht1; simp only [List.mem_cons, List.mem_nil_iff, or_false] at hx; omega)
       replace hb4 := hb4.tr1 c96 ne_b3_b6
       replace hb17 := hb17.tr1 c96 (Ne.symm ne_b6_b8)
       replace hsl := hsl.tr c96 (by intro k hx hD; simp only [List.mem_singleton] at hx; subst hx; omega)
       refine aI rfl <| en <| x_ret <| then_r <| block_r <| then_r <| ret_many (vs := [.agg ⟨[_, _]⟩, .int _ _]) rfl ⟨⟨_, _, rfl, run_loadVarA T.agg78 (hb97.cells (n := 2) rfl) rfl⟩, ⟨rfl, trivial⟩⟩ (Nat.le_of_ble_eq_true rfl) <| (?_ : PieceT _ _ _ _ _ _)
       rw [dollarV, if_neg (by first | (rw [hA1]; simp; done) | (rw [hA1]; simp; intro h9; first | assumption | (exfalso; omega) | simp_all)), if_neg (by rw [h1]; simp), if_neg (by rw [h2]; simp), if_pos (by omega)]
       exact ⟨_, _, rfl, (hsl.mono (fun k _ h => Nat.le_trans sz1_hsl h)), HC⟩
      ·try simp only [nm, ne_eq] at h3
       have hk0 : ¬ (namedV (w.drop 1)) = 0 := by omega
       refine x_skip <| then_n <| x_seq <| sr rfl <| mS rfl <| Wp rfl <| st_sidx T.u9 rfl rfl (by decide) (by omega) <| Wp rfl <| st_call (ags := [_]) rfl rfl T.ent43 rfl (c_digit (byte w 1) _) ?_
       rintro _ w98 ⟨rfl, c99⟩
       replace HC := HC.then c99
       replace ht := ht.tr0 c99
       replace hb4 := hb4.tr0 c99
       replace hb8 := hb8.tr0 c99
       replace hb17 := hb17.tr0 c99
       refine en <| x_cond rfl (fun h4 => ?_) (fun h4 => ?_)
       ·try simp only [nm, ne_eq] at h4
        have ha1 : IntKind.i64.wrap (1 + 1) = ((2 : Nat) : Int) := by rw [wrap64_id (by omega) (by omega)]; rfl
        refine x_region rfl <| aI rfl <| en <| x_seq <| x_draw [(0, 0), (1, 0), (2, 0), (3, 0), (4, 0), (5, 1), (6, 0), (7, 2)] T.mixed rfl rfl rfl (fun W => W.heap[b3]? = w98.heap[b3]? ∧ W.heap[b6]? = w98.heap[b6]? ∧ True) ⟨rfl, rfl, trivial⟩ ?_
        have o102 := hb4
        have o103 := hb8
        have c101 := Chg.drew w98
        generalize World.drew w98 = w100 at c101 ⊢
        replace HC := HC.then c101
        replace ht := ht.tr0 c101
        replace hb4 := hb4.tr0 c101
        replace hb8 := hb8.tr0 c101
        replace hb17 := hb17.tr0 c101
        refine sq_q rfl (fun W hT => r_move (v := S _) rfl) <| sq_q rfl (fun W hT => r_move (v := .int _ _) rfl) <| sq_q rfl (fun W hT => r_addk rfl rfl (by exact ha1)) <| sq_q rfl (fun W hT => r_sslice (i := 1) (j := 2) T.u9 rfl ⟨_, rfl⟩ ⟨_, rfl⟩ (by omega) (by omega)) <| sq_q rfl (fun W hT => r_fieldAddr T.fld33_0 rfl) <| sq_store1 rfl T.size3 (v := .int _ _) rfl rfl rfl hb17 rfl (Nat.le_of_ble_eq_true rfl) (by simp [Value.oneCell', S]) rfl ?_
        intro w104 c105 hb106; simp only [setVs, setV] at hb106
        clear hb17
        replace HC := HC.then1 c105 ge_b8
        replace ht := ht.tr c105 (by intro hx; have := ht.lt; have := ht1; simp only [List.mem_cons, List.mem_nil_iff, or_false] at hx; omega)
        replace hb4 := hb4.tr1 c105 ne_b3_b8
        replace hb8 := hb8.tr1 c105 ne_b6_b8
        refine ⟨_, fun _ h => h, ⟨(Eq.trans hb4 o102.symm), (Eq.trans hb8 o103.symm), trivial⟩, ?_⟩
        refine sq_q rfl (fun W hT => r_fieldAddr T.fld33_2 rfl) <| sq_store2 rfl T.size9 (v := S _) rfl rfl rfl hb106 rfl (Nat.le_of_ble_eq_true rfl) (by simp [Value.oneCell', S]) rfl ?_
        intro w107 c108 hb109; simp only [setVs, setV] at hb109
        clear hb106
        replace HC := HC.then1 c108 ge_b8
        replace ht := ht.tr c108 (by intro hx; have := ht.lt; have := ht1; simp only [List.mem_cons, List.mem_nil_iff, or_false] at hx; omega)
        replace hb4 := hb4.tr1 c108 ne_b3_b8
        replace hb8 := hb8.tr1 c108 ne_b6_b8
        clear o102
        clear o103
        refine sq_nil <| then_n <| x_region rfl <| mI rfl <| Wp rfl <| st_addk rfl rfl (by exact ha1) <| aI rfl <| wops_nil <| block_n <| then_n <| sr rfl <| Wp rfl <| st_loadA (vs := [_, _, _, _, _, _]) T.agg33 rfl (hb109.cells (n := 6) (vs := [_, _, _, _, _, _]) rfl) rfl <| mI rfl <| Wp rfl <| st_call (ags := [_, _]) rfl rfl T.ent85 rfl (one_spec ⟨1, [], (w.take 2).drop 1, [], [], (!decide (m = 0))⟩ 2 _) ?_
        have lt1_hsl_b3 := hb4.lt
        have lt1_hsl_b6 := hb8.lt
        have lt1_hsl_b8 := hb109.lt
        have sz1_hsl := HC.size
        rintro _ w110 ⟨A, cap, rfl, hsl, c111⟩
        replace HC := HC.then c111
        replace ht := ht.tr0 c111
        replace hb4 := hb4.tr0 c111
        replace hb8 := hb8.tr0 c111
        replace hb109 := hb109.tr0 c111
        refine Wp rfl <| st_store (v := .agg ⟨[.slice _ _ _, .int _ _]⟩) T.size78 rfl rfl rfl hb8 rfl (Nat.le_of_ble_eq_true rfl) (by simp [Value.oneCell', S]) rfl ?_
        intro w112 c113 hb114; simp only [setVs, setV] at hb114
        clear hb8
        replace HC := HC.then1 c113 ge_b6
        replace ht := ht.tr c113 (by intro hx; have := ht.lt; have := ht1; simp only [List.mem_cons, List.mem_nil_iff, or_false] at hx; omega)
        replace hb4 := hb4.tr1 c113 ne_b3_b6
        replace hb109 := hb109.tr1 c113 (Ne.symm ne_b6_b8)
        replace hsl := hsl.tr c113 (by intro k hx hD; simp only [List.mem_singleton] at hx; subst hx; omega)
        refine aI rfl <| en <| x_ret <| ret_many (vs := [.agg ⟨[_, _]⟩, .int _ _]) rfl ⟨⟨_, _, rfl, run_loadVarA T.agg78 (hb114.cells (n := 2) rfl) rfl⟩, ⟨rfl, trivial⟩⟩ (Nat.le_of_ble_eq_true rfl) <| (?_ : PieceT _ _ _ _ _ _)
        rw [dollarV, if_neg (by first | (rw [hA1]; simp; done) | (rw [hA1]; simp; intro h9; first | assumption | (exfalso; omega) | simp_all)), if_neg (by rw [h1]; simp), if_neg (by rw [h2]; simp), if_neg hk0, if_pos h4]
        exact ⟨_, _, rfl, (hsl.mono (fun k _ h => Nat.le_trans sz1_hsl h)), HC⟩
       ·try simp only [nm, ne_eq] at h4
        have ha1 : IntKind.i64.wrap (1 + ((namedV (w.drop 1)) : Int)) = ((1 + (namedV (w.drop 1)) : Nat) : Int) := by rw [wrap64_id (by omega) (by omega)]; omega
        refine x_skip <| then_n <| x_seq <| x_draw [(0, 0), (1, 0), (2, 0), (3, 0), (4, 0), (5, 1), (6, 0), (7, 2)] T.mixed rfl rfl rfl (fun W => W.heap[b3]? = w98.heap[b3]? ∧ W.heap[b6]? = w98.heap[b6]? ∧ True) ⟨rfl, rfl, trivial⟩ ?_
        have o117 := hb4
        have o118 := hb8
        have c116 := Chg.drew w98
        generalize World.drew w98 = w115 at c116 ⊢
        replace HC := HC.then c116
        replace ht := ht.tr0 c116
        replace hb4 := hb4.tr0 c116
        replace hb8 := hb8.tr0 c116
        replace hb17 := hb17.tr0 c116
        refine sq_q rfl (fun W hT => r_move (v := S _) rfl) <| sq_q rfl (fun W hT => r_move (v := .int _ _) rfl) <| sq_q rfl (fun W hT => r_addk rfl rfl (by exact ha1)) <| sq_q rfl (fun W hT => r_sslice (i := 1) (j := 1 + (namedV (w.drop 1))) T.u9 rfl ⟨_, rfl⟩ ⟨_, rfl⟩ (by omega) (by omega)) <| sq_q rfl (fun W hT => r_fieldAddr T.fld33_0 rfl) <| sq_store1 rfl T.size3 (v := .int _ _) rfl rfl rfl hb17 rfl (Nat.le_of_ble_eq_true rfl) (by simp [Value.oneCell', S]) rfl ?_
        intro w119 c120 hb121; simp only [setVs, setV] at hb121
        clear hb17
        replace HC := HC.then1 c120 ge_b8
        replace ht := ht.tr c120 (by intro hx; have := ht.lt; have := ht1; simp only [List.mem_cons, List.mem_nil_iff, or_false] at hx; omega)
        replace hb4 := hb4.tr1 c120 ne_b3_b8
        replace hb8 := hb8.tr1 c120 ne_b6_b8
        refine ⟨_, fun _ h => h, ⟨(Eq.trans hb4 o117.symm), (Eq.trans hb8 o118.symm), trivial⟩, ?_⟩
        refine sq_q rfl (fun W hT => r_fieldAddr T.fld33_2 rfl) <| sq_store2 rfl T.size9 (v := S _) rfl rfl rfl hb121 rfl (Nat.le_of_ble_eq_true rfl) (by simp [Value.oneCell', S]) rfl ?_
        intro w122 c123 hb124; simp only [setVs, setV] at hb124
        clear hb121
        replace HC := HC.then1 c123 ge_b8
        replace ht := ht.tr c123 (by intro hx; have := ht.lt; have := ht1; simp only [List.mem_cons, List.mem_nil_iff, or_false] at hx; omega)
        replace hb4 := hb4.tr1 c123 ne_b3_b8
        replace hb8 := hb8.tr1 c123 ne_b6_b8
        clear o117
        clear o118
        refine sq_nil <| then_n <| x_region rfl <| mI rfl <| Wp rfl <| st_addk rfl rfl (by exact ha1) <| aI rfl <| wops_nil <| block_n <| then_n <| sr rfl <| Wp rfl <| st_loadA (vs := [_, _, _, _, _, _]) T.agg33 rfl (hb124.cells (n := 6) (vs := [_, _, _, _, _, _]) rfl) rfl <| mI rfl <| Wp rfl <| st_call (ags := [_, _]) rfl rfl T.ent85 rfl (one_spec ⟨1, [], (w.take (1 + (namedV (w.drop 1)))).drop 1, [], [], (!decide (m = 0))⟩ ((1 + (namedV (w.drop 1)) : Nat) : Int) _) ?_
        have lt1_hsl_b3 := hb4.lt
        have lt1_hsl_b6 := hb8.lt
        have lt1_hsl_b8 := hb124.lt
        have sz1_hsl := HC.size
        rintro _ w125 ⟨A, cap, rfl, hsl, c126⟩
        replace HC := HC.then c126
        replace ht := ht.tr0 c126
        replace hb4 := hb4.tr0 c126
        replace hb8 := hb8.tr0 c126
        replace hb124 := hb124.tr0 c126
        refine Wp rfl <| st_store (v := .agg ⟨[.slice _ _ _, .int _ _]⟩) T.size78 rfl rfl rfl hb8 rfl (Nat.le_of_ble_eq_true rfl) (by simp [Value.oneCell', S]) rfl ?_
        intro w127 c128 hb129; simp only [setVs, setV] at hb129
        clear hb8
        replace HC := HC.then1 c128 ge_b6
        replace ht := ht.tr c128 (by intro hx; have := ht.lt; have := ht1; simp only [List.mem_cons, List.mem_nil_iff, or_false] at hx; omega)
        replace hb4 := hb4.tr1 c128 ne_b3_b6
        replace hb124 := hb124.tr1 c128 (Ne.symm ne_b6_b8)
        replace hsl := hsl.tr c128 (by intro k hx hD; simp only [List.mem_singleton] at hx; subst hx; omega)
        refine aI rfl <| en <| x_ret <| ret_many (vs := [.agg ⟨[_, _]⟩, .int _ _]) rfl ⟨⟨_, _, rfl, run_loadVarA T.agg78 (hb129.cells (n := 2) rfl) rfl⟩, ⟨rfl, trivial⟩⟩ (Nat.le_of_ble_eq_true rfl) <| (?_ : PieceT _ _ _ _ _ _)
        rw [dollarV, if_neg (by first | (rw [hA1]; simp; done) | (rw [hA1]; simp; intro h9; first | assumption | (exfalso; omega) | simp_all)), if_neg (by rw [h1]; simp), if_neg (by rw [h2]; simp), if_neg hk0, if_neg (by rw [h4]; simp)]
        exact ⟨_, _, rfl, (hsl.mono (fun k _ h => Nat.le_trans sz1_hsl h)), HC⟩
  ·try simp only [nm, ne_eq] at g21
   iterate 4 refine w_no 6 39 true ?_
   refine pF rfl rfl <| aB rfl <| en <| x_cond (t := false) rfl (fun h0 => ?_) (fun h0 => ?_)
   · exact absurd h0 (by decide)
   refine sr rfl <| mS rfl <| Wp rfl <| st_call (ags := [_, _]) rfl rfl T.ent24 rfl (HasPrefix_spec _ _ _) ?_
   rintro _ w130 ⟨rfl, c131⟩
   replace HC := HC.then c131
   replace ht := ht.tr0 c131
   replace hb4 := hb4.tr0 c131
   replace hb8 := hb8.tr0 c131
   replace hb17 := hb17.tr0 c131
   refine aB rfl <| en <| x_cond rfl (fun h1 => ?_) (fun h1 => ?_)
   ·try simp only [nm, ne_eq] at h1
    have hn3 := hn2 40 (.inl rfl) h1
    have hs1 : IntKind.i64.wrap ((n : Int) - 1) = ((n - 1 : Nat) : Int) := by rw [wrap64_id (by omega) (by omega)]; omega
    refine x_draw [(0, 0), (1, 0), (2, 0), (3, 0), (4, 0), (5, 1), (6, 0), (7, 2)] T.mixed rfl rfl rfl (fun W => W.heap[b3]? = w130.heap[b3]? ∧ W.heap[b6]? = w130.heap[b6]? ∧ True) ⟨rfl, rfl, trivial⟩ ?_
    have o134 := hb4
    have o135 := hb8
    have c133 := Chg.drew w130
    generalize World.drew w130 = w132 at c133 ⊢
    replace HC := HC.then c133
    replace ht := ht.tr0 c133
    replace hb4 := hb4.tr0 c133
    replace hb8 := hb8.tr0 c133
    replace hb17 := hb17.tr0 c133
    refine sq_q rfl (fun W hT => r_move (v := S _) rfl) <| sq_q rfl (fun W hT => r_move (v := .int _ _) rfl) <| sq_q rfl (fun W hT => r_subk rfl rfl (by exact hs1)) <| sq_q rfl (fun W hT => r_sslice (i := 2) (j := n - 1) T.u9 rfl ⟨_, rfl⟩ ⟨_, rfl⟩ (by omega) (by omega)) <| sq_q rfl (fun W hT => r_fieldAddr T.fld33_0 rfl) <| sq_store1 rfl T.size3 (v := .int _ _) rfl rfl rfl hb17 rfl (Nat.le_of_ble_eq_true rfl) (by simp [Value.oneCell', S]) rfl ?_
    intro w136 c137 hb138; simp only [setVs, setV] at hb138
    clear hb17
    replace HC := HC.then1 c137 ge_b8
    replace ht := ht.tr c137 (by intro hx; have := ht.lt; have := ht1; simp only [List.mem_cons, List.mem_nil_iff, or_false] at hx; omega)
    replace hb4 := hb4.tr1 c137 ne_b3_b8
    replace hb8 := hb8.tr1 c137 ne_b6_b8
    refine ⟨_, fun _ h => h, ⟨(Eq.trans hb4 o134.symm), (Eq.trans hb8 o135.symm), trivial⟩, ?_⟩
    refine sq_q rfl (fun W hT => r_fieldAddr T.fld33_1 rfl) <| sq_store2 rfl T.size9 (v := S _) rfl rfl rfl hb138 rfl (Nat.le_of_ble_eq_true rfl) (by simp [Value.oneCell', S]) rfl ?_
    intro w139 c140 hb141; simp only [setVs, setV] at hb141
    clear hb138
    replace HC := HC.then1 c140 ge_b8
    replace ht := ht.tr c140 (by intro hx; have := ht.lt; have := ht1; simp only [List.mem_cons, List.mem_nil_iff, or_false] at hx; omega)
    replace hb4 := hb4.tr1 c140 ne_b3_b8
    replace hb8 := hb8.tr1 c140 ne_b6_b8
    clear o134
    clear o135
    refine sq_nil <| block_n <| then_n <| sr rfl <| Wp rfl <| st_loadA (vs := [_, _, _, _, _, _]) T.agg33 rfl (hb141.cells (n := 6) (vs := [_, _, _, _, _, _]) rfl) rfl <| mI rfl <| Wp rfl <| st_call (ags := [_, _]) rfl rfl T.ent85 rfl (one_spec ⟨2, (w.take (n - 1)).drop 2, [], [], [], (!decide (m = 0))⟩ n _) ?_
    have lt1_hsl_b3 := hb4.lt
    have lt1_hsl_b6 := hb8.lt
    have lt1_hsl_b8 := hb141.lt
    have sz1_hsl := HC.size
    rintro _ w142 ⟨A, cap, rfl, hsl, c143⟩
    replace HC := HC.then c143
    replace ht := ht.tr0 c143
    replace hb4 := hb4.tr0 c143
    replace hb8 := hb8.tr0 c143
    replace hb141 := hb141.tr0 c143
    refine Wp rfl <| st_store (v := .agg ⟨[.slice _ _ _, .int _ _]⟩) T.size78 rfl rfl rfl hb8 rfl (Nat.le_of_ble_eq_true rfl) (by simp [Value.oneCell', S]) rfl ?_
    intro w144 c145 hb146; simp only [setVs, setV] at hb146
    clear hb8
    replace HC := HC.then1 c145 ge_b6
    replace ht := ht.tr c145 (by intro hx; have := ht.lt; have := ht1; simp only [List.mem_cons, List.mem_nil_iff, or_false] at hx; omega)
    replace hb4 := hb4.tr1 c145 ne_b3_b6
    replace hb141 := hb141.tr1 c145 (Ne.symm ne_b6_b8)
    replace hsl := hsl.tr c145 (by intro k hx hD; simp only [List.mem_singleton] at hx; subst hx; omega)
    refine aI rfl <| en <| x_ret <| ret_many (vs := [.agg ⟨[_, _]⟩, .int _ _]) rfl ⟨⟨_, _, rfl, run_loadVarA T.agg78 (hb146.cells (n := 2) rfl) rfl⟩, ⟨rfl, trivial⟩⟩ (Nat.le_of_ble_eq_true rfl) <| (?_ : PieceT _ _ _ _ _ _)
    rw [dollarV, if_neg (by first | (rw [hA1]; simp; done) | (rw [hA1]; simp; intro h9; first | assumption | (exfalso; omega) | simp_all)), if_pos h1]
    exact ⟨_, _, rfl, (hsl.mono (fun k _ h => Nat.le_trans sz1_hsl h)), HC⟩
   ·try simp only [nm, ne_eq] at h1
    refine sr rfl <| mS rfl <| Wp rfl <| st_call (ags := [_, _]) rfl rfl T.ent24 rfl (HasPrefix_spec _ _ _) ?_
    rintro _ w147 ⟨rfl, c148⟩
    replace HC := HC.then c148
    replace ht := ht.tr0 c148
    replace hb4 := hb4.tr0 c148
    replace hb8 := hb8.tr0 c148
    replace hb17 := hb17.tr0 c148
    refine aB rfl <| en <| x_cond rfl (fun h2 => ?_) (fun h2 => ?_)
    ·try simp only [nm, ne_eq] at h2
     have hn3 := hn2 123 (.inr rfl) h2
     have hs1 : IntKind.i64.wrap ((n : Int) - 1) = ((n - 1 : Nat) : Int) := by rw [wrap64_id (by omega) (by omega)]; omega
     refine x_seq <| x_open [0, 1, 2, 3, 4] (.br 5 [6, 7, 8] (.br 9 [] (.br 10 [11] (.stop) (.nil)) (.nil)) (.br 9 [] (.br 5 [6, 7, 8] (.br 10 [11] (.stop) (.nil)) (.nil)) (.nil))) T.mixed rfl rfl (fun W => W.heap[b3]? = w147.heap[b3]? ∧ W.heap[b6]? = w147.heap[b6]? ∧ W.heap[b8]? = w147.heap[b8]? ∧ True) ⟨rfl, rfl, rfl, trivial⟩ ?_
     have o151 := hb4
     have o152 := hb8
     have o153 := hb17
     have c150 := Chg.drew w147
     generalize World.drew w147 = w149 at c150 ⊢
     replace HC := HC.then c150
     replace ht := ht.tr0 c150
     replace hb4 := hb4.tr0 c150
     replace hb8 := hb8.tr0 c150
     replace hb17 := hb17.tr0 c150
     refine sq_q rfl (fun W hT => r_loadA (vs := [_]) T.agg46 rfl (Blk.cells (n := 1) (vs := [_]) (show Blk W b3 _ _ from hT.1.trans o151) rfl) rfl) <| sq_q rfl (fun W hT => r_move (v := S _) rfl) <| sq_q rfl (fun W hT => r_move (v := .int _ _) rfl) <| sq_q rfl (fun W hT => r_subk rfl rfl (by exact hs1)) <| sq_q rfl (fun W hT => r_sslice (i := 2) (j := n - 1) T.u9 rfl ⟨_, rfl⟩ ⟨_, rfl⟩ (by omega) (by omega)) <| sq_nil <| tr_br ?_ ?_
     ·refine sq_call1 rfl (r_call (ags := [_, _]) rfl rfl T.ent87 rfl) (param_spec m ((w.take (n - 1)).drop 2) _ (by simp only [List.length_drop, List.length_take]; omega) ht) ?_
      rintro _ w154 ⟨rfl, c155⟩
      replace HC := HC.then c155
      replace ht := ht.tr0 c155
      replace hb4 := hb4.tr0 c155
      replace hb8 := hb8.tr0 c155
      replace hb17 := hb17.tr0 c155
      refine ⟨_, fun _ h => h, ⟨(Eq.trans hb4 o151.symm), (Eq.trans hb8 o152.symm), (Eq.trans hb17 o153.symm), trivial⟩, ?_⟩
      refine sq_q rfl (fun W hT => r_move (v := .tuple ⟨[_, _]⟩) rfl) <| sq_q rfl (fun W hT => r_extract (vs := [_, _]) (v := .agg ⟨[.int _ _, S _, S _, S _, S _, .bool _]⟩) rfl rfl) <| sq_q rfl (fun W hT => r_extract (vs := [_, _]) (v := .int _ _) rfl rfl) <| sq_nil <| tr_br ?_ ?_
      ·refine sq_alloc1 rfl T.zero33 ?_
       intro b9 w156 e157 c158 hb159
       have ge_b9 : w0.heap.size ≤ b9 := by rw [e157]; exact HC.size
       have ne_b3_b9 : b3 ≠ b9 := by rw [e157]; exact hb4.ne_size
       have ne_b6_b9 : b6 ≠ b9 := by rw [e157]; exact hb8.ne_size
       have ne_b8_b9 : b8 ≠ b9 := by rw [e157]; exact hb17.ne_size
       replace HC := HC.then c158
       replace ht := ht.tr0 c158
       replace hb4 := hb4.tr0 c158
       replace hb8 := hb8.tr0 c158
       replace hb17 := hb17.tr0 c158
       clear e157
       refine ⟨_, fun _ h => h, ⟨(Eq.trans hb4 o151.symm), (Eq.trans hb8 o152.symm), (Eq.trans hb17 o153.symm), trivial⟩, ?_⟩
       refine sq_nil <| tr_br ?_ ?_
       ·refine sq_store1 rfl T.size33 (v := .agg ⟨[.int _ _, S _, S _, S _, S _, .bool _]⟩) rfl rfl rfl hb159 rfl (Nat.le_of_ble_eq_true rfl) (by simp [Value.oneCell', S]) rfl ?_
        intro w160 c161 hb162; simp only [setVs, setV] at hb162
        clear hb159
        replace HC := HC.then1 c161 ge_b9
        replace ht := ht.tr c161 (by intro hx; have := ht.lt; have := ht1; simp only [List.mem_cons, List.mem_nil_iff, or_false] at hx; omega)
        replace hb4 := hb4.tr1 c161 ne_b3_b9
        replace hb8 := hb8.tr1 c161 ne_b6_b9
        replace hb17 := hb17.tr1 c161 ne_b8_b9
        refine ⟨_, fun _ h => h, ⟨(Eq.trans hb4 o151.symm), (Eq.trans hb8 o152.symm), (Eq.trans hb17 o153.symm), trivial⟩, ?_⟩
        refine sq_q rfl (fun W hT => r_assign (v := .int _ _) rfl) <| sq_nil ?_
        clear o151
        clear o152
        clear o153
        refine tr_stop <| then_n <| sr rfl <| Wp rfl <| st_loadA (vs := [_, _, _, _, _, _]) T.agg33 rfl (hb162.cells (n := 6) (vs := [_, _, _, _, _, _]) rfl) rfl <| mI rfl <| Wp rfl <| st_call (ags := [_, _]) rfl rfl T.ent85 rfl (one_spec (paramV (!decide (m = 0)) ((w.take (n - 1)).drop 2)).1 n _) ?_
        have lt1_hsl_b3 := hb4.lt
        have lt1_hsl_b6 := hb8.lt
        have lt1_hsl_b8 := hb17.lt
        have lt1_hsl_b9 := hb162.lt
        have sz1_hsl := HC.size
        rintro _ w163 ⟨A, cap, rfl, hsl, c164⟩
        replace HC := HC.then c164
        replace ht := ht.tr0 c164
        replace hb4 := hb4.tr0 c164
        replace hb8 := hb8.tr0 c164
        replace hb17 := hb17.tr0 c164
        replace hb162 := hb162.tr0 c164
        refine mI rfl <| Wp rfl <| st_store (v := .agg ⟨[.slice _ _ _, .int _ _]⟩) T.size78 rfl rfl rfl hb8 rfl (Nat.le_of_ble_eq_true rfl) (by simp [Value.oneCell', S]) rfl ?_
        intro w165 c166 hb167; simp only [setVs, setV] at hb167
        clear hb8
        replace HC := HC.then1 c166 ge_b6
        replace ht := ht.tr c166 (by intro hx; have := ht.lt; have := ht1; simp only [List.mem_cons, List.mem_nil_iff, or_false] at hx; omega)
        replace hb4 := hb4.tr1 c166 ne_b3_b6
        replace hb17 := hb17.tr1 c166 (Ne.symm ne_b6_b8)
        replace hb162 := hb162.tr1 c166 (Ne.symm ne_b6_b9)
        replace hsl := hsl.tr c166 (by intro k hx hD; simp only [List.mem_singleton] at hx; subst hx; omega)
        refine aI rfl <| en <| x_ret <| block_r <| then_r <| ret_many (vs := [.agg ⟨[_, _]⟩, .int _ _]) rfl ⟨⟨_, _, rfl, run_loadVarA T.agg78 (hb167.cells (n := 2) rfl) rfl⟩, ⟨rfl, trivial⟩⟩ (Nat.le_of_ble_eq_true rfl) <| (?_ : PieceT _ _ _ _ _ _)
        rw [dollarV, if_neg (by first | (rw [hA1]; simp; done) | (rw [hA1]; simp; intro h9; first | assumption | (exfalso; omega) | simp_all)), if_neg (by rw [h1]; simp), if_pos h2]
        exact ⟨_, _, rfl, (hsl.mono (fun k _ h => Nat.le_trans sz1_hsl h)), HC⟩
       exact tr_nil
      exact tr_nil
     refine tr_br ?_ ?_
     ·refine sq_alloc1 rfl T.zero33 ?_
      intro b9 w168 e169 c170 hb171
      have ge_b9 : w0.heap.size ≤ b9 := by rw [e169]; exact HC.size
      have ne_b3_b9 : b3 ≠ b9 := by rw [e169]; exact hb4.ne_size
      have ne_b6_b9 : b6 ≠ b9 := by rw [e169]; exact hb8.ne_size
      have ne_b8_b9 : b8 ≠ b9 := by rw [e169]; exact hb17.ne_size
      replace HC := HC.then c170
      replace ht := ht.tr0 c170
      replace hb4 := hb4.tr0 c170
      replace hb8 := hb8.tr0 c170
      replace hb17 := hb17.tr0 c170
      clear e169
      refine ⟨_, fun _ h => h, ⟨(Eq.trans hb4 o151.symm), (Eq.trans hb8 o152.symm), (Eq.trans hb17 o153.symm), trivial⟩, ?_⟩
      refine sq_nil <| tr_br ?_ ?_
      ·refine sq_call1 rfl (r_call (ags := [_, _]) rfl rfl T.ent87 rfl) (param_spec m ((w.take (n - 1)).drop 2) _ (by simp only [List.length_drop, List.length_take]; omega) ht) ?_
       rintro _ w172 ⟨rfl, c173⟩
       replace HC := HC.then c173
       replace ht := ht.tr0 c173
       replace hb4 := hb4.tr0 c173
       replace hb8 := hb8.tr0 c173
       replace hb17 := hb17.tr0 c173
       replace hb171 := hb171.tr0 c173
       refine ⟨_, fun _ h => h, ⟨(Eq.trans hb4 o151.symm), (Eq.trans hb8 o152.symm), (Eq.trans hb17 o153.symm), trivial⟩, ?_⟩
       refine sq_q rfl (fun W hT => r_move (v := .tuple ⟨[_, _]⟩) rfl) <| sq_q rfl (fun W hT => r_extract (vs := [_, _]) (v := .agg ⟨[.int _ _, S _, S _, S _, S _, .bool _]⟩) rfl rfl) <| sq_q rfl (fun W hT => r_extract (vs := [_, _]) (v := .int _ _) rfl rfl) <| sq_nil <| tr_br ?_ ?_
       ·refine sq_store1 rfl T.size33 (v := .agg ⟨[.int _ _, S _, S _, S _, S _, .bool _]⟩) rfl rfl rfl hb171 rfl (Nat.le_of_ble_eq_true rfl) (by simp [Value.oneCell', S]) rfl ?_
        intro w174 c175 hb176; simp only [setVs, setV] at hb176
        clear hb171
        replace HC := HC.then1 c175 ge_b9
        replace ht := ht.tr c175 (by intro hx; have := ht.lt; have := ht1; simp only [List.mem_cons, List.mem_nil_iff, or_false] at hx; omega)
        replace hb4 := hb4.tr1 c175 ne_b3_b9
        replace hb8 := hb8.tr1 c175 ne_b6_b9
        replace hb17 := hb17.tr1 c175 ne_b8_b9
        refine ⟨_, fun _ h => h, ⟨(Eq.trans hb4 o151.symm), (Eq.trans hb8 o152.symm), (Eq.trans hb17 o153.symm), trivial⟩, ?_⟩
        refine sq_q rfl (fun W hT => r_assign (v := .int _ _) rfl) <| sq_nil ?_
        clear o151
        clear o152
        clear o153
        refine tr_stop <| then_n <| sr rfl <| Wp rfl <| st_loadA (vs := [_, _, _, _, _, _]) T.agg33 rfl (hb176.cells (n := 6) (vs := [_, _, _, _, _, _]) rfl) rfl <| mI rfl <| Wp rfl <| st_call (ags := [_, _]) rfl rfl T.ent85 rfl (one_spec (paramV (!decide (m = 0)) ((w.take (n - 1)).drop 2)).1 n _) ?_
        have lt1_hsl_b3 := hb4.lt
        have lt1_hsl_b6 := hb8.lt
        have lt1_hsl_b8 := hb17.lt
        have lt1_hsl_b9 := hb176.lt
        have sz1_hsl := HC.size
        rintro _ w177 ⟨A, cap, rfl, hsl, c178⟩
        replace HC := HC.then c178
        replace ht := ht.tr0 c178
        replace hb4 := hb4.tr0 c178
        replace hb8 := hb8.tr0 c178
        replace hb17 := hb17.tr0 c178
        replace hb176 := hb176.tr0 c178
        refine mI rfl <| Wp rfl <| st_store (v := .agg ⟨[.slice _ _ _, .int _ _]⟩) T.size78 rfl rfl rfl hb8 rfl (Nat.le_of_ble_eq_true rfl) (by simp [Value.oneCell', S]) rfl ?_
        intro w179 c180 hb181; simp only [setVs, setV] at hb181
        clear hb8
        replace HC := HC.then1 c180 ge_b6
        replace ht := ht.tr c180 (by intro hx; have := ht.lt; have := ht1; simp only [List.mem_cons, List.mem_nil_iff, or_false] at hx; omega)
        replace hb4 := hb4.tr1 c180 ne_b3_b6
        replace hb17 := hb17.tr1 c180 (Ne.symm ne_b6_b8)
        replace hb176 := hb176.tr1 c180 (Ne.symm ne_b6_b9)
        replace hsl := hsl.tr c180 (by intro k hx hD; simp only [List.mem_singleton] at hx; subst hx; omega)
        refine aI rfl <| en <| x_ret <| block_r <| then_r <| ret_many (vs := [.agg ⟨[_, _]⟩, .int _ _]) rfl ⟨⟨_, _, rfl, run_loadVarA T.agg78 (hb181.cells (n := 2) rfl) rfl⟩, ⟨rfl, trivial⟩⟩ (Nat.le_of_ble_eq_true rfl) <| (?_ : PieceT _ _ _ _ _ _)
        rw [dollarV, if_neg (by first | (rw [hA1]; simp; done) | (rw [hA1]; simp; intro h9; first | assumption | (exfalso; omega) | simp_all)), if_neg (by rw [h1]; simp), if_pos h2]
        exact ⟨_, _, rfl, (hsl.mono (fun k _ h => Nat.le_trans sz1_hsl h)), HC⟩
       exact tr_nil
      exact tr_nil
     exact tr_nil
    ·try simp only [nm, ne_eq] at h2
     refine sr rfl <| mS rfl <| Wp rfl <| st_sslo (i := 1) T.u9 rfl ⟨_, rfl⟩ (by omega) <| Wp rfl <| st_call (ags := [_]) rfl rfl T.ent21 rfl (named_spec (w.drop 1) _ (by simp only [List.length_drop]; omega)) ?_
     rintro _ w182 ⟨rfl, c183⟩
     replace HC := HC.then c183
     replace ht := ht.tr0 c183
     replace hb4 := hb4.tr0 c183
     replace hb8 := hb8.tr0 c183
     replace hb17 := hb17.tr0 c183
     refine aI rfl <| en <| x_seq <| sr rfl <| mI rfl <| Wp rfl <| st_eql rfl rfl <| en <| x_cond rfl (fun h3 => ?_) (fun h3 => ?_)
     ·try simp only [nm, ne_eq] at h3
      refine sr rfl <| Wp rfl <| st_call (ags := [_, _, _]) rfl rfl T.ent60 rfl (text_spec [36] true 1 _) ?_
      have lt1_hsl_b3 := hb4.lt
      have lt1_hsl_b6 := hb8.lt
      have lt1_hsl_b8 := hb17.lt
      have sz1_hsl := HC.size
      rintro _ w184 ⟨A, cap, rfl, hsl, c185⟩
      replace HC := HC.then c185
      replace ht := ht.tr0 c185
      replace hb4 := hb4.tr0 c185
      replace hb8 := hb8.tr0 c185
      replace hb17 := hb17.tr0 c185
      refine Wp rfl <| st_store (v := .agg ⟨[.slice _ _ _, .int _ _]⟩) T.size78 rfl rfl rfl hb8 rfl (Nat.le_of_ble_eq_true rfl) (by simp [Value.oneCell', S]) rfl ?_
      intro w186 c187 hb188; simp only [setVs, setV] at hb188
      clear hb8
      replace HC := HC.then1 c187 ge_b6
      replace ht := ht.tr c187 (by intro hx; have := ht.lt; have := ht1; simp only [List.mem_cons, List.mem_nil_iff, or_false] at hx; omega)
      replace hb4 := hb4.tr1 c187 ne_b3_b6
      replace hb17 := hb17.tr1 c187 (Ne.symm ne_b6_b8)
      replace hsl := hsl.tr c187 (by intro k hx hD; simp only [List.mem_singleton] at hx; subst hx; omega)
      refine aI rfl <| en <| x_ret <| then_r <| block_r <| then_r <| ret_many (vs := [.agg ⟨[_, _]⟩, .int _ _]) rfl ⟨⟨_, _, rfl, run_loadVarA T.agg78 (hb188.cells (n := 2) rfl) rfl⟩, ⟨rfl, trivial⟩⟩ (Nat.le_of_ble_eq_true rfl) <| (?_ : PieceT _ _ _ _ _ _)
      rw [dollarV, if_neg (by first | (rw [hA1]; simp; done) | (rw [hA1]; simp; intro h9; first | assumption | (exfalso; omega) | simp_all)), if_neg (by rw [h1]; simp), if_neg (by rw [h2]; simp), if_pos (by omega)]
      exact ⟨_, _, rfl, (hsl.mono (fun k _ h => Nat.le_trans sz1_hsl h)), HC⟩
     ·try simp only [nm, ne_eq] at h3
      have hk0 : ¬ (namedV (w.drop 1)) = 0 := by omega
      refine x_skip <| then_n <| x_seq <| sr rfl <| mS rfl <| Wp rfl <| st_sidx T.u9 rfl rfl (by decide) (by omega) <| Wp rfl <| st_call (ags := [_]) rfl rfl T.ent43 rfl (c_digit (byte w 1) _) ?_
      rintro _ w189 ⟨rfl, c190⟩
      replace HC := HC.then c190
      replace ht := ht.tr0 c190
      replace hb4 := hb4.tr0 c190
      replace hb8 := hb8.tr0 c190
      replace hb17 := hb17.tr0 c190
      refine en <| x_cond rfl (fun h4 => ?_) (fun h4 => ?_)
      ·try simp only [nm, ne_eq] at h4
       have ha1 : IntKind.i64.wrap (1 + 1) = ((2 : Nat) : Int) := by rw [wrap64_id (by omega) (by omega)]; rfl
       refine x_region rfl <| aI rfl <| en <| x_seq <| x_draw [(0, 0), (1, 0), (2, 0), (3, 0), (4, 0), (5, 1), (6, 0), (7, 2)] T.mixed rfl rfl rfl (fun W => W.heap[b3]? = w189.heap[b3]? ∧ W.heap[b6]? = w189.heap[b6]? ∧ True) ⟨rfl, rfl, trivial⟩ ?_
       have o193 := hb4
       have o194 := hb8
       have c192 := Chg.drew w189
       generalize World.drew w189 = w191 at c192 ⊢
       replace HC := HC.then c192
       replace ht := ht.tr0 c192
       replace hb4 := hb4.tr0 c192
       replace hb8 := hb8.tr0 c192
       replace hb17 := hb17.tr0 c192
       refine sq_q rfl (fun W hT => r_move (v := S _) rfl) <| sq_q rfl (fun W hT => r_move (v := .int _ _) rfl) <| sq_q rfl (fun W hT => r_addk rfl rfl (by exact ha1)) <| sq_q rfl (fun W hT => r_sslice (i := 1) (j := 2) T.u9 rfl ⟨_, rfl⟩ ⟨_, rfl⟩ (by omega) (by omega)) <| sq_q rfl (fun W hT => r_fieldAddr T.fld33_0 rfl) <| sq_store1 rfl T.size3 (v := .int _ _) rfl rfl rfl hb17 rfl (Nat.le_of_ble_eq_true rfl) (by simp [Value.oneCell', S]) rfl ?_
       intro w195 c196 hb197; simp only [setVs, setV] at hb197
       clear hb17
       replace HC := HC.then1 c196 ge_b8
       replace ht := ht.tr c196 (by intro hx; have := ht.lt; have := ht1; simp only [List.mem_cons, List.mem_nil_iff, or_false] at hx; omega)
       replace hb4 := hb4.tr1 c196 ne_b3_b8
       replace hb8 := hb8.tr1 c196 ne_b6_b8
       refine ⟨_, fun _ h => h, ⟨(Eq.trans hb4 o193.symm), (Eq.trans hb8 o194.symm), trivial⟩, ?_⟩
       refine sq_q rfl (fun W hT => r_fieldAddr T.fld33_2 rfl) <| sq_store2 rfl T.size9 (v := S _) rfl rfl rfl hb197 rfl (Nat.le_of_ble_eq_true rfl) (by simp [Value.oneCell', S]) rfl ?_
       intro w198 c199 hb200; simp only [setVs, setV] at hb200
       clear hb197
       replace HC := HC.then1 c199 ge_b8
       replace ht := ht.tr c199 (by intro hx; have := ht.lt; have := ht1; simp only [List.mem_cons, List.mem_nil_iff, or_false] at hx; omega)
       replace hb4 := hb4.tr1 c199 ne_b3_b8
       replace hb8 := hb8.tr1 c199 ne_b6_b8
       clear o193
       clear o194
       refine sq_nil <| then_n <| x_region rfl <| mI rfl <| Wp rfl <| st_addk rfl rfl (by exact ha1) <| aI rfl <| wops_nil <| block_n <| then_n <| sr rfl <| Wp rfl <| st_loadA (vs := [_, _, _, _, _, _]) T.agg33 rfl (hb200.cells (n := 6) (vs := [_, _, _, _, _, _]) rfl) rfl <| mI rfl <| Wp rfl <| st_call (ags := [_, _]) rfl rfl T.ent85 rfl (one_spec ⟨1, [], (w.take 2).drop 1, [], [], (!decide (m = 0))⟩ 2 _) ?_
       have lt1_hsl_b3 := hb4.lt
       have lt1_hsl_b6 := hb8.lt
       have lt1_hsl_b8 := hb200.lt
       have sz1_hsl := HC.size
       rintro _ w201 ⟨A, cap, rfl, hsl, c202⟩
       replace HC := HC.then c202
       replace ht := ht.tr0 c202
       replace hb4 := hb4.tr0 c202
       replace hb8 := hb8.tr0 c202
       replace hb200 := hb200.tr0 c202
       refine Wp rfl <| st_store (v := .agg ⟨[.slice _ _ _, .int _ _]⟩) T.size78 rfl rfl rfl hb8 rfl (Nat.le_of_ble_eq_true rfl) (by simp [Value.oneCell', S]) rfl ?_
       intro w203 c204 hb205; simp only [setVs, setV] at hb205
       clear hb8
       replace HC := HC.then1 c204 ge_b6
       replace ht := ht.tr c204 (by intro hx; have := ht.lt; have := ht1; simp only [List.mem_cons, List.mem_nil_iff, or_false] at hx; omega)
       replace hb4 := hb4.tr1 c204 ne_b3_b6
       replace hb200 := hb200.tr1 c204 (Ne.symm ne_b6_b8)
       replace hsl := hsl.tr c204 (by intro k hx hD; simp only [List.mem_singleton] at hx; subst hx; omega)
       refine aI rfl <| en <| x_ret <| ret_many (vs := [.agg ⟨[_, _]⟩, .int _ _]) rfl ⟨⟨_, _, rfl, run_loadVarA T.agg78 (hb205.cells (n := 2) rfl) rfl⟩, ⟨rfl, trivial⟩⟩ (Nat.le_of_ble_eq_true rfl) <| (?_ : PieceT _ _ _ _ _ _)
       rw [dollarV, if_neg (by first | (rw [hA1]; simp; done) | (rw [hA1]; simp; intro h9; first | assumption | (exfalso; omega) | simp_all)), if_neg (by rw [h1]; simp), if_neg (by rw [h2]; simp), if_neg hk0, if_pos h4]
       exact ⟨_, _, rfl, (hsl.mono (fun k _ h => Nat.le_trans sz1_hsl h)), HC⟩
      ·try simp only [nm, ne_eq] at h4
       have ha1 : IntKind.i64.wrap (1 + ((namedV (w.drop 1)) : Int)) = ((1 + (namedV (w.drop 1)) : Nat) : Int) := by rw [wrap64_id (by omega) (by omega)]; omega
       refine x_skip <| then_n <| x_seq <| x_draw [(0, 0), (1, 0), (2, 0), (3, 0), (4, 0), (5, 1), (6, 0), (7, 2)] T.mixed rfl rfl rfl (fun W => W.heap[b3]? = w189.heap[b3]? ∧ W.heap[b6]? = w189.heap[b6]? ∧ True) ⟨rfl, rfl, trivial⟩ ?_
       have o208 := hb4
       have o209 := hb8
       have c207 := Chg.drew w189
       generalize World.drew w189 = w206 at c207 ⊢
       replace HC := HC.then c207
       replace ht := ht.tr0 c207
       replace hb4 := hb4.tr0 c207
       replace hb8 := hb8.tr0 c207
       replace hb17 := hb17.tr0 c207
       refine sq_q rfl (fun W hT => r_move (v := S _) rfl) <| sq_q rfl (fun W hT => r_move (v := .int _ _) rfl) <| sq_q rfl (fun W hT => r_addk rfl rfl (by exact ha1)) <| sq_q rfl (fun W hT => r_sslice (i := 1) (j := 1 + (namedV (w.drop 1))) T.u9 rfl ⟨_, rfl⟩ ⟨_, rfl⟩ (by omega) (by omega)) <| sq_q rfl (fun W hT => r_fieldAddr T.fld33_0 rfl) <| sq_store1 rfl T.size3 (v := .int _ _) rfl rfl rfl hb17 rfl (Nat.le_of_ble_eq_true rfl) (by simp [Value.oneCell', S]) rfl ?_
       intro w210 c211 hb212; simp only [setVs, setV] at hb212
       clear hb17
       replace HC := HC.then1 c211 ge_b8
       replace ht := ht.tr c211 (by intro hx; have := ht.lt; have := ht1; simp only [List.mem_cons, List.mem_nil_iff, or_false] at hx; omega)
       replace hb4 := hb4.tr1 c211 ne_b3_b8
       replace hb8 := hb8.tr1 c211 ne_b6_b8
       refine ⟨_, fun _ h => h, ⟨(Eq.trans hb4 o208.symm), (Eq.trans hb8 o209.symm), trivial⟩, ?_⟩
       refine sq_q rfl (fun W hT => r_fieldAddr T.fld33_2 rfl) <| sq_store2 rfl T.size9 (v := S _) rfl rfl rfl hb212 rfl (Nat.le_of_ble_eq_true rfl) (by simp [Value.oneCell', S]) rfl ?_
       intro w213 c214 hb215; simp only [setVs, setV] at hb215
       clear hb212
       replace HC := HC.then1 c214 ge_b8
       replace ht := ht.tr c214 (by intro hx; have := ht.lt; have := ht1; simp only [List.mem_cons, List.mem_nil_iff, or_false] at hx; omega)
       replace hb4 := hb4.tr1 c214 ne_b3_b8
       replace hb8 := hb8.tr1 c214 ne_b6_b8
       clear o208
       clear o209
       refine sq_nil <| then_n <| x_region rfl <| mI rfl <| Wp rfl <| st_addk rfl rfl (by exact ha1) <| aI rfl <| wops_nil <| block_n <| then_n <| sr rfl <| Wp rfl <| st_loadA (vs := [_, _, _, _, _, _]) T.agg33 rfl (hb215.cells (n := 6) (vs := [_, _, _, _, _, _]) rfl) rfl <| mI rfl <| Wp rfl <| st_call (ags := [_, _]) rfl rfl T.ent85 rfl (one_spec ⟨1, [], (w.take (1 + (namedV (w.drop 1)))).drop 1, [], [], (!decide (m = 0))⟩ ((1 + (namedV (w.drop 1)) : Nat) : Int) _) ?_
       have lt1_hsl_b3 := hb4.lt
       have lt1_hsl_b6 := hb8.lt
       have lt1_hsl_b8 := hb215.lt
       have sz1_hsl := HC.size
       rintro _ w216 ⟨A, cap, rfl, hsl, c217⟩
       replace HC := HC.then c217
       replace ht := ht.tr0 c217
       replace hb4 := hb4.tr0 c217
       replace hb8 := hb8.tr0 c217
       replace hb215 := hb215.tr0 c217
       refine Wp rfl <| st_store (v := .agg ⟨[.slice _ _ _, .int _ _]⟩) T.size78 rfl rfl rfl hb8 rfl (Nat.le_of_ble_eq_true rfl) (by simp [Value.oneCell', S]) rfl ?_
       intro w218 c219 hb220; simp only [setVs, setV] at hb220
       clear hb8
       replace HC := HC.then1 c219 ge_b6
       replace ht := ht.tr c219 (by intro hx; have := ht.lt; have := ht1; simp only [List.mem_cons, List.mem_nil_iff, or_false] at hx; omega)
       replace hb4 := hb4.tr1 c219 ne_b3_b6
       replace hb215 := hb215.tr1 c219 (Ne.symm ne_b6_b8)
       replace hsl := hsl.tr c219 (by intro k hx hD; simp only [List.mem_singleton] at hx; subst hx; omega)
       refine aI rfl <| en <| x_ret <| ret_many (vs := [.agg ⟨[_, _]⟩, .int _ _]) rfl ⟨⟨_, _, rfl, run_loadVarA T.agg78 (hb220.cells (n := 2) rfl) rfl⟩, ⟨rfl, trivial⟩⟩ (Nat.le_of_ble_eq_true rfl) <| (?_ : PieceT _ _ _ _ _ _)
       rw [dollarV, if_neg (by first | (rw [hA1]; simp; done) | (rw [hA1]; simp; intro h9; first | assumption | (exfalso; omega) | simp_all)), if_neg (by rw [h1]; simp), if_neg (by rw [h2]; simp), if_neg hk0, if_neg (by rw [h4]; simp)]
       exact ⟨_, _, rfl, (hsl.mono (fun k _ h => Nat.le_trans sz1_hsl h)), HC⟩
 ·try simp only [nm, ne_eq] at g20
  have hA1 : Lib.hasPrefix w [36, 40, 40] = false := by first | assumption | simp_all
  refine w_no 2 35 true <| w_no 2 35 true <| pF rfl rfl <| mB rfl ?_
  iterate 4 refine w_no 6 39 true ?_
  refine pF rfl rfl <| aB rfl <| en <| x_cond (t := false) rfl (fun h0 => ?_) (fun h0 => ?_)
  · exact absurd h0 (by decide)
  refine sr rfl <| mS rfl <| Wp rfl <| st_call (ags := [_, _]) rfl rfl T.ent24 rfl (HasPrefix_spec _ _ _) ?_
  rintro _ w221 ⟨rfl, c222⟩
  replace HC := HC.then c222
  replace ht := ht.tr0 c222
  replace hb4 := hb4.tr0 c222
  replace hb8 := hb8.tr0 c222
  replace hb17 := hb17.tr0 c222
  refine aB rfl <| en <| x_cond rfl (fun h1 => ?_) (fun h1 => ?_)
  ·try simp only [nm, ne_eq] at h1
   have hn3 := hn2 40 (.inl rfl) h1
   have hs1 : IntKind.i64.wrap ((n : Int) - 1) = ((n - 1 : Nat) : Int) := by rw [wrap64_id (by omega) (by omega)]; omega
   refine x_draw [(0, 0), (1, 0), (2, 0), (3, 0), (4, 0), (5, 1), (6, 0), (7, 2)] T.mixed rfl rfl rfl (fun W => W.heap[b3]? = w221.heap[b3]? ∧ W.heap[b6]? = w221.heap[b6]? ∧ True) ⟨rfl, rfl, trivial⟩ ?_
   have o225 := hb4
   have o226 := hb8
   have c224 := Chg.drew w221
   generalize World.drew w221 = w223 at c224 ⊢
   replace HC := HC.then c224
   replace ht := ht.tr0 c224
   replace hb4 := hb4.tr0 c224
   replace hb8 := hb8.tr0 c224
   replace hb17 := hb17.tr0 c224
   refine sq_q rfl (fun W hT => r_move (v := S _) rfl) <| sq_q rfl (fun W hT => r_move (v := .int _ _) rfl) <| sq_q rfl (fun W hT => r_subk rfl rfl (by exact hs1)) <| sq_q rfl (fun W hT => r_sslice (i := 2) (j := n - 1) T.u9 rfl ⟨_, rfl⟩ ⟨_, rfl⟩ (by omega) (by omega)) <| sq_q rfl (fun W hT => r_fieldAddr T.fld33_0 rfl) <| sq_store1 rfl T.size3 (v := .int _ _) rfl rfl rfl hb17 rfl (Nat.le_of_ble_eq_true rfl) (by simp [Value.oneCell', S]) rfl ?_
   intro w227 c228 hb229; simp only [setVs, setV] at hb229
   clear hb17
   replace HC := HC.then1 c228 ge_b8
   replace ht := ht.tr c228 (by intro hx; have := ht.lt; have := ht1; simp only [List.mem_cons, List.mem_nil_iff, or_false] at hx; omega)
   replace hb4 := hb4.tr1 c228 ne_b3_b8
   replace hb8 := hb8.tr1 c228 ne_b6_b8
   refine ⟨_, fun _ h => h, ⟨(Eq.trans hb4 o225.symm), (Eq.trans hb8 o226.symm), trivial⟩, ?_⟩
   refine sq_q rfl (fun W hT => r_fieldAddr T.fld33_1 rfl) <| sq_store2 rfl T.size9 (v := S _) rfl rfl rfl hb229 rfl (Nat.le_of_ble_eq_true rfl) (by simp [Value.oneCell', S]) rfl ?_
   intro w230 c231 hb232; simp only [setVs, setV] at hb232
   clear hb229
   replace HC := HC.then1 c231 ge_b8
   replace ht := ht.tr c231 (by intro hx; have := ht.lt; have := ht1; simp only [List.mem_cons, List.mem_nil_iff, or_false] at hx; omega)
   replace hb4 := hb4.tr1 c231 ne_b3_b8
   replace hb8 := hb8.tr1 c231 ne_b6_b8
   clear o225
   clear o226
   refine sq_nil <| block_n <| then_n <| sr rfl <| Wp rfl <| st_loadA (vs := [_, _, _, _, _, _]) T.agg33 rfl (hb232.cells (n := 6) (vs := [_, _, _, _, _, _]) rfl) rfl <| mI rfl <| Wp rfl <| st_call (ags := [_, _]) rfl rfl T.ent85 rfl (one_spec ⟨2, (w.take (n - 1)).drop 2, [], [], [], (!decide (m = 0))⟩ n _) ?_
   have lt1_hsl_b3 := hb4.lt
   have lt1_hsl_b6 := hb8.lt
   have lt1_hsl_b8 := hb232.lt
   have sz1_hsl := HC.size
   rintro _ w233 ⟨A, cap, rfl, hsl, c234⟩
   replace HC := HC.then c234
   replace ht := ht.tr0 c234
   replace hb4 := hb4.tr0 c234
   replace hb8 := hb8.tr0 c234
   replace hb232 := hb232.tr0 c234
   refine Wp rfl <| st_store (v := .agg ⟨[.slice _ _ _, .int _ _]⟩) T.size78 rfl rfl rfl hb8 rfl (Nat.le_of_ble_eq_true rfl) (by simp [Value.oneCell', S]) rfl ?_
   intro w235 c236 hb237; simp only [setVs, setV] at hb237
   clear hb8
   replace HC := HC.then1 c236 ge_b6
   replace ht := ht.tr c236 (by intro hx; have := ht.lt; have := ht1; simp only [List.mem_cons, List.mem_nil_iff, or_false] at hx; omega)
   replace hb4 := hb4.tr1 c236 ne_b3_b6
   replace hb232 := hb232.tr1 c236 (Ne.symm ne_b6_b8)
   replace hsl := hsl.tr c236 (by intro k hx hD; simp only [List.mem_singleton] at hx; subst hx; omega)
   refine aI rfl <| en <| x_ret <| ret_many (vs := [.agg ⟨[_, _]⟩, .int _ _]) rfl ⟨⟨_, _, rfl, run_loadVarA T.agg78 (hb237.cells (n := 2) rfl) rfl⟩, ⟨rfl, trivial⟩⟩ (Nat.le_of_ble_eq_true rfl) <| (?_ : PieceT _ _ _ _ _ _)
   rw [dollarV, if_neg (by first | (rw [hA1]; simp; done) | (rw [hA1]; simp; intro h9; first | assumption | (exfalso; omega) | simp_all)), if_pos h1]
   exact ⟨_, _, rfl, (hsl.mono (fun k _ h => Nat.le_trans sz1_hsl h)), HC⟩
  ·try simp only [nm, ne_eq] at h1
   refine sr rfl <| mS rfl <| Wp rfl <| st_call (ags := [_, _]) rfl rfl T.ent24 rfl (HasPrefix_spec _ _ _) ?_
   rintro _ w238 ⟨rfl, c239⟩
   replace HC := HC.then c239
   replace ht := ht.tr0 c239
   replace hb4 := hb4.tr0 c239
   replace hb8 := hb8.tr0 c239
   replace hb17 := hb17.tr0 c239
   refine aB rfl <| en <| x_cond rfl (fun h2 => ?_) (fun h2 => ?_)
   ·try simp only [nm, ne_eq] at h2
    have hn3 := hn2 123 (.inr rfl) h2
    have hs1 : IntKind.i64.wrap ((n : Int) - 1) = ((n - 1 : Nat) : Int) := by rw [wrap64_id (by omega) (by omega)]; omega
    refine x_seq <| x_open [0, 1, 2, 3, 4] (.br 5 [6, 7, 8] (.br 9 [] (.br 10 [11] (.stop) (.nil)) (.nil)) (.br 9 [] (.br 5 [6, 7, 8] (.br 10 [11] (.stop) (.nil)) (.nil)) (.nil))) T.mixed rfl rfl (fun W => W.heap[b3]? = w238.heap[b3]? ∧ W.heap[b6]? = w238.heap[b6]? ∧ W.heap[b8]? = w238.heap[b8]? ∧ True) ⟨rfl, rfl, rfl, trivial⟩ ?_
    have o242 := hb4
    have o243 := hb8
    have o244 := hb17
    have c241 := Chg.drew w238
    generalize World.drew w238 = w240 at c241 ⊢
    replace HC := HC.then c241
    replace ht := ht.tr0 c241
    replace hb4 := hb4.tr0 c241
    replace hb8 := hb8.tr0 c241
    replace hb17 := hb17.tr0 c241
    refine sq_q rfl (fun W hT => r_loadA (vs := [_]) T.agg46 rfl (Blk.cells (n := 1) (vs := [_]) (show Blk W b3 _ _ from hT.1.trans o242) rfl) rfl) <| sq_q rfl (fun W hT => r_move (v := S _) rfl) <| sq_q rfl (fun W hT => r_move (v := .int _ _) rfl) <| sq_q rfl (fun W hT => r_subk rfl rfl (by exact hs1)) <| sq_q rfl (fun W hT => r_sslice (i := 2) (j := n - 1) T.u9 rfl ⟨_, rfl⟩ ⟨_, rfl⟩ (by omega) (by omega)) <| sq_nil <| tr_br ?_ ?_
    ·refine sq_call1 rfl (r_call (ags := [_, _]) rfl rfl T.ent87 rfl) (param_spec m ((w.take (n - 1)).drop 2) _ (by simp only [List.length_drop, List.length_take]; omega) ht) ?_
     rintro _ w245 ⟨rfl, c246⟩
     replace HC := HC.then c246
     replace ht := ht.tr0 c246
     replace hb4 := hb4.tr0 c246
     replace hb8 := hb8.tr0 c246
     replace hb17 := hb17.tr0 c246
     refine ⟨_, fun _ h => h, ⟨(Eq.trans hb4 o242.symm), (Eq.trans hb8 o243.symm), (Eq.trans hb17 o244.symm), trivial⟩, ?_⟩
     refine sq_q rfl (fun W hT => r_move (v := .tuple ⟨[_, _]⟩) rfl) <| sq_q rfl (fun W hT => r_extract (vs := [_, _]) (v := .agg ⟨[.int _ _, S _, S _, S _, S _, .bool _]⟩) rfl rfl) <| sq_q rfl (fun W hT => r_extract (vs := [_, _]) (v := .int _ _) rfl rfl) <| sq_nil <| tr_br ?_ ?_
     ·refine sq_alloc1 rfl T.zero33 ?_
      intro b9 w247 e248 c249 hb250
      have ge_b9 : w0.heap.size ≤ b9 := by rw [e248]; exact HC.size
      have ne_b3_b9 : b3 ≠ b9 := by rw [e248]; exact hb4.ne_size
      have ne_b6_b9 : b6 ≠ b9 := by rw [e248]; exact hb8.ne_size
      have ne_b8_b9 : b8 ≠ b9 := by rw [e248]; exact hb17.ne_size
      replace HC := HC.then c249
      replace ht := ht.tr0 c249
      replace hb4 := hb4.tr0 c249
      replace hb8 := hb8.tr0 c249
      replace hb17 := hb17.tr0 c249
      clear e248
      refine ⟨_, fun _ h => h, ⟨(Eq.trans hb4 o242.symm), (Eq.trans hb8 o243.symm), (Eq.trans hb17 o244.symm), trivial⟩, ?_⟩
      refine sq_nil <| tr_br ?_ ?_
      ·refine sq_store1 rfl T.size33 (v := .agg ⟨[.int _ _, S _, S _, S _, S _, .bool _]⟩) rfl rfl rfl hb250 rfl (Nat.le_of_ble_eq_true rfl) (by simp [Value.oneCell', S]) rfl ?_
       intro w251 c252 hb253; simp only [setVs, setV] at hb253
       clear hb250
       replace HC := HC.then1 c252 ge_b9
       replace ht := ht.tr c252 (by intro hx; have := ht.lt; have := ht1; simp only [List.mem_cons, List.mem_nil_iff, or_false] at hx; omega)
       replace hb4 := hb4.tr1 c252 ne_b3_b9
       replace hb8 := hb8.tr1 c252 ne_b6_b9
       replace hb17 := hb17.tr1 c252 ne_b8_b9
       refine ⟨_, fun _ h => h, ⟨(Eq.trans hb4 o242.symm), (Eq.trans hb8 o243.symm), (Eq.trans hb17 o244.symm), trivial⟩, ?_⟩
       refine sq_q rfl (fun W hT => r_assign (v := .int _ _) rfl) <| sq_nil ?_
       clear o242
       clear o243
       clear o244
       refine tr_stop <| then_n <| sr rfl <| Wp rfl <| st_loadA (vs := [_, _, _, _, _, _]) T.agg33 rfl (hb253.cells (n := 6) (vs := [_, _, _, _, _, _]) rfl) rfl <| mI rfl <| Wp rfl <| st_call (ags := [_, _]) rfl rfl T.ent85 rfl (one_spec (paramV (!decide (m = 0)) ((w.take (n - 1)).drop 2)).1 n _) ?_
       have lt1_hsl_b3 := hb4.lt
       have lt1_hsl_b6 := hb8.lt
       have lt1_hsl_b8 := hb17.lt
       have lt1_hsl_b9 := hb253.lt
       have sz1_hsl := HC.size
       rintro _ w254 ⟨A, cap, rfl, hsl, c255⟩
       replace HC := HC.then c255
       replace ht := ht.tr0 c255
       replace hb4 := hb4.tr0 c255
       replace hb8 := hb8.tr0 c255
       replace hb17 := hb17.tr0 c255
       replace hb253 := hb253.tr0 c255
       refine mI rfl <| Wp rfl <| st_store (v := .agg ⟨[.slice _ _ _, .int _ _]⟩) T.size78 rfl rfl rfl hb8 rfl (Nat.le_of_ble_eq_true rfl) (by simp [Value.oneCell', S]) rfl ?_
       intro w256 c257 hb258; simp only [setVs, setV] at hb258
       clear hb8
       replace HC := HC.then1 c257 ge_b6
       replace ht := ht.tr c257 (by intro hx; have := ht.lt; have := ht1; simp only [List.mem_cons, List.mem_nil_iff, or_false] at hx; omega)
       replace hb4 := hb4.tr1 c257 ne_b3_b6
       replace hb17 := hb17.tr1 c257 (Ne.symm ne_b6_b8)
       replace hb253 := hb253.tr1 c257 (Ne.symm ne_b6_b9)
       replace hsl := hsl.tr c257 (by intro k hx hD; simp only [List.mem_singleton] at hx; subst hx; omega)
       refine aI rfl <| en <| x_ret <| block_r <| then_r <| ret_many (vs := [.agg ⟨[_, _]⟩, .int _ _]) rfl ⟨⟨_, _, rfl, run_loadVarA T.agg78 (hb258.cells (n := 2) rfl) rfl⟩, ⟨rfl, trivial⟩⟩ (Nat.le_of_ble_eq_true rfl) <| (?_ : PieceT _ _ _ _ _ _)
       rw [dollarV, if_neg (by first | (rw [hA1]; simp; done) | (rw [hA1]; simp; intro h9; first | assumption | (exfalso; omega) | simp_all)), if_neg (by rw [h1]; simp), if_pos h2]
       exact ⟨_, _, rfl, (hsl.mono (fun k _ h => Nat.le_trans sz1_hsl h)), HC⟩
      exact tr_nil
     exact tr_nil
    refine tr_br ?_ ?_
    ·refine sq_alloc1 rfl T.zero33 ?_
     intro b9 w259 e260 c261 hb262
     have ge_b9 : w0.heap.size ≤ b9 := by rw [e260]; exact HC.size
     have ne_b3_b9 : b3 ≠ b9 := by rw [e260]; exact hb4.ne_size
     have ne_b6_b9 : b6 ≠ b9 := by rw [e260]; exact hb8.ne_size
     have ne_b8_b9 : b8 ≠ b9 := by rw [e260]; exact hb17.ne_size
     replace HC := HC.then c261
     replace ht := ht.tr0 c261
     replace hb4 := hb4.tr0 c261
     replace hb8 := hb8.tr0 c261
     replace hb17 := hb17.tr0 c261
     clear e260
     refine ⟨_, fun _ h => h, ⟨(Eq.trans hb4 o242.symm), (Eq.trans hb8 o243.symm), (Eq.trans hb17 o244.symm), trivial⟩, ?_⟩
     refine sq_nil <| tr_br ?_ ?_
     ·refine sq_call1 rfl (r_call (ags := [_, _]) rfl rfl T.ent87 rfl) (param_spec m ((w.take (n - 1)).drop 2) _ (by simp only [List.length_drop, List.length_take]; omega) ht) ?_
      rintro _ w263 ⟨rfl, c264⟩
      replace HC := HC.then c264
      replace ht := ht.tr0 c264
      replace hb4 := hb4.tr0 c264
      replace hb8 := hb8.tr0 c264
      replace hb17 := hb17.tr0 c264
      replace hb262 := hb262.tr0 c264
      refine ⟨_, fun _ h => h, ⟨(Eq.trans hb4 o242.symm), (Eq.trans hb8 o243.symm), (Eq.trans hb17 o244.symm), trivial⟩, ?_⟩
      refine sq_q rfl (fun W hT => r_move (v := .tuple ⟨[_, _]⟩) rfl) <| sq_q rfl (fun W hT => r_extract (vs := [_, _]) (v := .agg ⟨[.int _ _, S _, S _, S _, S _, .bool _]⟩) rfl rfl) <| sq_q rfl (fun W hT => r_extract (vs := [_, _]) (v := .int _ _) rfl rfl) <| sq_nil <| tr_br ?_ ?_
      ·refine sq_store1 rfl T.size33 (v := .agg ⟨[.int _ _, S _, S _, S _, S _, .bool _]⟩) rfl rfl rfl hb262 rfl (Nat.le_of_ble_eq_true rfl) (by simp [Value.oneCell', S]) rfl ?_
       intro w265 c266 hb267; simp only [setVs, setV] at hb267
       clear hb262
       replace HC := HC.then1 c266 ge_b9
       replace ht := ht.tr c266 (by intro hx; have := ht.lt; have := ht1; simp only [List.mem_cons, List.mem_nil_iff, or_false] at hx; omega)
       replace hb4 := hb4.tr1 c266 ne_b3_b9
       replace hb8 := hb8.tr1 c266 ne_b6_b9
       replace hb17 := hb17.tr1 c266 ne_b8_b9
       refine ⟨_, fun _ h => h, ⟨(Eq.trans hb4 o242.symm), (Eq.trans hb8 o243.symm), (Eq.trans hb17 o244.symm), trivial⟩, ?_⟩
       refine sq_q rfl (fun W hT => r_assign (v := .int _ _) rfl) <| sq_nil ?_
       clear o242
       clear o243
       clear o244
       refine tr_stop <| then_n <| sr rfl <| Wp rfl <| st_loadA (vs := [_, _, _, _, _, _]) T.agg33 rfl (hb267.cells (n := 6) (vs := [_, _, _, _, _, _]) rfl) rfl <| mI rfl <| Wp rfl <| st_call (ags := [_, _]) rfl rfl T.ent85 rfl (one_spec (paramV (!decide (m = 0)) ((w.take (n - 1)).drop 2)).1 n _) ?_
       have lt1_hsl_b3 := hb4.lt
       have lt1_hsl_b6 := hb8.lt
       have lt1_hsl_b8 := hb17.lt
       have lt1_hsl_b9 := hb267.lt
       have sz1_hsl := HC.size
       rintro _ w268 ⟨A, cap, rfl, hsl, c269⟩
       replace HC := HC.then c269
       replace ht := ht.tr0 c269
       replace hb4 := hb4.tr0 c269
       replace hb8 := hb8.tr0 c269
       replace hb17 := hb17.tr0 c269
       replace hb267 := hb267.tr0 c269
       refine mI rfl <| Wp rfl <| st_store (v := .agg ⟨[.slice _ _ _, .int _ _]⟩) T.size78 rfl rfl rfl hb8 rfl (Nat.le_of_ble_eq_true rfl) (by simp [Value.oneCell', S]) rfl ?_
       intro w270 c271 hb272; simp only [setVs, setV] at hb272
       clear hb8
       replace HC := HC.then1 c271 ge_b6
       replace ht := ht.tr c271 (by intro hx; have := ht.lt; have := ht1; simp only [List.mem_cons, List.mem_nil_iff, or_false] at hx; omega)
       replace hb4 := hb4.tr1 c271 ne_b3_b6
       replace hb17 := hb17.tr1 c271 (Ne.symm ne_b6_b8)
       replace hb267 := hb267.tr1 c271 (Ne.symm ne_b6_b9)
       replace hsl := hsl.tr c271 (by intro k hx hD; simp only [List.mem_singleton] at hx; subst hx; omega)
       refine aI rfl <| en <| x_ret <| block_r <| then_r <| ret_many (vs := [.agg ⟨[_, _]⟩, .int _ _]) rfl ⟨⟨_, _, rfl, run_loadVarA T.agg78 (hb272.cells (n := 2) rfl) rfl⟩, ⟨rfl, trivial⟩⟩ (Nat.le_of_ble_eq_true rfl) <| (?_ : PieceT _ _ _ _ _ _)
       rw [dollarV, if_neg (by first | (rw [hA1]; simp; done) | (rw [hA1]; simp; intro h9; first | assumption | (exfalso; omega) | simp_all)), if_neg (by rw [h1]; simp), if_pos h2]
       exact ⟨_, _, rfl, (hsl.mono (fun k _ h => Nat.le_trans sz1_hsl h)), HC⟩
      exact tr_nil
     exact tr_nil
    exact tr_nil
   ·try simp only [nm, ne_eq] at h2
    refine sr rfl <| mS rfl <| Wp rfl <| st_sslo (i := 1) T.u9 rfl ⟨_, rfl⟩ (by omega) <| Wp rfl <| st_call (ags := [_]) rfl rfl T.ent21 rfl (named_spec (w.drop 1) _ (by simp only [List.length_drop]; omega)) ?_
    rintro _ w273 ⟨rfl, c274⟩
    replace HC := HC.then c274
    replace ht := ht.tr0 c274
    replace hb4 := hb4.tr0 c274
    replace hb8 := hb8.tr0 c274
    replace hb17 := hb17.tr0 c274
    refine aI rfl <| en <| x_seq <| sr rfl <| mI rfl <| Wp rfl <| st_eql rfl rfl <| en <| x_cond rfl (fun h3 => ?_) (fun h3 => ?_)
    ·try simp only [nm, ne_eq] at h3
     refine sr rfl <| Wp rfl <| st_call (ags := [_, _, _]) rfl rfl T.ent60 rfl (text_spec [36] true 1 _) ?_
     have lt1_hsl_b3 := hb4.lt
     have lt1_hsl_b6 := hb8.lt
     have lt1_hsl_b8 := hb17.lt
     have sz1_hsl := HC.size
     rintro _ w275 ⟨A, cap, rfl, hsl, c276⟩
     replace HC := HC.then c276
     replace ht := ht.tr0 c276
     replace hb4 := hb4.tr0 c276
     replace hb8 := hb8.tr0 c276
     replace hb17 := hb17.tr0 c276
     refine Wp rfl <| st_store (v := .agg ⟨[.slice _ _ _, .int _ _]⟩) T.size78 rfl rfl rfl hb8 rfl (Nat.le_of_ble_eq_true rfl) (by simp [Value.oneCell', S]) rfl ?_
     intro w277 c278 hb279; simp only [setVs, setV] at hb279
     clear hb8
     replace HC := HC.then1 c278 ge_b6
     replace ht := ht.tr c278 (by intro hx; have := ht.lt; have := ht1; simp only [List.mem_cons, List.mem_nil_iff, or_false] at hx; omega)
     replace hb4 := hb4.tr1 c278 ne_b3_b6
     replace hb17 := hb17.tr1 c278 (Ne.symm ne_b6_b8)
     replace hsl := hsl.tr c278 (by intro k hx hD; simp only [List.mem_singleton] at hx; subst hx; omega)
     refine aI rfl <| en <| x_ret <| then_r <| block_r <| then_r <| ret_many (vs := [.agg ⟨[_, _]⟩, .int _ _]) rfl ⟨⟨_, _, rfl, run_loadVarA T.agg78 (hb279.cells (n := 2) rfl) rfl⟩, ⟨rfl, trivial⟩⟩ (Nat.le_of_ble_eq_true rfl) <| (?_ : PieceT _ _ _ _ _ _)
     rw [dollarV, if_neg (by first | (rw [hA1]; simp; done) | (rw [hA1]; simp; intro h9; first | assumption | (exfalso; omega) | simp_all)), if_neg (by rw [h1]; simp), if_neg (by rw [h2]; simp), if_pos (by omega)]
     exact ⟨_, _, rfl, (hsl.mono (fun k _ h => Nat.le_trans sz1_hsl h)), HC⟩
    ·try simp only [nm, ne_eq] at h3
     have hk0 : ¬ (namedV (w.drop 1)) = 0 := by omega
     refine x_skip <| then_n <| x_seq <| sr rfl <| mS rfl <| Wp rfl <| st_sidx T.u9 rfl rfl (by decide) (by omega) <| Wp rfl <| st_call (ags := [_]) rfl rfl T.ent43 rfl (c_digit (byte w 1) _) ?_
     rintro _ w280 ⟨rfl, c281⟩
     replace HC := HC.then c281
     replace ht := ht.tr0 c281
     replace hb4 := hb4.tr0 c281
     replace hb8 := hb8.tr0 c281
     replace hb17 := hb17.tr0 c281
     refine en <| x_cond rfl (fun h4 => ?_) (fun h4 => ?_)
     ·try simp only [nm, ne_eq] at h4
      have ha1 : IntKind.i64.wrap (1 + 1) = ((2 : Nat) : Int) := by rw [wrap64_id (by omega) (by omega)]; rfl
      refine x_region rfl <| aI rfl <| en <| x_seq <| x_draw [(0, 0), (1, 0), (2, 0), (3, 0), (4, 0), (5, 1), (6, 0), (7, 2)] T.mixed rfl rfl rfl (fun W => W.heap[b3]? = w280.heap[b3]? ∧ W.heap[b6]? = w280.heap[b6]? ∧ True) ⟨rfl, rfl, trivial⟩ ?_
      have o284 := hb4
      have o285 := hb8
      have c283 := Chg.drew w280
      generalize World.drew w280 = w282 at c283 ⊢
      replace HC := HC.then c283
      replace ht := ht.tr0 c283
      replace hb4 := hb4.tr0 c283
      replace hb8 := hb8.tr0 c283
      replace hb17 := hb17.tr0 c283
      refine sq_q rfl (fun W hT => r_move (v := S _) rfl) <| sq_q rfl (fun W hT => r_move (v := .int _ _) rfl) <| sq_q rfl (fun W hT => r_addk rfl rfl (by exact ha1)) <| sq_q rfl (fun W hT => r_sslice (i := 1) (j := 2) T.u9 rfl ⟨_, rfl⟩ ⟨_, rfl⟩ (by omega) (by omega)) <| sq_q rfl (fun W hT => r_fieldAddr T.fld33_0 rfl) <| sq_store1 rfl T.size3 (v := .int _ _) rfl rfl rfl hb17 rfl (Nat.le_of_ble_eq_true rfl) (by simp [Value.oneCell', S]) rfl ?_
      intro w286 c287 hb288; simp only [setVs, setV] at hb288
      clear hb17
      replace HC := HC.then1 c287 ge_b8
      replace ht := ht.tr c287 (by intro hx; have := ht.lt; have := ht1; simp only [List.mem_cons, List.mem_nil_iff, or_false] at hx; omega)
      replace hb4 := hb4.tr1 c287 ne_b3_b8
      replace hb8 := hb8.tr1 c287 ne_b6_b8
      refine ⟨_, fun _ h => h, ⟨(Eq.trans hb4 o284.symm), (Eq.trans hb8 o285.symm), trivial⟩, ?_⟩
      refine sq_q rfl (fun W hT => r_fieldAddr T.fld33_2 rfl) <| sq_store2 rfl T.size9 (v := S _) rfl rfl rfl hb288 rfl (Nat.le_of_ble_eq_true rfl) (by simp [Value.oneCell', S]) rfl ?_
      intro w289 c290 hb291; simp only [setVs, setV] at hb291
      clear hb288
      replace HC := HC.then1 c290 ge_b8
      replace ht := ht.tr c290 (by intro hx; have := ht.lt; have := ht1; simp only [List.mem_cons, List.mem_nil_iff, or_false] at hx; omega)
      replace hb4 := hb4.tr1 c290 ne_b3_b8
      replace hb8 := hb8.tr1 c290 ne_b6_b8
      clear o284
      clear o285
      refine sq_nil <| then_n <| x_region rfl <| mI rfl <| Wp rfl <| st_addk rfl rfl (by exact ha1) <| aI rfl <| wops_nil <| block_n <| then_n <| sr rfl <| Wp rfl <| st_loadA (vs := [_, _, _, _, _, _]) T.agg33 rfl (hb291.cells (n := 6) (vs := [_, _, _, _, _, _]) rfl) rfl <| mI rfl <| Wp rfl <| st_call (ags := [_, _]) rfl rfl T.ent85 rfl (one_spec ⟨1, [], (w.take 2).drop 1, [], [], (!decide (m = 0))⟩ 2 _) ?_
      have lt1_hsl_b3 := hb4.lt
      have lt1_hsl_b6 := hb8.lt
      have lt1_hsl_b8 := hb291.lt
      have sz1_hsl := HC.size
      rintro _ w292 ⟨A, cap, rfl, hsl, c293⟩
      replace HC := HC.then c293
      replace ht := ht.tr0 c293
      replace hb4 := hb4.tr0 c293
      replace hb8 := hb8.tr0 c293
      replace hb291 := hb291.tr0 c293
      refine Wp rfl <| st_store (v := .agg ⟨[.slice _ _ _, .int _ _]⟩) T.size78 rfl rfl rfl hb8 rfl (Nat.le_of_ble_eq_true rfl) (by simp [Value.oneCell', S]) rfl ?_
      intro w294 c295 hb296; simp only [setVs, setV] at hb296
      clear hb8
      replace HC := HC.then1 c295 ge_b6
      replace ht := ht.tr c295 (by intro hx; have := ht.lt; have := ht1; simp only [List.mem_cons, List.mem_nil_iff, or_false] at hx; omega)
      replace hb4 := hb4.tr1 c295 ne_b3_b6
      replace hb291 := hb291.tr1 c295 (Ne.symm ne_b6_b8)
      replace hsl := hsl.tr c295 (by intro k hx hD; simp only [List.mem_singleton] at hx; subst hx; omega)
      refine aI rfl <| en <| x_ret <| ret_many (vs := [.agg ⟨[_, _]⟩, .int _ _]) rfl ⟨⟨_, _, rfl, run_loadVarA T.agg78 (hb296.cells (n := 2) rfl) rfl⟩, ⟨rfl, trivial⟩⟩ (Nat.le_of_ble_eq_true rfl) <| (?_ : PieceT _ _ _ _ _ _)
      rw [dollarV, if_neg (by first | (rw [hA1]; simp; done) | (rw [hA1]; simp; intro h9; first | assumption | (exfalso; omega) | simp_all)), if_neg (by rw [h1]; simp), if_neg (by rw [h2]; simp), if_neg hk0, if_pos h4]
      exact ⟨_, _, rfl, (hsl.mono (fun k _ h => Nat.le_trans sz1_hsl h)), HC⟩
     ·try simp only [nm, ne_eq] at h4
      have ha1 : IntKind.i64.wrap (1 + ((namedV (w.drop 1)) : Int)) = ((1 + (namedV (w.drop 1)) : Nat) : Int) := by rw [wrap64_id (by omega) (by omega)]; omega
      refine x_skip <| then_n <| x_seq <| x_draw [(0, 0), (1, 0), (2, 0), (3, 0), (4, 0), (5, 1), (6, 0), (7, 2)] T.mixed rfl rfl rfl (fun W => W.heap[b3]? = w280.heap[b3]? ∧ W.heap[b6]? = w280.heap[b6]? ∧ True) ⟨rfl, rfl, trivial⟩ ?_
      have o299 := hb4
      have o300 := hb8
      have c298 := Chg.drew w280
      generalize World.drew w280 = w297 at c298 ⊢
      replace HC := HC.then c298
      replace ht := ht.tr0 c298
      replace hb4 := hb4.tr0 c298
      replace hb8 := hb8.tr0 c298
      replace hb17 := hb17.tr0 c298
      refine sq_q rfl (fun W hT => r_move (v := S _) rfl) <| sq_q rfl (fun W hT => r_move (v := .int _ _) rfl) <| sq_q rfl (fun W hT => r_addk rfl rfl (by exact ha1)) <| sq_q rfl (fun W hT => r_sslice (i := 1) (j := 1 + (namedV (w.drop 1))) T.u9 rfl ⟨_, rfl⟩ ⟨_, rfl⟩ (by omega) (by omega)) <| sq_q rfl (fun W hT => r_fieldAddr T.fld33_0 rfl) <| sq_store1 rfl T.size3 (v := .int _ _) rfl rfl rfl hb17 rfl (Nat.le_of_ble_eq_true rfl) (by simp [Value.oneCell', S]) rfl ?_
      intro w301 c302 hb303; simp only [setVs, setV] at hb303
      clear hb17
      replace HC := HC.then1 c302 ge_b8
      replace ht := ht.tr c302 (by intro hx; have := ht.lt; have := ht1; simp only [List.mem_cons, List.mem_nil_iff, or_false] at hx; omega)
      replace hb4 := hb4.tr1 c302 ne_b3_b8
      replace hb8 := hb8.tr1 c302 ne_b6_b8
      refine ⟨_, fun _ h => h, ⟨(Eq.trans hb4 o299.symm), (Eq.trans hb8 o300.symm), trivial⟩, ?_⟩
      refine sq_q rfl (fun W hT => r_fieldAddr T.fld33_2 rfl) <| sq_store2 rfl T.size9 (v := S _) rfl rfl rfl hb303 rfl (Nat.le_of_ble_eq_true rfl) (by simp [Value.oneCell', S]) rfl ?_
      intro w304 c305 hb306; simp only [setVs, setV] at hb306
      clear hb303
      replace HC := HC.then1 c305 ge_b8
      replace ht := ht.tr c305 (by intro hx; have := ht.lt; have := ht1; simp only [List.mem_cons, List.mem_nil_iff, or_false] at hx; omega)
      replace hb4 := hb4.tr1 c305 ne_b3_b8
      replace hb8 := hb8.tr1 c305 ne_b6_b8
      clear o299
      clear o300
      refine sq_nil <| then_n <| x_region rfl <| mI rfl <| Wp rfl <| st_addk rfl rfl (by exact ha1) <| aI rfl <| wops_nil <| block_n <| then_n <| sr rfl <| Wp rfl <| st_loadA (vs := [_, _, _, _, _, _]) T.agg33 rfl (hb306.cells (n := 6) (vs := [_, _, _, _, _, _]) rfl) rfl <| mI rfl <| Wp rfl <| st_call (ags := [_, _]) rfl rfl T.ent85 rfl (one_spec ⟨1, [], (w.take (1 + (namedV (w.drop 1)))).drop 1, [], [], (!decide (m = 0))⟩ ((1 + (namedV (w.drop 1)) : Nat) : Int) _) ?_
      have lt1_hsl_b3 := hb4.lt
      have lt1_hsl_b6 := hb8.lt
      have lt1_hsl_b8 := hb306.lt
      have sz1_hsl := HC.size
      rintro _ w307 ⟨A, cap, rfl, hsl, c308⟩
      replace HC := HC.then c308
      replace ht := ht.tr0 c308
      replace hb4 := hb4.tr0 c308
      replace hb8 := hb8.tr0 c308
      replace hb306 := hb306.tr0 c308
      refine Wp rfl <| st_store (v := .agg ⟨[.slice _ _ _, .int _ _]⟩) T.size78 rfl rfl rfl hb8 rfl (Nat.le_of_ble_eq_true rfl) (by simp [Value.oneCell', S]) rfl ?_
      intro w309 c310 hb311; simp only [setVs, setV] at hb311
      clear hb8
      replace HC := HC.then1 c310 ge_b6
      replace ht := ht.tr c310 (by intro hx; have := ht.lt; have := ht1; simp only [List.mem_cons, List.mem_nil_iff, or_false] at hx; omega)
      replace hb4 := hb4.tr1 c310 ne_b3_b6
      replace hb306 := hb306.tr1 c310 (Ne.symm ne_b6_b8)
      replace hsl := hsl.tr c310 (by intro k hx hD; simp only [List.mem_singleton] at hx; subst hx; omega)
      refine aI rfl <| en <| x_ret <| ret_many (vs := [.agg ⟨[_, _]⟩, .int _ _]) rfl ⟨⟨_, _, rfl, run_loadVarA T.agg78 (hb311.cells (n := 2) rfl) rfl⟩, ⟨rfl, trivial⟩⟩ (Nat.le_of_ble_eq_true rfl) <| (?_ : PieceT _ _ _ _ _ _)
      rw [dollarV, if_neg (by first | (rw [hA1]; simp; done) | (rw [hA1]; simp; intro h9; first | assumption | (exfalso; omega) | simp_all)), if_neg (by rw [h1]; simp), if_neg (by rw [h2]; simp), if_neg hk0, if_neg (by rw [h4]; simp)]
      exact ⟨_, _, rfl, (hsl.mono (fun k _ h => Nat.le_trans sz1_hsl h)), HC⟩

end Go.Proofs.YtiiahnpgomdfmaaDoor.K
