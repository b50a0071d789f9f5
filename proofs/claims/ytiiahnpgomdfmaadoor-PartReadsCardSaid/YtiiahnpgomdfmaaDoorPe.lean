/- Parts: what a word begins with. -/
import Derived.Test.YtiiahnpgomdfmaaDoorPd
set_option linter.unusedVariables false
set_option linter.unusedSimpArgs false
set_option autoImplicit false
set_option maxRecDepth 20000
namespace Go.Proofs.YtiiahnpgomdfmaaDoor.K
open Go Go.Proofs Go.RowKit

theorem skip_cases (w : Bytes) (hw : w ≠ []) : (∃ n, skipL 64 w = .ok n ∧ 1 ≤ n ∧ n ≤ w.length) ∨ ∃ e, skipL 64 w = .error e ∧ e ≠ 0 := by
  cases h : skipL 64 w with
  | ok n => exact .inl ⟨n, rfl, skipL_le _ _ _ hw h⟩
  | error e => exact .inr ⟨e, rfl, skipL_err _ _ _ h⟩
theorem skipA_0 (w : Bytes) : skipA 64 w 0 = skipL 64 w := by
  rw [skipA, List.drop_zero]; cases skipL 64 w <;> rfl
theorem Skip_ok {n : Nat} (s : Bytes) (w : World) (hs : s.length < 4294967281) (h0 : s ≠ []) (h : skipL 64 s = .ok n) : CallR Tryd.prog 27 #[S s, .int .i64 0] w fun v w' => v = .tuple ⟨[.int .i64 (n : Int), .int .i64 0]⟩ ∧ Chg [] w w' :=
  CallR.imp (Skip_spec s 0 w hs) fun v w' ⟨h1, h2⟩ => ⟨by rw [h1, show skipV s 0 = ((n : Int), 0) from skipV_ok (j := 0) (List.length_pos_iff.2 h0) (by rw [skipA_0]; exact h)], h2⟩
theorem Skip_err {e : Nat} (s : Bytes) (w : World) (hs : s.length < 4294967281) (h0 : s ≠ []) (h : skipL 64 s = .error e) : CallR Tryd.prog 27 #[S s, .int .i64 0] w fun v w' => v = .tuple ⟨[.int .i64 0, .int .i64 (e : Int)]⟩ ∧ Chg [] w w' :=
  CallR.imp (Skip_spec s 0 w hs) fun v w' ⟨h1, h2⟩ => ⟨by rw [h1, show skipV s 0 = (0, (e : Int)) from skipV_err (j := 0) (List.length_pos_iff.2 h0) (by rw [skipA_0]; exact h)], h2⟩
theorem nextP_back {pq : Bytes → List Prt × Int} {m : Int} {w : Bytes} (h : byte w 0 = 92 ∧ (!decide (m = 0)) = true) : nextP pq m w = ((backV m w).1, (backV m w).2, 0) := by
  simp only [nextP]; rw [if_pos h]
theorem nextP_one {pq : Bytes → List Prt × Int} {m : Int} {w : Bytes} (h : ¬ (byte w 0 = 92 ∧ (!decide (m = 0)) = true)) (h2 : byte w 0 ≠ 36 ∧ byte w 0 ≠ 96 ∧ ((!decide (m = 0)) = true ∨ (byte w 0 ≠ 39 ∧ byte w 0 ≠ 34 ∧ byte w 0 ≠ 92))) : nextP pq m w = ([txtP (w.take 1) (!decide (m = 0))], 1, 0) := by
  simp only [nextP]; rw [if_neg h, if_pos h2]
theorem nextP_err {pq : Bytes → List Prt × Int} {m : Int} {w : Bytes} {e : Nat} (h : ¬ (byte w 0 = 92 ∧ (!decide (m = 0)) = true)) (h2 : ¬ (byte w 0 ≠ 36 ∧ byte w 0 ≠ 96 ∧ ((!decide (m = 0)) = true ∨ (byte w 0 ≠ 39 ∧ byte w 0 ≠ 34 ∧ byte w 0 ≠ 92)))) (he : skipL 64 w = .error e) : nextP pq m w = ([], 0, (e : Int)) := by
  simp only [nextP]; rw [if_neg h, if_neg h2, he]
theorem nextP_ok {pq : Bytes → List Prt × Int} {m : Int} {w : Bytes} {n : Nat} (h : ¬ (byte w 0 = 92 ∧ (!decide (m = 0)) = true)) (h2 : ¬ (byte w 0 ≠ 36 ∧ byte w 0 ≠ 96 ∧ ((!decide (m = 0)) = true ∨ (byte w 0 ≠ 39 ∧ byte w 0 ≠ 34 ∧ byte w 0 ≠ 92)))) (hn : skipL 64 w = .ok n) : nextP pq m w =
    if byte w 0 = 36 then ([(dollarV (!decide (m = 0)) w n).1], (dollarV (!decide (m = 0)) w n).2.1, (dollarV (!decide (m = 0)) w n).2.2)
    else if byte w 0 = 39 then ([txtP ((w.take (n - 1)).drop 1) true], n, 0)
    else if byte w 0 = 34 then (if n = 2 then ([txtP [] true], n, 0) else ((pq ((w.take (n - 1)).drop 1)).1, n, (pq ((w.take (n - 1)).drop 1)).2))
    else if byte w 0 = 92 then (if (w.take n).drop 1 = [10] ∨ (w.take n).drop 1 = [] then ([], n, 0) else ([txtP ((w.take n).drop 1) true], n, 0))
    else ([⟨2, untick ((w.take (n - 1)).drop 1), [], [], [], (!decide (m = 0))⟩], n, 0) := by
  simp only [nextP]; rw [if_neg h, if_neg h2, hn]
theorem two_le {w : Bytes} {n : Nat} (hw : w ≠ []) (h : skipL 64 w = .ok n) (hc : byte w 0 = 39 ∨ byte w 0 = 34 ∨ byte w 0 = 96) : 2 ≤ n := by
  have h1 : skipA 64 w 0 = .ok n := by rw [skipA_0, h]
  have hl := List.length_pos_iff.2 hw
  rcases hc with h2 | h2 | h2
  · rw [skipA_quote (f := 63) hl h2] at h1
    cases h3 : runA 39 false w (0 + 1) with
    | none => rw [h3] at h1; cases h1
    | some k => rw [h3] at h1; cases h1; have := runA_le h3; omega
  · rw [skipA_double (f := 63) hl h2] at h1
    obtain ⟨i, h2, rfl⟩ := map_ok h1
    have := untilN_le (fun s k hs hk => skipL_le _ _ _ hs hk) _ _ _ _ h2
    omega
  · rw [skipA_tick (f := 63) hl h2] at h1
    cases h3 : runA 96 true w (0 + 1) with
    | none => rw [h3] at h1; cases h1
    | some k => rw [h3] at h1; cases h1; have := runA_le h3; omega
theorem back_le {w : Bytes} {n : Nat} (hw : w ≠ []) (h : skipL 64 w = .ok n) (hc : byte w 0 = 92) : n ≤ 2 := by
  have h1 : skipA 64 w 0 = .ok n := by rw [skipA_0, h]
  rw [skipA_back (f := 63) (List.length_pos_iff.2 hw) hc] at h1
  cases h1; omega
theorem trim_one {x : Bytes} (h : x.length ≤ 1) : (Lib.trimPrefix x [10] = [] ∧ (x = [10] ∨ x = [])) ∨ (Lib.trimPrefix x [10] = x ∧ ¬ (x = [10] ∨ x = [])) := by
  match x, h with
  | [], _ => exact .inl ⟨rfl, .inr rfl⟩
  | [c], _ =>
    by_cases hc : c = 10
    · subst hc; exact .inl ⟨rfl, .inl rfl⟩
    · right
      refine ⟨?_, by simp [hc]⟩
      have : Lib.hasPrefix [c] [10] = false := by
        rw [Bool.eq_false_iff]; intro h; simp [Lib.hasPrefix] at h; first | exact hc h | exact hc h.symm
      simp [Lib.trimPrefix, this]
theorem in2a {c : UInt8} : 0 ≤ idx [36, 96] c ↔ c = 36 ∨ c = 96 := by rw [idx_mem]; simp
theorem in3a {c : UInt8} : 0 ≤ idx [39, 34, 92] c ↔ c = 39 ∨ c = 34 ∨ c = 92 := by rw [idx_mem]; simp

theorem next_spec (m : Int) (pq : Bytes → List Prt × Int) (w : Bytes) (w0 : World) (hs : w.length < 4294967281) (hw : w ≠ []) (ht : Tab w0)
    (hP : m = 0 → ∀ (s' : Bytes) (W : World), s'.length < w.length → Tab W → CallR Tryd.prog 9 #[S s', .int .i64 1] W fun v W' => ∃ A cap, v = .tuple ⟨[.slice A (pq s').1.length cap, .int .i64 (pq s').2]⟩ ∧ Sl prtE W' (fun k => W.heap.size ≤ k) A (pq s').1 ∧ Chg [] W W') :
    CallR Tryd.prog 34 #[.agg ⟨[.int .i64 m]⟩, S w] w0 fun v w' => PieceT w0 w' (nextP pq m w).1 (nextP pq m w).2.1 (nextP pq m w).2.2 v := by
 refine callR_of_wp (args := [_, _]) Tryd.func34 rfl (Nat.le_of_ble_eq_true rfl) ?_
 have HC : Chg [] w0 w0 := .refl _
 have ht1 := ht.lt
 have hw1 := List.length_pos_iff.2 hw
 refine sr rfl <| Wp rfl <| st_box (v := .agg ⟨[.int _ _]⟩) (vs := [_]) rfl rfl ?_
 intro b2 w1 e2 c3 hb4
 have ge_b2 : w0.heap.size ≤ b2 := by rw [e2]; exact HC.size
 replace HC := HC.then c3
 replace ht := ht.tr0 c3
 clear e2
 refine Wp rfl <| st_alloc T.zero78 ?_
 intro b4 w5 e6 c7 hb8
 have ge_b4 : w0.heap.size ≤ b4 := by rw [e6]; exact HC.size
 have ne_b2_b4 : b2 ≠ b4 := by rw [e6]; exact hb4.ne_size
 replace HC := HC.then c7
 replace ht := ht.tr0 c7
 replace hb4 := hb4.tr0 c7
 clear e6
 refine aI rfl <| en <| sr rfl <| mS rfl <| Wp rfl <| st_sidx T.u9 rfl rfl (by decide) (by omega) <| aI rfl <| en <| x_seq <| x_block <| sr rfl <| mI rfl <| Wp rfl <| st_eql rfl rfl <| mB rfl <| w_split (d := 17) rfl (fun g9 => ?_) (fun g9 => ?_)
 ·try simp only [nm, ne_eq] at g9
  refine w_yes 2 17 true <| st_loadA (vs := [_]) T.agg46 rfl (hb4.cells (n := 1) (vs := [_]) rfl) rfl <| w_yes 2 17 true <| st_call (ags := [_]) rfl rfl T.ent58 rfl (quoted_spec m _) ?_
  rintro _ w10 ⟨rfl, c11⟩
  replace HC := HC.then c11
  replace ht := ht.tr0 c11
  replace hb4 := hb4.tr0 c11
  replace hb8 := hb8.tr0 c11
  refine pT rfl rfl <| aB rfl <| en <| x_cond rfl (fun h0 => ?_) (fun h0 => ?_)
  ·try simp only [nm, ne_eq] at h0
   have hA : byte w 0 = 92 ∧ (!decide (m = 0)) = true := ⟨u8_eq (by assumption) rfl, by first | assumption | simp_all⟩
   refine sr rfl <| Wp rfl <| st_loadA (vs := [_]) T.agg46 rfl (hb4.cells (n := 1) (vs := [_]) rfl) rfl <| mS rfl <| Wp rfl <| st_call (ags := [_, _]) rfl rfl T.ent59 rfl (back_spec m w _ hs hw) ?_
   have lt1_hsl_b2 := hb4.lt
   have lt1_hsl_b4 := hb8.lt
   have sz1_hsl := HC.size
   rintro _ w12 ⟨A, cap, rfl, hsl, c13⟩
   replace HC := HC.then c13
   replace ht := ht.tr0 c13
   replace hb4 := hb4.tr0 c13
   replace hb8 := hb8.tr0 c13
   refine Wp rfl <| st_store (v := .agg ⟨[.slice _ _ _, .int _ _]⟩) T.size78 rfl rfl rfl hb8 rfl (Nat.le_of_ble_eq_true rfl) (by simp [Value.oneCell', S]) rfl ?_
   intro w14 c15 hb16; simp only [setVs, setV] at hb16
   clear hb8
   replace HC := HC.then1 c15 ge_b4
   replace ht := ht.tr c15 (by intro hx; have := ht.lt; have := ht1; simp only [List.mem_cons, List.mem_nil_iff, or_false] at hx; omega)
   replace hb4 := hb4.tr1 c15 ne_b2_b4
   replace hsl := hsl.tr c15 (by intro k hx hD; simp only [List.mem_singleton] at hx; subst hx; omega)
   refine aI rfl <| en <| x_ret <| block_r <| then_r <| ret_many (vs := [.agg ⟨[_, _]⟩, .int _ _]) rfl ⟨⟨_, _, rfl, run_loadVarA T.agg78 (hb16.cells (n := 2) rfl) rfl⟩, ⟨rfl, trivial⟩⟩ (Nat.le_of_ble_eq_true rfl) <| (?_ : PieceT _ _ _ _ _ _)
   rw [nextP_back hA]
   exact ⟨_, _, rfl, (hsl.mono (fun k _ h => Nat.le_trans sz1_hsl h)), HC⟩
  ·try simp only [nm, ne_eq] at h0
   have hA : ¬ (byte w 0 = 92 ∧ (!decide (m = 0)) = true) := by rintro ⟨h8, h9⟩; first | (have h10 : ((byte w 0).toNat : Int) = 92 := (by rw [h8]; rfl); omega) | (rw [h9] at *; simp_all; done) | simp_all
   refine sr rfl <| mI rfl <| Wp rfl <| st_call (ags := [_, _]) rfl rfl T.ent26 rfl (IndexByte_spec [36, 96] (byte w 0) _) ?_
   rintro _ w17 ⟨rfl, c18⟩
   replace HC := HC.then c18
   replace ht := ht.tr0 c18
   replace hb4 := hb4.tr0 c18
   replace hb8 := hb8.tr0 c18
   refine Wp rfl <| st_lss rfl rfl <| mB rfl <| w_split (d := 28) rfl (fun g19 => ?_) (fun g19 => ?_)
   ·try simp only [nm, ne_eq] at g19
    refine w_yes 3 28 true <| st_loadA (vs := [_]) T.agg46 rfl (hb4.cells (n := 1) (vs := [_]) rfl) rfl <| w_yes 3 28 true <| st_call (ags := [_]) rfl rfl T.ent58 rfl (quoted_spec m _) ?_
    rintro _ w20 ⟨rfl, c21⟩
    replace HC := HC.then c21
    replace ht := ht.tr0 c21
    replace hb4 := hb4.tr0 c21
    replace hb8 := hb8.tr0 c21
    refine w_yes 3 28 true <| st_move (v := .bool _) rfl <| w_split (d := 31) rfl (fun g22 => ?_) (fun g22 => ?_)
    ·try simp only [nm, ne_eq] at g22
     iterate 3 refine w_no 6 31 false ?_
     refine w_yes 3 28 true <| st_pick (b := true) (v := .bool _) rfl rfl <| pT rfl rfl <| aB rfl <| en <| x_cond (t := true) rfl (fun h1 => ?_) (fun h1 => ?_)
     rotate_left
     · exact absurd h1 (by decide)
     have hB1 : byte w 0 ≠ 36 ∧ byte w 0 ≠ 96 := ⟨fun e => by have h8 := in2a.2 (.inl e); first | omega | simp_all, fun e => by have h8 := in2a.2 (.inr e); first | omega | simp_all⟩
     have hB2 : (!decide (m = 0)) = true ∨ (byte w 0 ≠ 39 ∧ byte w 0 ≠ 34 ∧ byte w 0 ≠ 92) := by first | (left; assumption) | (left; simp_all; done) | (right; refine ⟨fun e => ?_, fun e => ?_, fun e => ?_⟩ <;> (have h8 := (in3a (c := byte w 0)).2 (by simp [e]); first | omega | simp_all))
     refine x_seq <| x_draw [(0, 0), (1, 0), (2, 0), (3, 1), (4, 1), (5, 1), (6, 0)] T.mixed rfl rfl rfl (fun W => W.heap[b2]? = w20.heap[b2]? ∧ True) ⟨rfl, trivial⟩ ?_
     have o25 := hb4
     have c24 := Chg.drew w20
     generalize World.drew w20 = w23 at c24 ⊢
     replace HC := HC.then c24
     replace ht := ht.tr0 c24
     replace hb4 := hb4.tr0 c24
     replace hb8 := hb8.tr0 c24
     refine sq_q rfl (fun W hT => r_move (v := S _) rfl) <| sq_q rfl (fun W hT => r_sshi (j := 1) T.u9 rfl ⟨_, rfl⟩ (by omega)) <| sq_q rfl (fun W hT => r_loadA (vs := [_]) T.agg46 rfl (Blk.cells (n := 1) (vs := [_]) (show Blk W b2 _ _ from hT.1.trans o25) rfl) rfl) <| sq_call1 rfl (r_call (ags := [_]) rfl rfl T.ent58 rfl) (quoted_spec m _) ?_
     rintro _ w26 ⟨rfl, c27⟩
     replace HC := HC.then c27
     replace ht := ht.tr0 c27
     replace hb4 := hb4.tr0 c27
     replace hb8 := hb8.tr0 c27
     refine ⟨_, fun _ h => h, ⟨(Eq.trans hb4 o25.symm), trivial⟩, ?_⟩
     refine sq_call1 rfl (r_call (ags := [_, _, _]) rfl rfl T.ent60 rfl) (text_spec (w.take 1) (!decide (m = 0)) 1 _) ?_
     have lt1_hsl_b2 := hb4.lt
     have lt1_hsl_b4 := hb8.lt
     have sz1_hsl := HC.size
     rintro _ w28 ⟨A, cap, rfl, hsl, c29⟩
     replace HC := HC.then c29
     replace ht := ht.tr0 c29
     replace hb4 := hb4.tr0 c29
     replace hb8 := hb8.tr0 c29
     refine ⟨_, fun _ h => h, ⟨(Eq.trans hb4 o25.symm), trivial⟩, ?_⟩
     refine sq_store1 rfl T.size78 (v := .agg ⟨[.slice _ _ _, .int _ _]⟩) rfl rfl rfl hb8 rfl (Nat.le_of_ble_eq_true rfl) (by simp [Value.oneCell', S]) rfl ?_
     intro w30 c31 hb32; simp only [setVs, setV] at hb32
     clear hb8
     replace HC := HC.then1 c31 ge_b4
     replace ht := ht.tr c31 (by intro hx; have := ht.lt; have := ht1; simp only [List.mem_cons, List.mem_nil_iff, or_false] at hx; omega)
     replace hb4 := hb4.tr1 c31 ne_b2_b4
     replace hsl := hsl.tr c31 (by intro k hx hD; simp only [List.mem_singleton] at hx; subst hx; omega)
     refine ⟨_, fun _ h => h, ⟨(Eq.trans hb4 o25.symm), trivial⟩, ?_⟩
     refine sq_q rfl (fun W hT => r_assign (v := .int _ _) rfl) ?_
     clear o25
     refine sq_nil <| then_n <| x_ret <| block_r <| then_r <| ret_many (vs := [.agg ⟨[_, _]⟩, .int _ _]) rfl ⟨⟨_, _, rfl, run_loadVarA T.agg78 (hb32.cells (n := 2) rfl) rfl⟩, ⟨rfl, trivial⟩⟩ (Nat.le_of_ble_eq_true rfl) <| (?_ : PieceT _ _ _ _ _ _)
     rw [nextP_one hA ⟨hB1.1, hB1.2, hB2⟩]
     exact ⟨_, _, rfl, (hsl.mono (fun k _ h => Nat.le_trans sz1_hsl h)), HC⟩
    ·try simp only [nm, ne_eq] at g22
     refine w_yes 6 31 false <| st_move (v := .int _ _) rfl <| w_yes 6 31 false <| st_call (ags := [_, _]) rfl rfl T.ent26 rfl (IndexByte_spec [39, 34, 92] (byte w 0) _) ?_
     rintro _ w33 ⟨rfl, c34⟩
     replace HC := HC.then c34
     replace ht := ht.tr0 c34
     replace hb4 := hb4.tr0 c34
     replace hb8 := hb8.tr0 c34
     refine w_yes 6 31 false <| st_lss rfl rfl <| w_yes 3 28 true <| st_pick (b := false) (v := .bool _) rfl rfl <| pT rfl rfl <| aB rfl <| en <| x_cond rfl (fun h1 => ?_) (fun h1 => ?_)
     ·try simp only [nm, ne_eq] at h1
      have hB1 : byte w 0 ≠ 36 ∧ byte w 0 ≠ 96 := ⟨fun e => by have h8 := in2a.2 (.inl e); first | omega | simp_all, fun e => by have h8 := in2a.2 (.inr e); first | omega | simp_all⟩
      have hB2 : (!decide (m = 0)) = true ∨ (byte w 0 ≠ 39 ∧ byte w 0 ≠ 34 ∧ byte w 0 ≠ 92) := by first | (left; assumption) | (left; simp_all; done) | (right; refine ⟨fun e => ?_, fun e => ?_, fun e => ?_⟩ <;> (have h8 := (in3a (c := byte w 0)).2 (by simp [e]); first | omega | simp_all))
      refine x_seq <| x_draw [(0, 0), (1, 0), (2, 0), (3, 1), (4, 1), (5, 1), (6, 0)] T.mixed rfl rfl rfl (fun W => W.heap[b2]? = w33.heap[b2]? ∧ True) ⟨rfl, trivial⟩ ?_
      have o37 := hb4
      have c36 := Chg.drew w33
      generalize World.drew w33 = w35 at c36 ⊢
      replace HC := HC.then c36
      replace ht := ht.tr0 c36
      replace hb4 := hb4.tr0 c36
      replace hb8 := hb8.tr0 c36
      refine sq_q rfl (fun W hT => r_move (v := S _) rfl) <| sq_q rfl (fun W hT => r_sshi (j := 1) T.u9 rfl ⟨_, rfl⟩ (by omega)) <| sq_q rfl (fun W hT => r_loadA (vs := [_]) T.agg46 rfl (Blk.cells (n := 1) (vs := [_]) (show Blk W b2 _ _ from hT.1.trans o37) rfl) rfl) <| sq_call1 rfl (r_call (ags := [_]) rfl rfl T.ent58 rfl) (quoted_spec m _) ?_
      rintro _ w38 ⟨rfl, c39⟩
      replace HC := HC.then c39
      replace ht := ht.tr0 c39
      replace hb4 := hb4.tr0 c39
      replace hb8 := hb8.tr0 c39
      refine ⟨_, fun _ h => h, ⟨(Eq.trans hb4 o37.symm), trivial⟩, ?_⟩
      refine sq_call1 rfl (r_call (ags := [_, _, _]) rfl rfl T.ent60 rfl) (text_spec (w.take 1) (!decide (m = 0)) 1 _) ?_
      have lt1_hsl_b2 := hb4.lt
      have lt1_hsl_b4 := hb8.lt
      have sz1_hsl := HC.size
      rintro _ w40 ⟨A, cap, rfl, hsl, c41⟩
      replace HC := HC.then c41
      replace ht := ht.tr0 c41
      replace hb4 := hb4.tr0 c41
      replace hb8 := hb8.tr0 c41
      refine ⟨_, fun _ h => h, ⟨(Eq.trans hb4 o37.symm), trivial⟩, ?_⟩
      refine sq_store1 rfl T.size78 (v := .agg ⟨[.slice _ _ _, .int _ _]⟩) rfl rfl rfl hb8 rfl (Nat.le_of_ble_eq_true rfl) (by simp [Value.oneCell', S]) rfl ?_
      intro w42 c43 hb44; simp only [setVs, setV] at hb44
      clear hb8
      replace HC := HC.then1 c43 ge_b4
      replace ht := ht.tr c43 (by intro hx; have := ht.lt; have := ht1; simp only [List.mem_cons, List.mem_nil_iff, or_false] at hx; omega)
      replace hb4 := hb4.tr1 c43 ne_b2_b4
      replace hsl := hsl.tr c43 (by intro k hx hD; simp only [List.mem_singleton] at hx; subst hx; omega)
      refine ⟨_, fun _ h => h, ⟨(Eq.trans hb4 o37.symm), trivial⟩, ?_⟩
      refine sq_q rfl (fun W hT => r_assign (v := .int _ _) rfl) ?_
      clear o37
      refine sq_nil <| then_n <| x_ret <| block_r <| then_r <| ret_many (vs := [.agg ⟨[_, _]⟩, .int _ _]) rfl ⟨⟨_, _, rfl, run_loadVarA T.agg78 (hb44.cells (n := 2) rfl) rfl⟩, ⟨rfl, trivial⟩⟩ (Nat.le_of_ble_eq_true rfl) <| (?_ : PieceT _ _ _ _ _ _)
      rw [nextP_one hA ⟨hB1.1, hB1.2, hB2⟩]
      exact ⟨_, _, rfl, (hsl.mono (fun k _ h => Nat.le_trans sz1_hsl h)), HC⟩
     ·try simp only [nm, ne_eq] at h1
      have hB : ¬ (byte w 0 ≠ 36 ∧ byte w 0 ≠ 96 ∧ ((!decide (m = 0)) = true ∨ (byte w 0 ≠ 39 ∧ byte w 0 ≠ 34 ∧ byte w 0 ≠ 92))) := by rintro ⟨h7, h8, h9⟩; first | (have h11 : 0 ≤ idx [36, 96] (byte w 0) := (by omega); rcases in2a.1 h11 with h | h; exact h7 h; exact h8 h) | (have h11 : 0 ≤ idx [39, 34, 92] (byte w 0) := (by omega); have h10 := in3a.1 h11; have hq : (!decide (m = 0)) = false := (by first | assumption | (simp; assumption) | simp_all); rw [hq] at h9; rcases h9 with h9 | ⟨ha, hb, hc⟩; cases h9; rcases h10 with h | h | h; exact ha h; exact hb h; exact hc h)
      refine x_skip <| block_n <| then_n <| x_seq ?_
      rcases skip_cases w hw with ⟨n, hn, hn1, hn2⟩ | ⟨e, he, he0⟩
      ·refine x_region rfl <| mS rfl <| Wp rfl <| st_call (ags := [_, _]) rfl rfl T.ent27 rfl (Skip_ok w _ hs hw hn) ?_
       rintro _ w45 ⟨rfl, c46⟩
       replace HC := HC.then c46
       replace ht := ht.tr0 c46
       replace hb4 := hb4.tr0 c46
       replace hb8 := hb8.tr0 c46
       refine mv (v := .tuple ⟨[_, _]⟩) rfl <| Wp rfl <| st_extract (vs := [_, _]) (v := .int _ _) rfl rfl <| Wp rfl <| st_extract (vs := [_, _]) (v := .int _ _) rfl rfl <| aI rfl <| aI rfl <| en <| x_seq <| sr rfl <| mI rfl <| Wp rfl <| st_neq rfl rfl <| en <| x_cond rfl (fun h2 => ?_) (fun h2 => ?_)
       ·try simp only [nm, ne_eq] at h2
        first | exact absurd rfl h2 | exact absurd trivial h2 | (simp at h2; done)
       ·try simp only [nm, ne_eq] at h2
        refine x_skip <| then_n <| x_seq <| sr rfl <| mI rfl <| en <| x_block <| sr rfl <| Wp rfl <| st_eql rfl rfl <| aB rfl <| en <| x_cond rfl (fun h3 => ?_) (fun h3 => ?_)
        ·try simp only [nm, ne_eq] at h3
         have hc0 : byte w 0 = 36 := u8_eq h3 rfl
         refine sr rfl <| Wp rfl <| st_loadA (vs := [_]) T.agg46 rfl (hb4.cells (n := 1) (vs := [_]) rfl) rfl <| mS rfl <| mI rfl <| Wp rfl <| st_call (ags := [_, _, _]) rfl rfl T.ent61 rfl (dollar_spec m w n _ hs hn2 hn1 (fun d hd hp => three_le hn hp hd) ht) ?_
         have lt1_hsl_b2 := hb4.lt
         have lt1_hsl_b4 := hb8.lt
         have sz1_hsl := HC.size
         rintro _ w47 ⟨A, cap, rfl, hsl, c48⟩
         replace HC := HC.then c48
         replace ht := ht.tr0 c48
         replace hb4 := hb4.tr0 c48
         replace hb8 := hb8.tr0 c48
         refine Wp rfl <| st_extract (vs := [_, _]) (v := .agg ⟨[.slice _ _ _, .int _ _]⟩) rfl rfl <| Wp rfl <| st_extract (vs := [_, _]) (v := .int _ _) rfl rfl <| Wp rfl <| st_store (v := .agg ⟨[.slice _ _ _, .int _ _]⟩) T.size78 rfl rfl rfl hb8 rfl (Nat.le_of_ble_eq_true rfl) (by simp [Value.oneCell', S]) rfl ?_
         intro w49 c50 hb51; simp only [setVs, setV] at hb51
         clear hb8
         replace HC := HC.then1 c50 ge_b4
         replace ht := ht.tr c50 (by intro hx; have := ht.lt; have := ht1; simp only [List.mem_cons, List.mem_nil_iff, or_false] at hx; omega)
         replace hb4 := hb4.tr1 c50 ne_b2_b4
         replace hsl := hsl.tr c50 (by intro k hx hD; simp only [List.mem_singleton] at hx; subst hx; omega)
         refine aI rfl <| en <| x_ret <| block_r <| then_r <| ret_many (vs := [.agg ⟨[_, _]⟩, .int _ _]) rfl ⟨⟨_, _, rfl, run_loadVarA T.agg78 (hb51.cells (n := 2) rfl) rfl⟩, ⟨rfl, trivial⟩⟩ (Nat.le_of_ble_eq_true rfl) <| (?_ : PieceT _ _ _ _ _ _)
         rw [nextP_ok hA hB hn, if_pos hc0]
         exact ⟨_, _, rfl, (hsl.mono (fun k _ h => Nat.le_trans sz1_hsl h)), HC⟩
        ·try simp only [nm, ne_eq] at h3
         have hc3 : byte w 0 ≠ 36 := fun e => h3 (by rw [e]; rfl)
         refine sr rfl <| Wp rfl <| st_eql rfl rfl <| aB rfl <| en <| x_cond rfl (fun h4 => ?_) (fun h4 => ?_)
         ·try simp only [nm, ne_eq] at h4
          have hc0 : byte w 0 = 39 := u8_eq h4 rfl
          have hn3 := two_le hw hn (.inl hc0)
          have hs1 : IntKind.i64.wrap ((n : Int) - 1) = ((n - 1 : Nat) : Int) := by rw [wrap64_id (by omega) (by omega)]; omega
          refine sr rfl <| mS rfl <| mI rfl <| Wp rfl <| st_subk rfl rfl (by exact hs1) <| Wp rfl <| st_sslice (i := 1) (j := n - 1) T.u9 rfl ⟨_, rfl⟩ ⟨_, rfl⟩ (by omega) (by omega) <| mI rfl <| Wp rfl <| st_call (ags := [_, _, _]) rfl rfl T.ent60 rfl (text_spec ((w.take (n - 1)).drop 1) true n _) ?_
          have lt1_hsl_b2 := hb4.lt
          have lt1_hsl_b4 := hb8.lt
          have sz1_hsl := HC.size
          rintro _ w52 ⟨A, cap, rfl, hsl, c53⟩
          replace HC := HC.then c53
          replace ht := ht.tr0 c53
          replace hb4 := hb4.tr0 c53
          replace hb8 := hb8.tr0 c53
          refine Wp rfl <| st_store (v := .agg ⟨[.slice _ _ _, .int _ _]⟩) T.size78 rfl rfl rfl hb8 rfl (Nat.le_of_ble_eq_true rfl) (by simp [Value.oneCell', S]) rfl ?_
          intro w54 c55 hb56; simp only [setVs, setV] at hb56
          clear hb8
          replace HC := HC.then1 c55 ge_b4
          replace ht := ht.tr c55 (by intro hx; have := ht.lt; have := ht1; simp only [List.mem_cons, List.mem_nil_iff, or_false] at hx; omega)
          replace hb4 := hb4.tr1 c55 ne_b2_b4
          replace hsl := hsl.tr c55 (by intro k hx hD; simp only [List.mem_singleton] at hx; subst hx; omega)
          refine aI rfl <| en <| x_ret <| block_r <| then_r <| ret_many (vs := [.agg ⟨[_, _]⟩, .int _ _]) rfl ⟨⟨_, _, rfl, run_loadVarA T.agg78 (hb56.cells (n := 2) rfl) rfl⟩, ⟨rfl, trivial⟩⟩ (Nat.le_of_ble_eq_true rfl) <| (?_ : PieceT _ _ _ _ _ _)
          rw [nextP_ok hA hB hn, if_neg hc3, if_pos hc0]
          exact ⟨_, _, rfl, (hsl.mono (fun k _ h => Nat.le_trans sz1_hsl h)), HC⟩
         ·try simp only [nm, ne_eq] at h4
          have hc4 : byte w 0 ≠ 39 := fun e => h4 (by rw [e]; rfl)
          refine sr rfl <| Wp rfl <| st_eql rfl rfl <| aB rfl <| en <| x_cond rfl (fun h5 => ?_) (fun h5 => ?_)
          ·try simp only [nm, ne_eq] at h5
           have hc0 : byte w 0 = 34 := u8_eq h5 rfl
           have hn3 := two_le hw hn (.inr (.inl hc0))
           have hm0 : m = 0 := by rcases Decidable.em (m = 0) with h | h; exact h; exact absurd ⟨hc3, fun e => by rw [hc0] at e; exact absurd e (by decide), .inl (by simp [h])⟩ hB
           refine x_seq <| sr rfl <| mI rfl <| Wp rfl <| st_eql rfl rfl <| en <| x_cond rfl (fun h6 => ?_) (fun h6 => ?_)
           ·try simp only [nm, ne_eq] at h6
            refine sr rfl <| mI rfl <| Wp rfl <| st_call (ags := [_, _, _]) rfl rfl T.ent60 rfl (text_spec [] true n _) ?_
            have lt1_hsl_b2 := hb4.lt
            have lt1_hsl_b4 := hb8.lt
            have sz1_hsl := HC.size
            rintro _ w57 ⟨A, cap, rfl, hsl, c58⟩
            replace HC := HC.then c58
            replace ht := ht.tr0 c58
            replace hb4 := hb4.tr0 c58
            replace hb8 := hb8.tr0 c58
            refine Wp rfl <| st_store (v := .agg ⟨[.slice _ _ _, .int _ _]⟩) T.size78 rfl rfl rfl hb8 rfl (Nat.le_of_ble_eq_true rfl) (by simp [Value.oneCell', S]) rfl ?_
            intro w59 c60 hb61; simp only [setVs, setV] at hb61
            clear hb8
            replace HC := HC.then1 c60 ge_b4
            replace ht := ht.tr c60 (by intro hx; have := ht.lt; have := ht1; simp only [List.mem_cons, List.mem_nil_iff, or_false] at hx; omega)
            replace hb4 := hb4.tr1 c60 ne_b2_b4
            replace hsl := hsl.tr c60 (by intro k hx hD; simp only [List.mem_singleton] at hx; subst hx; omega)
            refine aI rfl <| en <| x_ret <| then_r <| block_r <| then_r <| ret_many (vs := [.agg ⟨[_, _]⟩, .int _ _]) rfl ⟨⟨_, _, rfl, run_loadVarA T.agg78 (hb61.cells (n := 2) rfl) rfl⟩, ⟨rfl, trivial⟩⟩ (Nat.le_of_ble_eq_true rfl) <| (?_ : PieceT _ _ _ _ _ _)
            rw [nextP_ok hA hB hn, if_neg hc3, if_neg hc4, if_pos hc0, if_pos (by omega)]
            exact ⟨_, _, rfl, (hsl.mono (fun k _ h => Nat.le_trans sz1_hsl h)), HC⟩
           ·try simp only [nm, ne_eq] at h6
            have hs1 : IntKind.i64.wrap ((n : Int) - 1) = ((n - 1 : Nat) : Int) := by rw [wrap64_id (by omega) (by omega)]; omega
            refine x_skip <| then_n <| sr rfl <| mS rfl <| mI rfl <| Wp rfl <| st_subk rfl rfl (by exact hs1) <| Wp rfl <| st_sslice (i := 1) (j := n - 1) T.u9 rfl ⟨_, rfl⟩ ⟨_, rfl⟩ (by omega) (by omega) <| Wp rfl <| st_call (ags := [_, _]) rfl rfl T.ent9 rfl (hP hm0 ((w.take (n - 1)).drop 1) _ (by simp only [List.length_drop, List.length_take]; omega) ht) ?_
            have lt1_hsl_b2 := hb4.lt
            have lt1_hsl_b4 := hb8.lt
            have sz1_hsl := HC.size
            rintro _ w62 ⟨A, cap, rfl, hsl, c63⟩
            replace HC := HC.then c63
            replace ht := ht.tr0 c63
            replace hb4 := hb4.tr0 c63
            replace hb8 := hb8.tr0 c63
            refine mv (v := .tuple ⟨[_, _]⟩) rfl <| Wp rfl <| st_extract (vs := [_, _]) (v := .slice _ _ _) rfl rfl <| Wp rfl <| st_extract (vs := [_, _]) (v := .int _ _) rfl rfl <| aL rfl <| aI rfl <| en <| sr rfl <| mL rfl <| mI rfl <| Wp rfl <| st_bld (ps := [(0, .tmp 82), (1, .tmp 83)]) (vs := [.slice _ _ _, .int _ _]) T.bld78 rfl <| mI rfl <| Wp rfl <| st_store (v := .agg ⟨[.slice _ _ _, .int _ _]⟩) T.size78 rfl rfl rfl hb8 rfl (Nat.le_of_ble_eq_true rfl) (by simp [Value.oneCell', S]) rfl ?_
            intro w64 c65 hb66; simp only [setVs, setV] at hb66
            clear hb8
            replace HC := HC.then1 c65 ge_b4
            replace ht := ht.tr c65 (by intro hx; have := ht.lt; have := ht1; simp only [List.mem_cons, List.mem_nil_iff, or_false] at hx; omega)
            replace hb4 := hb4.tr1 c65 ne_b2_b4
            replace hsl := hsl.tr c65 (by intro k hx hD; simp only [List.mem_singleton] at hx; subst hx; omega)
            refine aI rfl <| en <| x_ret <| block_r <| then_r <| ret_many (vs := [.agg ⟨[_, _]⟩, .int _ _]) rfl ⟨⟨_, _, rfl, run_loadVarA T.agg78 (hb66.cells (n := 2) rfl) rfl⟩, ⟨rfl, trivial⟩⟩ (Nat.le_of_ble_eq_true rfl) <| (?_ : PieceT _ _ _ _ _ _)
            rw [nextP_ok hA hB hn, if_neg hc3, if_neg hc4, if_pos hc0, if_neg (by omega)]
            exact ⟨_, _, rfl, (hsl.mono (fun k _ h => Nat.le_trans sz1_hsl h)), HC⟩
          ·try simp only [nm, ne_eq] at h5
           have hc5 : byte w 0 ≠ 34 := fun e => h5 (by rw [e]; rfl)
           refine sr rfl <| Wp rfl <| st_eql rfl rfl <| aB rfl <| en <| x_cond rfl (fun h7 => ?_) (fun h7 => ?_)
           ·try simp only [nm, ne_eq] at h7
            have hc0 : byte w 0 = 92 := u8_eq h7 rfl
            have hn3 := back_le hw hn hc0
            refine x_seq <| sr rfl <| mS rfl <| mI rfl <| Wp rfl <| st_sslice (i := 1) (j := n) T.u9 rfl ⟨_, rfl⟩ ⟨_, rfl⟩ (by omega) (by omega) <| Wp rfl <| st_call (ags := [_, _]) rfl rfl T.ent30 rfl (TrimPrefix_spec ((w.take n).drop 1) [10] _) ?_
            rintro _ w67 ⟨rfl, c68⟩
            replace HC := HC.then c68
            replace ht := ht.tr0 c68
            replace hb4 := hb4.tr0 c68
            replace hb8 := hb8.tr0 c68
            refine aS rfl <| en <| sr rfl <| mS rfl <| Wp rfl <| st_sneq rfl rfl <| en <| x_cond rfl (fun h8 => ?_) (fun h8 => ?_)
            ·try simp only [nm, ne_eq] at h8
             have htp := (trim_one (x := (w.take n).drop 1) (by simp only [List.length_drop, List.length_take]; omega)).resolve_left (fun h => h8 h.1)
             rw [htp.1]
             refine sr rfl <| mS rfl <| mI rfl <| Wp rfl <| st_call (ags := [_, _, _]) rfl rfl T.ent60 rfl (text_spec ((w.take n).drop 1) true n _) ?_
             have lt1_hsl_b2 := hb4.lt
             have lt1_hsl_b4 := hb8.lt
             have sz1_hsl := HC.size
             rintro _ w69 ⟨A, cap, rfl, hsl, c70⟩
             replace HC := HC.then c70
             replace ht := ht.tr0 c70
             replace hb4 := hb4.tr0 c70
             replace hb8 := hb8.tr0 c70
             refine Wp rfl <| st_store (v := .agg ⟨[.slice _ _ _, .int _ _]⟩) T.size78 rfl rfl rfl hb8 rfl (Nat.le_of_ble_eq_true rfl) (by simp [Value.oneCell', S]) rfl ?_
             intro w71 c72 hb73; simp only [setVs, setV] at hb73
             clear hb8
             replace HC := HC.then1 c72 ge_b4
             replace ht := ht.tr c72 (by intro hx; have := ht.lt; have := ht1; simp only [List.mem_cons, List.mem_nil_iff, or_false] at hx; omega)
             replace hb4 := hb4.tr1 c72 ne_b2_b4
             replace hsl := hsl.tr c72 (by intro k hx hD; simp only [List.mem_singleton] at hx; subst hx; omega)
             refine aI rfl <| en <| x_ret <| then_r <| block_r <| then_r <| ret_many (vs := [.agg ⟨[_, _]⟩, .int _ _]) rfl ⟨⟨_, _, rfl, run_loadVarA T.agg78 (hb73.cells (n := 2) rfl) rfl⟩, ⟨rfl, trivial⟩⟩ (Nat.le_of_ble_eq_true rfl) <| (?_ : PieceT _ _ _ _ _ _)
             rw [nextP_ok hA hB hn, if_neg hc3, if_neg hc4, if_neg hc5, if_pos hc0, if_neg htp.2]
             exact ⟨_, _, rfl, (hsl.mono (fun k _ h => Nat.le_trans sz1_hsl h)), HC⟩
            ·try simp only [nm, ne_eq] at h8
             have htp : (w.take n).drop 1 = [10] ∨ (w.take n).drop 1 = [] := by rcases trim_one (x := (w.take n).drop 1) (by simp only [List.length_drop, List.length_take]; omega) with h | h; exact h.2; exact .inr (h.1.symm.trans (by first | assumption | simpa using h8))
             refine x_skip <| then_n <| sr rfl <| mI rfl <| Wp rfl <| st_bld (ps := [(1, .tmp 97)]) (vs := [.slice _ _ _, .int _ _]) T.bld78 rfl <| Wp rfl <| st_store (v := .agg ⟨[.slice _ _ _, .int _ _]⟩) T.size78 rfl rfl rfl hb8 rfl (Nat.le_of_ble_eq_true rfl) (by simp [Value.oneCell', S]) rfl ?_
             intro w74 c75 hb76; simp only [setVs, setV] at hb76
             clear hb8
             replace HC := HC.then1 c75 ge_b4
             replace ht := ht.tr c75 (by intro hx; have := ht.lt; have := ht1; simp only [List.mem_cons, List.mem_nil_iff, or_false] at hx; omega)
             replace hb4 := hb4.tr1 c75 ne_b2_b4
             refine aI rfl <| en <| x_ret <| block_r <| then_r <| ret_many (vs := [.agg ⟨[_, _]⟩, .int _ _]) rfl ⟨⟨_, _, rfl, run_loadVarA T.agg78 (hb76.cells (n := 2) rfl) rfl⟩, ⟨rfl, trivial⟩⟩ (Nat.le_of_ble_eq_true rfl) <| (?_ : PieceT _ _ _ _ _ _)
             rw [nextP_ok hA hB hn, if_neg hc3, if_neg hc4, if_neg hc5, if_pos hc0, if_pos htp]
             exact ⟨none, 0, rfl, .nil, HC⟩
           ·try simp only [nm, ne_eq] at h7
            have hc7 : byte w 0 ≠ 92 := fun e => h7 (by rw [e]; rfl)
            have hc96 : byte w 0 = 96 := Decidable.byContradiction fun h => hB ⟨hc3, h, .inr ⟨hc4, hc5, hc7⟩⟩
            have hn3 := two_le hw hn (.inr (.inr hc96))
            have hs1 : IntKind.i64.wrap ((n : Int) - 1) = ((n - 1 : Nat) : Int) := by rw [wrap64_id (by omega) (by omega)]; omega
            refine x_skip <| block_n <| then_n <| x_seq <| x_draw [(0, 0), (1, 0), (2, 0), (3, 0), (4, 0), (5, 0), (6, 1), (7, 1), (8, 0)] T.mixed rfl rfl rfl (fun W => W.heap[b2]? = w45.heap[b2]? ∧ True) ⟨rfl, trivial⟩ ?_
            have o79 := hb4
            have c78 := Chg.drew w45
            generalize World.drew w45 = w77 at c78 ⊢
            replace HC := HC.then c78
            replace ht := ht.tr0 c78
            replace hb4 := hb4.tr0 c78
            replace hb8 := hb8.tr0 c78
            refine sq_q rfl (fun W hT => r_loadA (vs := [_]) T.agg46 rfl (Blk.cells (n := 1) (vs := [_]) (show Blk W b2 _ _ from hT.1.trans o79) rfl) rfl) <| sq_q rfl (fun W hT => r_move (v := S _) rfl) <| sq_q rfl (fun W hT => r_move (v := .int _ _) rfl) <| sq_q rfl (fun W hT => r_subk rfl rfl (by exact hs1)) <| sq_q rfl (fun W hT => r_sslice (i := 1) (j := n - 1) T.u9 rfl ⟨_, rfl⟩ ⟨_, rfl⟩ (by omega) (by omega)) <| sq_q rfl (fun W hT => r_move (v := .int _ _) rfl) <| sq_call1 rfl (r_call (ags := [_, _, _]) rfl rfl T.ent62 rfl) (ticked_spec m ((w.take (n - 1)).drop 1) n _ (by simp only [List.length_drop, List.length_take]; omega)) ?_
            have lt1_hsl_b2 := hb4.lt
            have lt1_hsl_b4 := hb8.lt
            have sz1_hsl := HC.size
            rintro _ w80 ⟨A, cap, rfl, hsl, c81⟩
            replace HC := HC.then c81
            replace ht := ht.tr0 c81
            replace hb4 := hb4.tr0 c81
            replace hb8 := hb8.tr0 c81
            refine ⟨_, fun _ h => h, ⟨(Eq.trans hb4 o79.symm), trivial⟩, ?_⟩
            refine sq_store1 rfl T.size78 (v := .agg ⟨[.slice _ _ _, .int _ _]⟩) rfl rfl rfl hb8 rfl (Nat.le_of_ble_eq_true rfl) (by simp [Value.oneCell', S]) rfl ?_
            intro w82 c83 hb84; simp only [setVs, setV] at hb84
            clear hb8
            replace HC := HC.then1 c83 ge_b4
            replace ht := ht.tr c83 (by intro hx; have := ht.lt; have := ht1; simp only [List.mem_cons, List.mem_nil_iff, or_false] at hx; omega)
            replace hb4 := hb4.tr1 c83 ne_b2_b4
            replace hsl := hsl.tr c83 (by intro k hx hD; simp only [List.mem_singleton] at hx; subst hx; omega)
            refine ⟨_, fun _ h => h, ⟨(Eq.trans hb4 o79.symm), trivial⟩, ?_⟩
            refine sq_q rfl (fun W hT => r_assign (v := .int _ _) rfl) ?_
            clear o79
            refine sq_nil <| then_n <| x_ret <| ret_many (vs := [.agg ⟨[_, _]⟩, .int _ _]) rfl ⟨⟨_, _, rfl, run_loadVarA T.agg78 (hb84.cells (n := 2) rfl) rfl⟩, ⟨rfl, trivial⟩⟩ (Nat.le_of_ble_eq_true rfl) <| (?_ : PieceT _ _ _ _ _ _)
            rw [nextP_ok hA hB hn, if_neg hc3, if_neg hc4, if_neg hc5, if_neg hc7]
            exact ⟨_, _, rfl, (hsl.mono (fun k _ h => Nat.le_trans sz1_hsl h)), HC⟩
      ·refine x_region rfl <| mS rfl <| Wp rfl <| st_call (ags := [_, _]) rfl rfl T.ent27 rfl (Skip_err w _ hs hw he) ?_
       rintro _ w85 ⟨rfl, c86⟩
       replace HC := HC.then c86
       replace ht := ht.tr0 c86
       replace hb4 := hb4.tr0 c86
       replace hb8 := hb8.tr0 c86
       refine mv (v := .tuple ⟨[_, _]⟩) rfl <| Wp rfl <| st_extract (vs := [_, _]) (v := .int _ _) rfl rfl <| Wp rfl <| st_extract (vs := [_, _]) (v := .int _ _) rfl rfl <| aI rfl <| aI rfl <| en <| x_seq <| sr rfl <| mI rfl <| Wp rfl <| st_neq rfl rfl <| en <| x_cond rfl (fun h2 => ?_) (fun h2 => ?_)
       ·try simp only [nm, ne_eq] at h2
        refine sr rfl <| Wp rfl <| st_bld (ps := []) (vs := [.slice _ _ _, .int _ _]) T.bld78 rfl <| mI rfl <| Wp rfl <| st_store (v := .agg ⟨[.slice _ _ _, .int _ _]⟩) T.size78 rfl rfl rfl hb8 rfl (Nat.le_of_ble_eq_true rfl) (by simp [Value.oneCell', S]) rfl ?_
        intro w87 c88 hb89; simp only [setVs, setV] at hb89
        clear hb8
        replace HC := HC.then1 c88 ge_b4
        replace ht := ht.tr c88 (by intro hx; have := ht.lt; have := ht1; simp only [List.mem_cons, List.mem_nil_iff, or_false] at hx; omega)
        replace hb4 := hb4.tr1 c88 ne_b2_b4
        refine aI rfl <| en <| x_ret <| then_r <| ret_many (vs := [.agg ⟨[_, _]⟩, .int _ _]) rfl ⟨⟨_, _, rfl, run_loadVarA T.agg78 (hb89.cells (n := 2) rfl) rfl⟩, ⟨rfl, trivial⟩⟩ (Nat.le_of_ble_eq_true rfl) <| (?_ : PieceT _ _ _ _ _ _)
        rw [nextP_err hA hB he]
        exact ⟨none, 0, rfl, .nil, HC⟩
       ·try simp only [nm, ne_eq] at h2
        exfalso; first | omega | simp_all
   ·try simp only [nm, ne_eq] at g19
    iterate 3 refine w_no 3 28 true ?_
    iterate 3 refine w_no 6 31 false ?_
    refine w_no 3 28 true <| pF rfl rfl <| aB rfl <| en <| x_cond (t := false) rfl (fun h1 => ?_) (fun h1 => ?_)
    · exact absurd h1 (by decide)
    have hB : ¬ (byte w 0 ≠ 36 ∧ byte w 0 ≠ 96 ∧ ((!decide (m = 0)) = true ∨ (byte w 0 ≠ 39 ∧ byte w 0 ≠ 34 ∧ byte w 0 ≠ 92))) := by rintro ⟨h7, h8, h9⟩; first | (have h11 : 0 ≤ idx [36, 96] (byte w 0) := (by omega); rcases in2a.1 h11 with h | h; exact h7 h; exact h8 h) | (have h11 : 0 ≤ idx [39, 34, 92] (byte w 0) := (by omega); have h10 := in3a.1 h11; have hq : (!decide (m = 0)) = false := (by first | assumption | (simp; assumption) | simp_all); rw [hq] at h9; rcases h9 with h9 | ⟨ha, hb, hc⟩; cases h9; rcases h10 with h | h | h; exact ha h; exact hb h; exact hc h)
    refine x_skip <| block_n <| then_n <| x_seq ?_
    rcases skip_cases w hw with ⟨n, hn, hn1, hn2⟩ | ⟨e, he, he0⟩
    ·refine x_region rfl <| mS rfl <| Wp rfl <| st_call (ags := [_, _]) rfl rfl T.ent27 rfl (Skip_ok w _ hs hw hn) ?_
     rintro _ w90 ⟨rfl, c91⟩
     replace HC := HC.then c91
     replace ht := ht.tr0 c91
     replace hb4 := hb4.tr0 c91
     replace hb8 := hb8.tr0 c91
     refine mv (v := .tuple ⟨[_, _]⟩) rfl <| Wp rfl <| st_extract (vs := [_, _]) (v := .int _ _) rfl rfl <| Wp rfl <| st_extract (vs := [_, _]) (v := .int _ _) rfl rfl <| aI rfl <| aI rfl <| en <| x_seq <| sr rfl <| mI rfl <| Wp rfl <| st_neq rfl rfl <| en <| x_cond rfl (fun h2 => ?_) (fun h2 => ?_)
     ·try simp only [nm, ne_eq] at h2
      first | exact absurd rfl h2 | exact absurd trivial h2 | (simp at h2; done)
     ·try simp only [nm, ne_eq] at h2
      refine x_skip <| then_n <| x_seq <| sr rfl <| mI rfl <| en <| x_block <| sr rfl <| Wp rfl <| st_eql rfl rfl <| aB rfl <| en <| x_cond rfl (fun h3 => ?_) (fun h3 => ?_)
      ·try simp only [nm, ne_eq] at h3
       have hc0 : byte w 0 = 36 := u8_eq h3 rfl
       refine sr rfl <| Wp rfl <| st_loadA (vs := [_]) T.agg46 rfl (hb4.cells (n := 1) (vs := [_]) rfl) rfl <| mS rfl <| mI rfl <| Wp rfl <| st_call (ags := [_, _, _]) rfl rfl T.ent61 rfl (dollar_spec m w n _ hs hn2 hn1 (fun d hd hp => three_le hn hp hd) ht) ?_
       have lt1_hsl_b2 := hb4.lt
       have lt1_hsl_b4 := hb8.lt
       have sz1_hsl := HC.size
       rintro _ w92 ⟨A, cap, rfl, hsl, c93⟩
       replace HC := HC.then c93
       replace ht := ht.tr0 c93
       replace hb4 := hb4.tr0 c93
       replace hb8 := hb8.tr0 c93
       refine Wp rfl <| st_extract (vs := [_, _]) (v := .agg ⟨[.slice _ _ _, .int _ _]⟩) rfl rfl <| Wp rfl <| st_extract (vs := [_, _]) (v := .int _ _) rfl rfl <| Wp rfl <| st_store (v := .agg ⟨[.slice _ _ _, .int _ _]⟩) T.size78 rfl rfl rfl hb8 rfl (Nat.le_of_ble_eq_true rfl) (by simp [Value.oneCell', S]) rfl ?_
       intro w94 c95 hb96; simp only [setVs, setV] at hb96
       clear hb8
       replace HC := HC.then1 c95 ge_b4
       replace ht := ht.tr c95 (by intro hx; have := ht.lt; have := ht1; simp only [List.mem_cons, List.mem_nil_iff, or_false] at hx; omega)
       replace hb4 := hb4.tr1 c95 ne_b2_b4
       replace hsl := hsl.tr c95 (by intro k hx hD; simp only [List.mem_singleton] at hx; subst hx; omega)
       refine aI rfl <| en <| x_ret <| block_r <| then_r <| ret_many (vs := [.agg ⟨[_, _]⟩, .int _ _]) rfl ⟨⟨_, _, rfl, run_loadVarA T.agg78 (hb96.cells (n := 2) rfl) rfl⟩, ⟨rfl, trivial⟩⟩ (Nat.le_of_ble_eq_true rfl) <| (?_ : PieceT _ _ _ _ _ _)
       rw [nextP_ok hA hB hn, if_pos hc0]
       exact ⟨_, _, rfl, (hsl.mono (fun k _ h => Nat.le_trans sz1_hsl h)), HC⟩
      ·try simp only [nm, ne_eq] at h3
       have hc3 : byte w 0 ≠ 36 := fun e => h3 (by rw [e]; rfl)
       refine sr rfl <| Wp rfl <| st_eql rfl rfl <| aB rfl <| en <| x_cond rfl (fun h4 => ?_) (fun h4 => ?_)
       ·try simp only [nm, ne_eq] at h4
        have hc0 : byte w 0 = 39 := u8_eq h4 rfl
        have hn3 := two_le hw hn (.inl hc0)
        have hs1 : IntKind.i64.wrap ((n : Int) - 1) = ((n - 1 : Nat) : Int) := by rw [wrap64_id (by omega) (by omega)]; omega
        refine sr rfl <| mS rfl <| mI rfl <| Wp rfl <| st_subk rfl rfl (by exact hs1) <| Wp rfl <| st_sslice (i := 1) (j := n - 1) T.u9 rfl ⟨_, rfl⟩ ⟨_, rfl⟩ (by omega) (by omega) <| mI rfl <| Wp rfl <| st_call (ags := [_, _, _]) rfl rfl T.ent60 rfl (text_spec ((w.take (n - 1)).drop 1) true n _) ?_
        have lt1_hsl_b2 := hb4.lt
        have lt1_hsl_b4 := hb8.lt
        have sz1_hsl := HC.size
        rintro _ w97 ⟨A, cap, rfl, hsl, c98⟩
        replace HC := HC.then c98
        replace ht := ht.tr0 c98
        replace hb4 := hb4.tr0 c98
        replace hb8 := hb8.tr0 c98
        refine Wp rfl <| st_store (v := .agg ⟨[.slice _ _ _, .int _ _]⟩) T.size78 rfl rfl rfl hb8 rfl (Nat.le_of_ble_eq_true rfl) (by simp [Value.oneCell', S]) rfl ?_
        intro w99 c100 hb101; simp only [setVs, setV] at hb101
        clear hb8
        replace HC := HC.then1 c100 ge_b4
        replace ht := ht.tr c100 (by intro hx; have := ht.lt; have := ht1; simp only [List.mem_cons, List.mem_nil_iff, or_false] at hx; omega)
        replace hb4 := hb4.tr1 c100 ne_b2_b4
        replace hsl := hsl.tr c100 (by intro k hx hD; simp only [List.mem_singleton] at hx; subst hx; omega)
        refine aI rfl <| en <| x_ret <| block_r <| then_r <| ret_many (vs := [.agg ⟨[_, _]⟩, .int _ _]) rfl ⟨⟨_, _, rfl, run_loadVarA T.agg78 (hb101.cells (n := 2) rfl) rfl⟩, ⟨rfl, trivial⟩⟩ (Nat.le_of_ble_eq_true rfl) <| (?_ : PieceT _ _ _ _ _ _)
        rw [nextP_ok hA hB hn, if_neg hc3, if_pos hc0]
        exact ⟨_, _, rfl, (hsl.mono (fun k _ h => Nat.le_trans sz1_hsl h)), HC⟩
       ·try simp only [nm, ne_eq] at h4
        have hc4 : byte w 0 ≠ 39 := fun e => h4 (by rw [e]; rfl)
        refine sr rfl <| Wp rfl <| st_eql rfl rfl <| aB rfl <| en <| x_cond rfl (fun h5 => ?_) (fun h5 => ?_)
        ·try simp only [nm, ne_eq] at h5
         have hc0 : byte w 0 = 34 := u8_eq h5 rfl
         have hn3 := two_le hw hn (.inr (.inl hc0))
         have hm0 : m = 0 := by rcases Decidable.em (m = 0) with h | h; exact h; exact absurd ⟨hc3, fun e => by rw [hc0] at e; exact absurd e (by decide), .inl (by simp [h])⟩ hB
         refine x_seq <| sr rfl <| mI rfl <| Wp rfl <| st_eql rfl rfl <| en <| x_cond rfl (fun h6 => ?_) (fun h6 => ?_)
         ·try simp only [nm, ne_eq] at h6
          refine sr rfl <| mI rfl <| Wp rfl <| st_call (ags := [_, _, _]) rfl rfl T.ent60 rfl (text_spec [] true n _) ?_
          have lt1_hsl_b2 := hb4.lt
          have lt1_hsl_b4 := hb8.lt
          have sz1_hsl := HC.size
          rintro _ w102 ⟨A, cap, rfl, hsl, c103⟩
          replace HC := HC.then c103
          replace ht := ht.tr0 c103
          replace hb4 := hb4.tr0 c103
          replace hb8 := hb8.tr0 c103
          refine Wp rfl <| st_store (v := .agg ⟨[.slice _ _ _, .int _ _]⟩) T.size78 rfl rfl rfl hb8 rfl (Nat.le_of_ble_eq_true rfl) (by simp [Value.oneCell', S]) rfl ?_
          intro w104 c105 hb106; simp only [setVs, setV] at hb106
          clear hb8
          replace HC := HC.then1 c105 ge_b4
          replace ht := ht.tr c105 (by intro hx; have := ht.lt; have := ht1; simp only [List.mem_cons, List.mem_nil_iff, or_false] at hx; omega)
          replace hb4 := hb4.tr1 c105 ne_b2_b4
          replace hsl := hsl.tr c105 (by intro k hx hD; simp only [List.mem_singleton] at hx; subst hx; omega)
          refine aI rfl <| en <| x_ret <| then_r <| block_r <| then_r <| ret_many (vs := [.agg ⟨[_, _]⟩, .int _ _]) rfl ⟨⟨_, _, rfl, run_loadVarA T.agg78 (hb106.cells (n := 2) rfl) rfl⟩, ⟨rfl, trivial⟩⟩ (Nat.le_of_ble_eq_true rfl) <| (?_ : PieceT _ _ _ _ _ _)
          rw [nextP_ok hA hB hn, if_neg hc3, if_neg hc4, if_pos hc0, if_pos (by omega)]
          exact ⟨_, _, rfl, (hsl.mono (fun k _ h => Nat.le_trans sz1_hsl h)), HC⟩
         ·try simp only [nm, ne_eq] at h6
          have hs1 : IntKind.i64.wrap ((n : Int) - 1) = ((n - 1 : Nat) : Int) := by rw [wrap64_id (by omega) (by omega)]; omega
          refine x_skip <| then_n <| sr rfl <| mS rfl <| mI rfl <| Wp rfl <| st_subk rfl rfl (by exact hs1) <| Wp rfl <| st_sslice (i := 1) (j := n - 1) T.u9 rfl ⟨_, rfl⟩ ⟨_, rfl⟩ (by omega) (by omega) <| Wp rfl <| st_call (ags := [_, _]) rfl rfl T.ent9 rfl (hP hm0 ((w.take (n - 1)).drop 1) _ (by simp only [List.length_drop, List.length_take]; omega) ht) ?_
          have lt1_hsl_b2 := hb4.lt
          have lt1_hsl_b4 := hb8.lt
          have sz1_hsl := HC.size
          rintro _ w107 ⟨A, cap, rfl, hsl, c108⟩
          replace HC := HC.then c108
          replace ht := ht.tr0 c108
          replace hb4 := hb4.tr0 c108
          replace hb8 := hb8.tr0 c108
          refine mv (v := .tuple ⟨[_, _]⟩) rfl <| Wp rfl <| st_extract (vs := [_, _]) (v := .slice _ _ _) rfl rfl <| Wp rfl <| st_extract (vs := [_, _]) (v := .int _ _) rfl rfl <| aL rfl <| aI rfl <| en <| sr rfl <| mL rfl <| mI rfl <| Wp rfl <| st_bld (ps := [(0, .tmp 82), (1, .tmp 83)]) (vs := [.slice _ _ _, .int _ _]) T.bld78 rfl <| mI rfl <| Wp rfl <| st_store (v := .agg ⟨[.slice _ _ _, .int _ _]⟩) T.size78 rfl rfl rfl hb8 rfl (Nat.le_of_ble_eq_true rfl) (by simp [Value.oneCell', S]) rfl ?_
          intro w109 c110 hb111; simp only [setVs, setV] at hb111
          clear hb8
          replace HC := HC.then1 c110 ge_b4
          replace ht := ht.tr c110 (by intro hx; have := ht.lt; have := ht1; simp only [List.mem_cons, List.mem_nil_iff, or_false] at hx; omega)
          replace hb4 := hb4.tr1 c110 ne_b2_b4
          replace hsl := hsl.tr c110 (by intro k hx hD; simp only [List.mem_singleton] at hx; subst hx; omega)
          refine aI rfl <| en <| x_ret <| block_r <| then_r <| ret_many (vs := [.agg ⟨[_, _]⟩, .int _ _]) rfl ⟨⟨_, _, rfl, run_loadVarA T.agg78 (hb111.cells (n := 2) rfl) rfl⟩, ⟨rfl, trivial⟩⟩ (Nat.le_of_ble_eq_true rfl) <| (?_ : PieceT _ _ _ _ _ _)
          rw [nextP_ok hA hB hn, if_neg hc3, if_neg hc4, if_pos hc0, if_neg (by omega)]
          exact ⟨_, _, rfl, (hsl.mono (fun k _ h => Nat.le_trans sz1_hsl h)), HC⟩
        ·try simp only [nm, ne_eq] at h5
         have hc5 : byte w 0 ≠ 34 := fun e => h5 (by rw [e]; rfl)
         refine sr rfl <| Wp rfl <| st_eql rfl rfl <| aB rfl <| en <| x_cond rfl (fun h7 => ?_) (fun h7 => ?_)
         ·try simp only [nm, ne_eq] at h7
          have hc0 : byte w 0 = 92 := u8_eq h7 rfl
          have hn3 := back_le hw hn hc0
          refine x_seq <| sr rfl <| mS rfl <| mI rfl <| Wp rfl <| st_sslice (i := 1) (j := n) T.u9 rfl ⟨_, rfl⟩ ⟨_, rfl⟩ (by omega) (by omega) <| Wp rfl <| st_call (ags := [_, _]) rfl rfl T.ent30 rfl (TrimPrefix_spec ((w.take n).drop 1) [10] _) ?_
          rintro _ w112 ⟨rfl, c113⟩
          replace HC := HC.then c113
          replace ht := ht.tr0 c113
          replace hb4 := hb4.tr0 c113
          replace hb8 := hb8.tr0 c113
          refine aS rfl <| en <| sr rfl <| mS rfl <| Wp rfl <| st_sneq rfl rfl <| en <| x_cond rfl (fun h8 => ?_) (fun h8 => ?_)
          ·try simp only [nm, ne_eq] at h8
           have htp := (trim_one (x := (w.take n).drop 1) (by simp only [List.length_drop, List.length_take]; omega)).resolve_left (fun h => h8 h.1)
           rw [htp.1]
           refine sr rfl <| mS rfl <| mI rfl <| Wp rfl <| st_call (ags := [_, _, _]) rfl rfl T.ent60 rfl (text_spec ((w.take n).drop 1) true n _) ?_
           have lt1_hsl_b2 := hb4.lt
           have lt1_hsl_b4 := hb8.lt
           have sz1_hsl := HC.size
           rintro _ w114 ⟨A, cap, rfl, hsl, c115⟩
           replace HC := HC.then c115
           replace ht := ht.tr0 c115
           replace hb4 := hb4.tr0 c115
           replace hb8 := hb8.tr0 c115
           refine Wp rfl <| st_store (v := .agg ⟨[.slice _ _ _, .int _ _]⟩) T.size78 rfl rfl rfl hb8 rfl (Nat.le_of_ble_eq_true rfl) (by simp [Value.oneCell', S]) rfl ?_
           intro w116 c117 hb118; simp only [setVs, setV] at hb118
           clear hb8
           replace HC := HC.then1 c117 ge_b4
           replace ht := ht.tr c117 (by intro hx; have := ht.lt; have := ht1; simp only [List.mem_cons, List.mem_nil_iff, or_false] at hx; omega)
           replace hb4 := hb4.tr1 c117 ne_b2_b4
           replace hsl := hsl.tr c117 (by intro k hx hD; simp only [List.mem_singleton] at hx; subst hx; omega)
           refine aI rfl <| en <| x_ret <| then_r <| block_r <| then_r <| ret_many (vs := [.agg ⟨[_, _]⟩, .int _ _]) rfl ⟨⟨_, _, rfl, run_loadVarA T.agg78 (hb118.cells (n := 2) rfl) rfl⟩, ⟨rfl, trivial⟩⟩ (Nat.le_of_ble_eq_true rfl) <| (?_ : PieceT _ _ _ _ _ _)
           rw [nextP_ok hA hB hn, if_neg hc3, if_neg hc4, if_neg hc5, if_pos hc0, if_neg htp.2]
           exact ⟨_, _, rfl, (hsl.mono (fun k _ h => Nat.le_trans sz1_hsl h)), HC⟩
          ·try simp only [nm, ne_eq] at h8
           have htp : (w.take n).drop 1 = [10] ∨ (w.take n).drop 1 = [] := by rcases trim_one (x := (w.take n).drop 1) (by simp only [List.length_drop, List.length_take]; omega) with h | h; exact h.2; exact .inr (h.1.symm.trans (by first | assumption | simpa using h8))
           refine x_skip <| then_n <| sr rfl <| mI rfl <| Wp rfl <| st_bld (ps := [(1, .tmp 97)]) (vs := [.slice _ _ _, .int _ _]) T.bld78 rfl <| Wp rfl <| st_store (v := .agg ⟨[.slice _ _ _, .int _ _]⟩) T.size78 rfl rfl rfl hb8 rfl (Nat.le_of_ble_eq_true rfl) (by simp [Value.oneCell', S]) rfl ?_
           intro w119 c120 hb121; simp only [setVs, setV] at hb121
           clear hb8
           replace HC := HC.then1 c120 ge_b4
           replace ht := ht.tr c120 (by intro hx; have := ht.lt; have := ht1; simp only [List.mem_cons, List.mem_nil_iff, or_false] at hx; omega)
           replace hb4 := hb4.tr1 c120 ne_b2_b4
           refine aI rfl <| en <| x_ret <| block_r <| then_r <| ret_many (vs := [.agg ⟨[_, _]⟩, .int _ _]) rfl ⟨⟨_, _, rfl, run_loadVarA T.agg78 (hb121.cells (n := 2) rfl) rfl⟩, ⟨rfl, trivial⟩⟩ (Nat.le_of_ble_eq_true rfl) <| (?_ : PieceT _ _ _ _ _ _)
           rw [nextP_ok hA hB hn, if_neg hc3, if_neg hc4, if_neg hc5, if_pos hc0, if_pos htp]
           exact ⟨none, 0, rfl, .nil, HC⟩
         ·try simp only [nm, ne_eq] at h7
          have hc7 : byte w 0 ≠ 92 := fun e => h7 (by rw [e]; rfl)
          have hc96 : byte w 0 = 96 := Decidable.byContradiction fun h => hB ⟨hc3, h, .inr ⟨hc4, hc5, hc7⟩⟩
          have hn3 := two_le hw hn (.inr (.inr hc96))
          have hs1 : IntKind.i64.wrap ((n : Int) - 1) = ((n - 1 : Nat) : Int) := by rw [wrap64_id (by omega) (by omega)]; omega
          refine x_skip <| block_n <| then_n <| x_seq <| x_draw [(0, 0), (1, 0), (2, 0), (3, 0), (4, 0), (5, 0), (6, 1), (7, 1), (8, 0)] T.mixed rfl rfl rfl (fun W => W.heap[b2]? = w90.heap[b2]? ∧ True) ⟨rfl, trivial⟩ ?_
          have o124 := hb4
          have c123 := Chg.drew w90
          generalize World.drew w90 = w122 at c123 ⊢
          replace HC := HC.then c123
          replace ht := ht.tr0 c123
          replace hb4 := hb4.tr0 c123
          replace hb8 := hb8.tr0 c123
          refine sq_q rfl (fun W hT => r_loadA (vs := [_]) T.agg46 rfl (Blk.cells (n := 1) (vs := [_]) (show Blk W b2 _ _ from hT.1.trans o124) rfl) rfl) <| sq_q rfl (fun W hT => r_move (v := S _) rfl) <| sq_q rfl (fun W hT => r_move (v := .int _ _) rfl) <| sq_q rfl (fun W hT => r_subk rfl rfl (by exact hs1)) <| sq_q rfl (fun W hT => r_sslice (i := 1) (j := n - 1) T.u9 rfl ⟨_, rfl⟩ ⟨_, rfl⟩ (by omega) (by omega)) <| sq_q rfl (fun W hT => r_move (v := .int _ _) rfl) <| sq_call1 rfl (r_call (ags := [_, _, _]) rfl rfl T.ent62 rfl) (ticked_spec m ((w.take (n - 1)).drop 1) n _ (by simp only [List.length_drop, List.length_take]; omega)) ?_
          have lt1_hsl_b2 := hb4.lt
          have lt1_hsl_b4 := hb8.lt
          have sz1_hsl := HC.size
          rintro _ w125 ⟨A, cap, rfl, hsl, c126⟩
          replace HC := HC.then c126
          replace ht := ht.tr0 c126
          replace hb4 := hb4.tr0 c126
          replace hb8 := hb8.tr0 c126
          refine ⟨_, fun _ h => h, ⟨(Eq.trans hb4 o124.symm), trivial⟩, ?_⟩
          refine sq_store1 rfl T.size78 (v := .agg ⟨[.slice _ _ _, .int _ _]⟩) rfl rfl rfl hb8 rfl (Nat.le_of_ble_eq_true rfl) (by simp [Value.oneCell', S]) rfl ?_
          intro w127 c128 hb129; simp only [setVs, setV] at hb129
          clear hb8
          replace HC := HC.then1 c128 ge_b4
          replace ht := ht.tr c128 (by intro hx; have := ht.lt; have := ht1; simp only [List.mem_cons, List.mem_nil_iff, or_false] at hx; omega)
          replace hb4 := hb4.tr1 c128 ne_b2_b4
          replace hsl := hsl.tr c128 (by intro k hx hD; simp only [List.mem_singleton] at hx; subst hx; omega)
          refine ⟨_, fun _ h => h, ⟨(Eq.trans hb4 o124.symm), trivial⟩, ?_⟩
          refine sq_q rfl (fun W hT => r_assign (v := .int _ _) rfl) ?_
          clear o124
          refine sq_nil <| then_n <| x_ret <| ret_many (vs := [.agg ⟨[_, _]⟩, .int _ _]) rfl ⟨⟨_, _, rfl, run_loadVarA T.agg78 (hb129.cells (n := 2) rfl) rfl⟩, ⟨rfl, trivial⟩⟩ (Nat.le_of_ble_eq_true rfl) <| (?_ : PieceT _ _ _ _ _ _)
          rw [nextP_ok hA hB hn, if_neg hc3, if_neg hc4, if_neg hc5, if_neg hc7]
          exact ⟨_, _, rfl, (hsl.mono (fun k _ h => Nat.le_trans sz1_hsl h)), HC⟩
    ·refine x_region rfl <| mS rfl <| Wp rfl <| st_call (ags := [_, _]) rfl rfl T.ent27 rfl (Skip_err w _ hs hw he) ?_
     rintro _ w130 ⟨rfl, c131⟩
     replace HC := HC.then c131
     replace ht := ht.tr0 c131
     replace hb4 := hb4.tr0 c131
     replace hb8 := hb8.tr0 c131
     refine mv (v := .tuple ⟨[_, _]⟩) rfl <| Wp rfl <| st_extract (vs := [_, _]) (v := .int _ _) rfl rfl <| Wp rfl <| st_extract (vs := [_, _]) (v := .int _ _) rfl rfl <| aI rfl <| aI rfl <| en <| x_seq <| sr rfl <| mI rfl <| Wp rfl <| st_neq rfl rfl <| en <| x_cond rfl (fun h2 => ?_) (fun h2 => ?_)
     ·try simp only [nm, ne_eq] at h2
      refine sr rfl <| Wp rfl <| st_bld (ps := []) (vs := [.slice _ _ _, .int _ _]) T.bld78 rfl <| mI rfl <| Wp rfl <| st_store (v := .agg ⟨[.slice _ _ _, .int _ _]⟩) T.size78 rfl rfl rfl hb8 rfl (Nat.le_of_ble_eq_true rfl) (by simp [Value.oneCell', S]) rfl ?_
      intro w132 c133 hb134; simp only [setVs, setV] at hb134
      clear hb8
      replace HC := HC.then1 c133 ge_b4
      replace ht := ht.tr c133 (by intro hx; have := ht.lt; have := ht1; simp only [List.mem_cons, List.mem_nil_iff, or_false] at hx; omega)
      replace hb4 := hb4.tr1 c133 ne_b2_b4
      refine aI rfl <| en <| x_ret <| then_r <| ret_many (vs := [.agg ⟨[_, _]⟩, .int _ _]) rfl ⟨⟨_, _, rfl, run_loadVarA T.agg78 (hb134.cells (n := 2) rfl) rfl⟩, ⟨rfl, trivial⟩⟩ (Nat.le_of_ble_eq_true rfl) <| (?_ : PieceT _ _ _ _ _ _)
      rw [nextP_err hA hB he]
      exact ⟨none, 0, rfl, .nil, HC⟩
     ·try simp only [nm, ne_eq] at h2
      exfalso; first | omega | simp_all
 ·try simp only [nm, ne_eq] at g9
  refine w_no 2 17 true <| w_no 2 17 true <| pF rfl rfl <| aB rfl <| en <| x_cond (t := false) rfl (fun h0 => ?_) (fun h0 => ?_)
  · exact absurd h0 (by decide)
  have hA : ¬ (byte w 0 = 92 ∧ (!decide (m = 0)) = true) := by rintro ⟨h8, h9⟩; first | (have h10 : ((byte w 0).toNat : Int) = 92 := (by rw [h8]; rfl); omega) | (rw [h9] at *; simp_all; done) | simp_all
  refine sr rfl <| mI rfl <| Wp rfl <| st_call (ags := [_, _]) rfl rfl T.ent26 rfl (IndexByte_spec [36, 96] (byte w 0) _) ?_
  rintro _ w135 ⟨rfl, c136⟩
  replace HC := HC.then c136
  replace ht := ht.tr0 c136
  replace hb4 := hb4.tr0 c136
  replace hb8 := hb8.tr0 c136
  refine Wp rfl <| st_lss rfl rfl <| mB rfl <| w_split (d := 28) rfl (fun g137 => ?_) (fun g137 => ?_)
  ·try simp only [nm, ne_eq] at g137
   refine w_yes 3 28 true <| st_loadA (vs := [_]) T.agg46 rfl (hb4.cells (n := 1) (vs := [_]) rfl) rfl <| w_yes 3 28 true <| st_call (ags := [_]) rfl rfl T.ent58 rfl (quoted_spec m _) ?_
   rintro _ w138 ⟨rfl, c139⟩
   replace HC := HC.then c139
   replace ht := ht.tr0 c139
   replace hb4 := hb4.tr0 c139
   replace hb8 := hb8.tr0 c139
   refine w_yes 3 28 true <| st_move (v := .bool _) rfl <| w_split (d := 31) rfl (fun g140 => ?_) (fun g140 => ?_)
   ·try simp only [nm, ne_eq] at g140
    iterate 3 refine w_no 6 31 false ?_
    refine w_yes 3 28 true <| st_pick (b := true) (v := .bool _) rfl rfl <| pT rfl rfl <| aB rfl <| en <| x_cond (t := true) rfl (fun h1 => ?_) (fun h1 => ?_)
    rotate_left
    · exact absurd h1 (by decide)
    have hB1 : byte w 0 ≠ 36 ∧ byte w 0 ≠ 96 := ⟨fun e => by have h8 := in2a.2 (.inl e); first | omega | simp_all, fun e => by have h8 := in2a.2 (.inr e); first | omega | simp_all⟩
    have hB2 : (!decide (m = 0)) = true ∨ (byte w 0 ≠ 39 ∧ byte w 0 ≠ 34 ∧ byte w 0 ≠ 92) := by first | (left; assumption) | (left; simp_all; done) | (right; refine ⟨fun e => ?_, fun e => ?_, fun e => ?_⟩ <;> (have h8 := (in3a (c := byte w 0)).2 (by simp [e]); first | omega | simp_all))
    refine x_seq <| x_draw [(0, 0), (1, 0), (2, 0), (3, 1), (4, 1), (5, 1), (6, 0)] T.mixed rfl rfl rfl (fun W => W.heap[b2]? = w138.heap[b2]? ∧ True) ⟨rfl, trivial⟩ ?_
    have o143 := hb4
    have c142 := Chg.drew w138
    generalize World.drew w138 = w141 at c142 ⊢
    replace HC := HC.then c142
    replace ht := ht.tr0 c142
    replace hb4 := hb4.tr0 c142
    replace hb8 := hb8.tr0 c142
    refine sq_q rfl (fun W hT => r_move (v := S _) rfl) <| sq_q rfl (fun W hT => r_sshi (j := 1) T.u9 rfl ⟨_, rfl⟩ (by omega)) <| sq_q rfl (fun W hT => r_loadA (vs := [_]) T.agg46 rfl (Blk.cells (n := 1) (vs := [_]) (show Blk W b2 _ _ from hT.1.trans o143) rfl) rfl) <| sq_call1 rfl (r_call (ags := [_]) rfl rfl T.ent58 rfl) (quoted_spec m _) ?_
    rintro _ w144 ⟨rfl, c145⟩
    replace HC := HC.then c145
    replace ht := ht.tr0 c145
    replace hb4 := hb4.tr0 c145
    replace hb8 := hb8.tr0 c145
    refine ⟨_, fun _ h => h, ⟨(Eq.trans hb4 o143.symm), trivial⟩, ?_⟩
    refine sq_call1 rfl (r_call (ags := [_, _, _]) rfl rfl T.ent60 rfl) (text_spec (w.take 1) (!decide (m = 0)) 1 _) ?_
    have lt1_hsl_b2 := hb4.lt
    have lt1_hsl_b4 := hb8.lt
    have sz1_hsl := HC.size
    rintro _ w146 ⟨A, cap, rfl, hsl, c147⟩
    replace HC := HC.then c147
    replace ht := ht.tr0 c147
    replace hb4 := hb4.tr0 c147
    replace hb8 := hb8.tr0 c147
    refine ⟨_, fun _ h => h, ⟨(Eq.trans hb4 o143.symm), trivial⟩, ?_⟩
    refine sq_store1 rfl T.size78 (v := .agg ⟨[.slice _ _ _, .int _ _]⟩) rfl rfl rfl hb8 rfl (Nat.le_of_ble_eq_true rfl) (by simp [Value.oneCell', S]) rfl ?_
    intro w148 c149 hb150; simp only [setVs, setV] at hb150
    clear hb8
    replace HC := HC.then1 c149 ge_b4
    replace ht := ht.tr c149 (by intro hx; have := ht.lt; have := ht1; simp only [List.mem_cons, List.mem_nil_iff, or_false] at hx; omega)
    replace hb4 := hb4.tr1 c149 ne_b2_b4
    replace hsl := hsl.tr c149 (by intro k hx hD; simp only [List.mem_singleton] at hx; subst hx; omega)
    refine ⟨_, fun _ h => h, ⟨(Eq.trans hb4 o143.symm), trivial⟩, ?_⟩
    refine sq_q rfl (fun W hT => r_assign (v := .int _ _) rfl) ?_
    clear o143
    refine sq_nil <| then_n <| x_ret <| block_r <| then_r <| ret_many (vs := [.agg ⟨[_, _]⟩, .int _ _]) rfl ⟨⟨_, _, rfl, run_loadVarA T.agg78 (hb150.cells (n := 2) rfl) rfl⟩, ⟨rfl, trivial⟩⟩ (Nat.le_of_ble_eq_true rfl) <| (?_ : PieceT _ _ _ _ _ _)
    rw [nextP_one hA ⟨hB1.1, hB1.2, hB2⟩]
    exact ⟨_, _, rfl, (hsl.mono (fun k _ h => Nat.le_trans sz1_hsl h)), HC⟩
   ·try simp only [nm, ne_eq] at g140
    refine w_yes 6 31 false <| st_move (v := .int _ _) rfl <| w_yes 6 31 false <| st_call (ags := [_, _]) rfl rfl T.ent26 rfl (IndexByte_spec [39, 34, 92] (byte w 0) _) ?_
    rintro _ w151 ⟨rfl, c152⟩
    replace HC := HC.then c152
    replace ht := ht.tr0 c152
    replace hb4 := hb4.tr0 c152
    replace hb8 := hb8.tr0 c152
    refine w_yes 6 31 false <| st_lss rfl rfl <| w_yes 3 28 true <| st_pick (b := false) (v := .bool _) rfl rfl <| pT rfl rfl <| aB rfl <| en <| x_cond rfl (fun h1 => ?_) (fun h1 => ?_)
    ·try simp only [nm, ne_eq] at h1
     have hB1 : byte w 0 ≠ 36 ∧ byte w 0 ≠ 96 := ⟨fun e => by have h8 := in2a.2 (.inl e); first | omega | simp_all, fun e => by have h8 := in2a.2 (.inr e); first | omega | simp_all⟩
     have hB2 : (!decide (m = 0)) = true ∨ (byte w 0 ≠ 39 ∧ byte w 0 ≠ 34 ∧ byte w 0 ≠ 92) := by first | (left; assumption) | (left; simp_all; done) | (right; refine ⟨fun e => ?_, fun e => ?_, fun e => ?_⟩ <;> (have h8 := (in3a (c := byte w 0)).2 (by simp [e]); first | omega | simp_all))
     refine x_seq <| x_draw [(0, 0), (1, 0), (2, 0), (3, 1), (4, 1), (5, 1), (6, 0)] T.mixed rfl rfl rfl (fun W => W.heap[b2]? = w151.heap[b2]? ∧ True) ⟨rfl, trivial⟩ ?_
     have o155 := hb4
     have c154 := Chg.drew w151
     generalize World.drew w151 = w153 at c154 ⊢
     replace HC := HC.then c154
     replace ht := ht.tr0 c154
     replace hb4 := hb4.tr0 c154
     replace hb8 := hb8.tr0 c154
     refine sq_q rfl (fun W hT => r_move (v := S _) rfl) <| sq_q rfl (fun W hT => r_sshi (j := 1) T.u9 rfl ⟨_, rfl⟩ (by omega)) <| sq_q rfl (fun W hT => r_loadA (vs := [_]) T.agg46 rfl (Blk.cells (n := 1) (vs := [_]) (show Blk W b2 _ _ from hT.1.trans o155) rfl) rfl) <| sq_call1 rfl (r_call (ags := [_]) rfl rfl T.ent58 rfl) (quoted_spec m _) ?_
     rintro _ w156 ⟨rfl, c157⟩
     replace HC := HC.then c157
     replace ht := ht.tr0 c157
     replace hb4 := hb4.tr0 c157
     replace hb8 := hb8.tr0 c157
     refine ⟨_, fun _ h => h, ⟨(Eq.trans hb4 o155.symm), trivial⟩, ?_⟩
     refine sq_call1 rfl (r_call (ags := [_, _, _]) rfl rfl T.ent60 rfl) (text_spec (w.take 1) (!decide (m = 0)) 1 _) ?_
     have lt1_hsl_b2 := hb4.lt
     have lt1_hsl_b4 := hb8.lt
     have sz1_hsl := HC.size
     rintro _ w158 ⟨A, cap, rfl, hsl, c159⟩
     replace HC := HC.then c159
     replace ht := ht.tr0 c159
     replace hb4 := hb4.tr0 c159
     replace hb8 := hb8.tr0 c159
     refine ⟨_, fun _ h => h, ⟨(Eq.trans hb4 o155.symm), trivial⟩, ?_⟩
     refine sq_store1 rfl T.size78 (v := .agg ⟨[.slice _ _ _, .int _ _]⟩) rfl rfl rfl hb8 rfl (Nat.le_of_ble_eq_true rfl) (by simp [Value.oneCell', S]) rfl ?_
     intro w160 c161 hb162; simp only [setVs, setV] at hb162
     clear hb8
     replace HC := HC.then1 c161 ge_b4
     replace ht := ht.tr c161 (by intro hx; have := ht.lt; have := ht1; simp only [List.mem_cons, List.mem_nil_iff, or_false] at hx; omega)
     replace hb4 := hb4.tr1 c161 ne_b2_b4
     replace hsl := hsl.tr c161 (by intro k hx hD; simp only [List.mem_singleton] at hx; subst hx; omega)
     refine ⟨_, fun _ h => h, ⟨(Eq.trans hb4 o155.symm), trivial⟩, ?_⟩
     refine sq_q rfl (fun W hT => r_assign (v := .int _ _) rfl) ?_
     clear o155
     refine sq_nil <| then_n <| x_ret <| block_r <| then_r <| ret_many (vs := [.agg ⟨[_, _]⟩, .int _ _]) rfl ⟨⟨_, _, rfl, run_loadVarA T.agg78 (hb162.cells (n := 2) rfl) rfl⟩, ⟨rfl, trivial⟩⟩ (Nat.le_of_ble_eq_true rfl) <| (?_ : PieceT _ _ _ _ _ _)
     rw [nextP_one hA ⟨hB1.1, hB1.2, hB2⟩]
     exact ⟨_, _, rfl, (hsl.mono (fun k _ h => Nat.le_trans sz1_hsl h)), HC⟩
    ·try simp only [nm, ne_eq] at h1
     have hB : ¬ (byte w 0 ≠ 36 ∧ byte w 0 ≠ 96 ∧ ((!decide (m = 0)) = true ∨ (byte w 0 ≠ 39 ∧ byte w 0 ≠ 34 ∧ byte w 0 ≠ 92))) := by rintro ⟨h7, h8, h9⟩; first | (have h11 : 0 ≤ idx [36, 96] (byte w 0) := (by omega); rcases in2a.1 h11 with h | h; exact h7 h; exact h8 h) | (have h11 : 0 ≤ idx [39, 34, 92] (byte w 0) := (by omega); have h10 := in3a.1 h11; have hq : (!decide (m = 0)) = false := (by first | assumption | (simp; assumption) | simp_all); rw [hq] at h9; rcases h9 with h9 | ⟨ha, hb, hc⟩; cases h9; rcases h10 with h | h | h; exact ha h; exact hb h; exact hc h)
     refine x_skip <| block_n <| then_n <| x_seq ?_
     rcases skip_cases w hw with ⟨n, hn, hn1, hn2⟩ | ⟨e, he, he0⟩
     ·refine x_region rfl <| mS rfl <| Wp rfl <| st_call (ags := [_, _]) rfl rfl T.ent27 rfl (Skip_ok w _ hs hw hn) ?_
      rintro _ w163 ⟨rfl, c164⟩
      replace HC := HC.then c164
      replace ht := ht.tr0 c164
      replace hb4 := hb4.tr0 c164
      replace hb8 := hb8.tr0 c164
      refine mv (v := .tuple ⟨[_, _]⟩) rfl <| Wp rfl <| st_extract (vs := [_, _]) (v := .int _ _) rfl rfl <| Wp rfl <| st_extract (vs := [_, _]) (v := .int _ _) rfl rfl <| aI rfl <| aI rfl <| en <| x_seq <| sr rfl <| mI rfl <| Wp rfl <| st_neq rfl rfl <| en <| x_cond rfl (fun h2 => ?_) (fun h2 => ?_)
      ·try simp only [nm, ne_eq] at h2
       first | exact absurd rfl h2 | exact absurd trivial h2 | (simp at h2; done)
      ·try simp only [nm, ne_eq] at h2
       refine x_skip <| then_n <| x_seq <| sr rfl <| mI rfl <| en <| x_block <| sr rfl <| Wp rfl <| st_eql rfl rfl <| aB rfl <| en <| x_cond rfl (fun h3 => ?_) (fun h3 => ?_)
       ·try simp only [nm, ne_eq] at h3
        have hc0 : byte w 0 = 36 := u8_eq h3 rfl
        refine sr rfl <| Wp rfl <| st_loadA (vs := [_]) T.agg46 rfl (hb4.cells (n := 1) (vs := [_]) rfl) rfl <| mS rfl <| mI rfl <| Wp rfl <| st_call (ags := [_, _, _]) rfl rfl T.ent61 rfl (dollar_spec m w n _ hs hn2 hn1 (fun d hd hp => three_le hn hp hd) ht) ?_
        have lt1_hsl_b2 := hb4.lt
        have lt1_hsl_b4 := hb8.lt
        have sz1_hsl := HC.size
        rintro _ w165 ⟨A, cap, rfl, hsl, c166⟩
        replace HC := HC.then c166
        replace ht := ht.tr0 c166
        replace hb4 := hb4.tr0 c166
        replace hb8 := hb8.tr0 c166
        refine Wp rfl <| st_extract (vs := [_, _]) (v := .agg ⟨[.slice _ _ _, .int _ _]⟩) rfl rfl <| Wp rfl <| st_extract (vs := [_, _]) (v := .int _ _) rfl rfl <| Wp rfl <| st_store (v := .agg ⟨[.slice _ _ _, .int _ _]⟩) T.size78 rfl rfl rfl hb8 rfl (Nat.le_of_ble_eq_true rfl) (by simp [Value.oneCell', S]) rfl ?_
        intro w167 c168 hb169; simp only [setVs, setV] at hb169
        clear hb8
        replace HC := HC.then1 c168 ge_b4
        replace ht := ht.tr c168 (by intro hx; have := ht.lt; have := ht1; simp only [List.mem_cons, List.mem_nil_iff, or_false] at hx; omega)
        replace hb4 := hb4.tr1 c168 ne_b2_b4
        replace hsl := hsl.tr c168 (by intro k hx hD; simp only [List.mem_singleton] at hx; subst hx; omega)
        refine aI rfl <| en <| x_ret <| block_r <| then_r <| ret_many (vs := [.agg ⟨[_, _]⟩, .int _ _]) rfl ⟨⟨_, _, rfl, run_loadVarA T.agg78 (hb169.cells (n := 2) rfl) rfl⟩, ⟨rfl, trivial⟩⟩ (Nat.le_of_ble_eq_true rfl) <| (?_ : PieceT _ _ _ _ _ _)
        rw [nextP_ok hA hB hn, if_pos hc0]
        exact ⟨_, _, rfl, (hsl.mono (fun k _ h => Nat.le_trans sz1_hsl h)), HC⟩
       ·try simp only [nm, ne_eq] at h3
        have hc3 : byte w 0 ≠ 36 := fun e => h3 (by rw [e]; rfl)
        refine sr rfl <| Wp rfl <| st_eql rfl rfl <| aB rfl <| en <| x_cond rfl (fun h4 => ?_) (fun h4 => ?_)
        ·try simp only [nm, ne_eq] at h4
         have hc0 : byte w 0 = 39 := u8_eq h4 rfl
         have hn3 := two_le hw hn (.inl hc0)
         have hs1 : IntKind.i64.wrap ((n : Int) - 1) = ((n - 1 : Nat) : Int) := by rw [wrap64_id (by omega) (by omega)]; omega
         refine sr rfl <| mS rfl <| mI rfl <| Wp rfl <| st_subk rfl rfl (by exact hs1) <| Wp rfl <| st_sslice (i := 1) (j := n - 1) T.u9 rfl ⟨_, rfl⟩ ⟨_, rfl⟩ (by omega) (by omega) <| mI rfl <| Wp rfl <| st_call (ags := [_, _, _]) rfl rfl T.ent60 rfl (text_spec ((w.take (n - 1)).drop 1) true n _) ?_
         have lt1_hsl_b2 := hb4.lt
         have lt1_hsl_b4 := hb8.lt
         have sz1_hsl := HC.size
         rintro _ w170 ⟨A, cap, rfl, hsl, c171⟩
         replace HC := HC.then c171
         replace ht := ht.tr0 c171
         replace hb4 := hb4.tr0 c171
         replace hb8 := hb8.tr0 c171
         refine Wp rfl <| st_store (v := .agg ⟨[.slice _ _ _, .int _ _]⟩) T.size78 rfl rfl rfl hb8 rfl (Nat.le_of_ble_eq_true rfl) (by simp [Value.oneCell', S]) rfl ?_
         intro w172 c173 hb174; simp only [setVs, setV] at hb174
         clear hb8
         replace HC := HC.then1 c173 ge_b4
         replace ht := ht.tr c173 (by intro hx; have := ht.lt; have := ht1; simp only [List.mem_cons, List.mem_nil_iff, or_false] at hx; omega)
         replace hb4 := hb4.tr1 c173 ne_b2_b4
         replace hsl := hsl.tr c173 (by intro k hx hD; simp only [List.mem_singleton] at hx; subst hx; omega)
         refine aI rfl <| en <| x_ret <| block_r <| then_r <| ret_many (vs := [.agg ⟨[_, _]⟩, .int _ _]) rfl ⟨⟨_, _, rfl, run_loadVarA T.agg78 (hb174.cells (n := 2) rfl) rfl⟩, ⟨rfl, trivial⟩⟩ (Nat.le_of_ble_eq_true rfl) <| (?_ : PieceT _ _ _ _ _ _)
         rw [nextP_ok hA hB hn, if_neg hc3, if_pos hc0]
         exact ⟨_, _, rfl, (hsl.mono (fun k _ h => Nat.le_trans sz1_hsl h)), HC⟩
        ·try simp only [nm, ne_eq] at h4
         have hc4 : byte w 0 ≠ 39 := fun e => h4 (by rw [e]; rfl)
         refine sr rfl <| Wp rfl <| st_eql rfl rfl <| aB rfl <| en <| x_cond rfl (fun h5 => ?_) (fun h5 => ?_)
         ·try simp only [nm, ne_eq] at h5
          have hc0 : byte w 0 = 34 := u8_eq h5 rfl
          have hn3 := two_le hw hn (.inr (.inl hc0))
          have hm0 : m = 0 := by rcases Decidable.em (m = 0) with h | h; exact h; exact absurd ⟨hc3, fun e => by rw [hc0] at e; exact absurd e (by decide), .inl (by simp [h])⟩ hB
          refine x_seq <| sr rfl <| mI rfl <| Wp rfl <| st_eql rfl rfl <| en <| x_cond rfl (fun h6 => ?_) (fun h6 => ?_)
          ·try simp only [nm, ne_eq] at h6
           refine sr rfl <| mI rfl <| Wp rfl <| st_call (ags := [_, _, _]) rfl rfl T.ent60 rfl (text_spec [] true n _) ?_
           have lt1_hsl_b2 := hb4.lt
           have lt1_hsl_b4 := hb8.lt
           have sz1_hsl := HC.size
           rintro _ w175 ⟨A, cap, rfl, hsl, c176⟩
           replace HC := HC.then c176
           replace ht := ht.tr0 c176
           replace hb4 := hb4.tr0 c176
           replace hb8 := hb8.tr0 c176
           refine Wp rfl <| st_store (v := .agg ⟨[.slice _ _ _, .int _ _]⟩) T.size78 rfl rfl rfl hb8 rfl (Nat.le_of_ble_eq_true rfl) (by simp [Value.oneCell', S]) rfl ?_
           intro w177 c178 hb179; simp only [setVs, setV] at hb179
           clear hb8
           replace HC := HC.then1 c178 ge_b4
           replace ht := ht.tr c178 (by intro hx; have := ht.lt; have := ht1; simp only [List.mem_cons, List.mem_nil_iff, or_false] at hx; omega)
           replace hb4 := hb4.tr1 c178 ne_b2_b4
           replace hsl := hsl.tr c178 (by intro k hx hD; simp only [List.mem_singleton] at hx; subst hx; omega)
           refine aI rfl <| en <| x_ret <| then_r <| block_r <| then_r <| ret_many (vs := [.agg ⟨[_, _]⟩, .int _ _]) rfl ⟨⟨_, _, rfl, run_loadVarA T.agg78 (hb179.cells (n := 2) rfl) rfl⟩, ⟨rfl, trivial⟩⟩ (Nat.le_of_ble_eq_true rfl) <| (?_ : PieceT _ _ _ _ _ _)
           rw [nextP_ok hA hB hn, if_neg hc3, if_neg hc4, if_pos hc0, if_pos (by omega)]
           exact ⟨_, _, rfl, (hsl.mono (fun k _ h => Nat.le_trans sz1_hsl h)), HC⟩
          ·try simp only [nm, ne_eq] at h6
           have hs1 : IntKind.i64.wrap ((n : Int) - 1) = ((n - 1 : Nat) : Int) := by rw [wrap64_id (by omega) (by omega)]; omega
           refine x_skip <| then_n <| sr rfl <| mS rfl <| mI rfl <| Wp rfl <| st_subk rfl rfl (by exact hs1) <| Wp rfl <| st_sslice (i := 1) (j := n - 1) T.u9 rfl ⟨_, rfl⟩ ⟨_, rfl⟩ (by omega) (by omega) <| Wp rfl <| st_call (ags := [_, _]) rfl rfl T.ent9 rfl (hP hm0 ((w.take (n - 1)).drop 1) _ (by simp only [List.length_drop, List.length_take]; omega) ht) ?_
           have lt1_hsl_b2 := hb4.lt
           have lt1_hsl_b4 := hb8.lt
           have sz1_hsl := HC.size
           rintro _ w180 ⟨A, cap, rfl, hsl, c181⟩
           replace HC := HC.then c181
           replace ht := ht.tr0 c181
           replace hb4 := hb4.tr0 c181
           replace hb8 := hb8.tr0 c181
           refine mv (v := .tuple ⟨[_, _]⟩) rfl <| Wp rfl <| st_extract (vs := [_, _]) (v := .slice _ _ _) rfl rfl <| Wp rfl <| st_extract (vs := [_, _]) (v := .int _ _) rfl rfl <| aL rfl <| aI rfl <| en <| sr rfl <| mL rfl <| mI rfl <| Wp rfl <| st_bld (ps := [(0, .tmp 82), (1, .tmp 83)]) (vs := [.slice _ _ _, .int _ _]) T.bld78 rfl <| mI rfl <| Wp rfl <| st_store (v := .agg ⟨[.slice _ _ _, .int _ _]⟩) T.size78 rfl rfl rfl hb8 rfl (Nat.le_of_ble_eq_true rfl) (by simp [Value.oneCell', S]) rfl ?_
           intro w182 c183 hb184; simp only [setVs, setV] at hb184
           clear hb8
           replace HC := HC.then1 c183 ge_b4
           replace ht := ht.tr c183 (by intro hx; have := ht.lt; have := ht1; simp only [List.mem_cons, List.mem_nil_iff, or_false] at hx; omega)
           replace hb4 := hb4.tr1 c183 ne_b2_b4
           replace hsl := hsl.tr c183 (by intro k hx hD; simp only [List.mem_singleton] at hx; subst hx; omega)
           refine aI rfl <| en <| x_ret <| block_r <| then_r <| ret_many (vs := [.agg ⟨[_, _]⟩, .int _ _]) rfl ⟨⟨_, _, rfl, run_loadVarA T.agg78 (hb184.cells (n := 2) rfl) rfl⟩, ⟨rfl, trivial⟩⟩ (Nat.le_of_ble_eq_true rfl) <| (?_ : PieceT _ _ _ _ _ _)
           rw [nextP_ok hA hB hn, if_neg hc3, if_neg hc4, if_pos hc0, if_neg (by omega)]
           exact ⟨_, _, rfl, (hsl.mono (fun k _ h => Nat.le_trans sz1_hsl h)), HC⟩
         ·try simp only [nm, ne_eq] at h5
          have hc5 : byte w 0 ≠ 34 := fun e => h5 (by rw [e]; rfl)
          refine sr rfl <| Wp rfl <| st_eql rfl rfl <| aB rfl <| en <| x_cond rfl (fun h7 => ?_) (fun h7 => ?_)
          ·try simp only [nm, ne_eq] at h7
           have hc0 : byte w 0 = 92 := u8_eq h7 rfl
           have hn3 := back_le hw hn hc0
           refine x_seq <| sr rfl <| mS rfl <| mI rfl <| Wp rfl <| st_sslice (i := 1) (j := n) T.u9 rfl ⟨_, rfl⟩ ⟨_, rfl⟩ (by omega) (by omega) <| Wp rfl <| st_call (ags := [_, _]) rfl rfl T.ent30 rfl (TrimPrefix_spec ((w.take n).drop 1) [10] _) ?_
           rintro _ w185 ⟨rfl, c186⟩
           replace HC := HC.then c186
           replace ht := ht.tr0 c186
           replace hb4 := hb4.tr0 c186
           replace hb8 := hb8.tr0 c186
           refine aS rfl <| en <| sr rfl <| mS rfl <| Wp rfl <| st_sneq rfl rfl <| en <| x_cond rfl (fun h8 => ?_) (fun h8 => ?_)
           ·try simp only [nm, ne_eq] at h8
            have htp := (trim_one (x := (w.take n).drop 1) (by simp only [List.length_drop, List.length_take]; omega)).resolve_left (fun h => h8 h.1)
            rw [htp.1]
            refine sr rfl <| mS rfl <| mI rfl <| Wp rfl <| st_call (ags := [_, _, _]) rfl rfl T.ent60 rfl (text_spec ((w.take n).drop 1) true n _) ?_
            have lt1_hsl_b2 := hb4.lt
            have lt1_hsl_b4 := hb8.lt
            have sz1_hsl := HC.size
            rintro _ w187 ⟨A, cap, rfl, hsl, c188⟩
            replace HC := HC.then c188
            replace ht := ht.tr0 c188
            replace hb4 := hb4.tr0 c188
            replace hb8 := hb8.tr0 c188
            refine Wp rfl <| st_store (v := .agg ⟨[.slice _ _ _, .int _ _]⟩) T.size78 rfl rfl rfl hb8 rfl (Nat.le_of_ble_eq_true rfl) (by simp [Value.oneCell', S]) rfl ?_
            intro w189 c190 hb191; simp only [setVs, setV] at hb191
            clear hb8
            replace HC := HC.then1 c190 ge_b4
            replace ht := ht.tr c190 (by intro hx; have := ht.lt; have := ht1; simp only [List.mem_cons, List.mem_nil_iff, or_false] at hx; omega)
            replace hb4 := hb4.tr1 c190 ne_b2_b4
            replace hsl := hsl.tr c190 (by intro k hx hD; simp only [List.mem_singleton] at hx; subst hx; omega)
            refine aI rfl <| en <| x_ret <| then_r <| block_r <| then_r <| ret_many (vs := [.agg ⟨[_, _]⟩, .int _ _]) rfl ⟨⟨_, _, rfl, run_loadVarA T.agg78 (hb191.cells (n := 2) rfl) rfl⟩, ⟨rfl, trivial⟩⟩ (Nat.le_of_ble_eq_true rfl) <| (?_ : PieceT _ _ _ _ _ _)
            rw [nextP_ok hA hB hn, if_neg hc3, if_neg hc4, if_neg hc5, if_pos hc0, if_neg htp.2]
            exact ⟨_, _, rfl, (hsl.mono (fun k _ h => Nat.le_trans sz1_hsl h)), HC⟩
           ·try simp only [nm, ne_eq] at h8
            have htp : (w.take n).drop 1 = [10] ∨ (w.take n).drop 1 = [] := by rcases trim_one (x := (w.take n).drop 1) (by simp only [List.length_drop, List.length_take]; omega) with h | h; exact h.2; exact .inr (h.1.symm.trans (by first | assumption | simpa using h8))
            refine x_skip <| then_n <| sr rfl <| mI rfl <| Wp rfl <| st_bld (ps := [(1, .tmp 97)]) (vs := [.slice _ _ _, .int _ _]) T.bld78 rfl <| Wp rfl <| st_store (v := .agg ⟨[.slice _ _ _, .int _ _]⟩) T.size78 rfl rfl rfl hb8 rfl (Nat.le_of_ble_eq_true rfl) (by simp [Value.oneCell', S]) rfl ?_
            intro w192 c193 hb194; simp only [setVs, setV] at hb194
            clear hb8
            replace HC := HC.then1 c193 ge_b4
            replace ht := ht.tr c193 (by intro hx; have := ht.lt; have := ht1; simp only [List.mem_cons, List.mem_nil_iff, or_false] at hx; omega)
            replace hb4 := hb4.tr1 c193 ne_b2_b4
            refine aI rfl <| en <| x_ret <| block_r <| then_r <| ret_many (vs := [.agg ⟨[_, _]⟩, .int _ _]) rfl ⟨⟨_, _, rfl, run_loadVarA T.agg78 (hb194.cells (n := 2) rfl) rfl⟩, ⟨rfl, trivial⟩⟩ (Nat.le_of_ble_eq_true rfl) <| (?_ : PieceT _ _ _ _ _ _)
            rw [nextP_ok hA hB hn, if_neg hc3, if_neg hc4, if_neg hc5, if_pos hc0, if_pos htp]
            exact ⟨none, 0, rfl, .nil, HC⟩
          ·try simp only [nm, ne_eq] at h7
           have hc7 : byte w 0 ≠ 92 := fun e => h7 (by rw [e]; rfl)
           have hc96 : byte w 0 = 96 := Decidable.byContradiction fun h => hB ⟨hc3, h, .inr ⟨hc4, hc5, hc7⟩⟩
           have hn3 := two_le hw hn (.inr (.inr hc96))
           have hs1 : IntKind.i64.wrap ((n : Int) - 1) = ((n - 1 : Nat) : Int) := by rw [wrap64_id (by omega) (by omega)]; omega
           refine x_skip <| block_n <| then_n <| x_seq <| x_draw [(0, 0), (1, 0), (2, 0), (3, 0), (4, 0), (5, 0), (6, 1), (7, 1), (8, 0)] T.mixed rfl rfl rfl (fun W => W.heap[b2]? = w163.heap[b2]? ∧ True) ⟨rfl, trivial⟩ ?_
           have o197 := hb4
           have c196 := Chg.drew w163
           generalize World.drew w163 = w195 at c196 ⊢
           replace HC := HC.then c196
           replace ht := ht.tr0 c196
           replace hb4 := hb4.tr0 c196
           replace hb8 := hb8.tr0 c196
           refine sq_q rfl (fun W hT => r_loadA (vs := [_]) T.agg46 rfl (Blk.cells (n := 1) (vs := [_]) (show Blk W b2 _ _ from hT.1.trans o197) rfl) rfl) <| sq_q rfl (fun W hT => r_move (v := S _) rfl) <| sq_q rfl (fun W hT => r_move (v := .int _ _) rfl) <| sq_q rfl (fun W hT => r_subk rfl rfl (by exact hs1)) <| sq_q rfl (fun W hT => r_sslice (i := 1) (j := n - 1) T.u9 rfl ⟨_, rfl⟩ ⟨_, rfl⟩ (by omega) (by omega)) <| sq_q rfl (fun W hT => r_move (v := .int _ _) rfl) <| sq_call1 rfl (r_call (ags := [_, _, _]) rfl rfl T.ent62 rfl) (ticked_spec m ((w.take (n - 1)).drop 1) n _ (by simp only [List.length_drop, List.length_take]; omega)) ?_
           have lt1_hsl_b2 := hb4.lt
           have lt1_hsl_b4 := hb8.lt
           have sz1_hsl := HC.size
           rintro _ w198 ⟨A, cap, rfl, hsl, c199⟩
           replace HC := HC.then c199
           replace ht := ht.tr0 c199
           replace hb4 := hb4.tr0 c199
           replace hb8 := hb8.tr0 c199
           refine ⟨_, fun _ h => h, ⟨(Eq.trans hb4 o197.symm), trivial⟩, ?_⟩
           refine sq_store1 rfl T.size78 (v := .agg ⟨[.slice _ _ _, .int _ _]⟩) rfl rfl rfl hb8 rfl (Nat.le_of_ble_eq_true rfl) (by simp [Value.oneCell', S]) rfl ?_
           intro w200 c201 hb202; simp only [setVs, setV] at hb202
           clear hb8
           replace HC := HC.then1 c201 ge_b4
           replace ht := ht.tr c201 (by intro hx; have := ht.lt; have := ht1; simp only [List.mem_cons, List.mem_nil_iff, or_false] at hx; omega)
           replace hb4 := hb4.tr1 c201 ne_b2_b4
           replace hsl := hsl.tr c201 (by intro k hx hD; simp only [List.mem_singleton] at hx; subst hx; omega)
           refine ⟨_, fun _ h => h, ⟨(Eq.trans hb4 o197.symm), trivial⟩, ?_⟩
           refine sq_q rfl (fun W hT => r_assign (v := .int _ _) rfl) ?_
           clear o197
           refine sq_nil <| then_n <| x_ret <| ret_many (vs := [.agg ⟨[_, _]⟩, .int _ _]) rfl ⟨⟨_, _, rfl, run_loadVarA T.agg78 (hb202.cells (n := 2) rfl) rfl⟩, ⟨rfl, trivial⟩⟩ (Nat.le_of_ble_eq_true rfl) <| (?_ : PieceT _ _ _ _ _ _)
           rw [nextP_ok hA hB hn, if_neg hc3, if_neg hc4, if_neg hc5, if_neg hc7]
           exact ⟨_, _, rfl, (hsl.mono (fun k _ h => Nat.le_trans sz1_hsl h)), HC⟩
     ·refine x_region rfl <| mS rfl <| Wp rfl <| st_call (ags := [_, _]) rfl rfl T.ent27 rfl (Skip_err w _ hs hw he) ?_
      rintro _ w203 ⟨rfl, c204⟩
      replace HC := HC.then c204
      replace ht := ht.tr0 c204
      replace hb4 := hb4.tr0 c204
      replace hb8 := hb8.tr0 c204
      refine mv (v := .tuple ⟨[_, _]⟩) rfl <| Wp rfl <| st_extract (vs := [_, _]) (v := .int _ _) rfl rfl <| Wp rfl <| st_extract (vs := [_, _]) (v := .int _ _) rfl rfl <| aI rfl <| aI rfl <| en <| x_seq <| sr rfl <| mI rfl <| Wp rfl <| st_neq rfl rfl <| en <| x_cond rfl (fun h2 => ?_) (fun h2 => ?_)
      ·try simp only [nm, ne_eq] at h2
       refine sr rfl <| Wp rfl <| st_bld (ps := []) (vs := [.slice _ _ _, .int _ _]) T.bld78 rfl <| mI rfl <| Wp rfl <| st_store (v := .agg ⟨[.slice _ _ _, .int _ _]⟩) T.size78 rfl rfl rfl hb8 rfl (Nat.le_of_ble_eq_true rfl) (by simp [Value.oneCell', S]) rfl ?_
       intro w205 c206 hb207; simp only [setVs, setV] at hb207
       clear hb8
       replace HC := HC.then1 c206 ge_b4
       replace ht := ht.tr c206 (by intro hx; have := ht.lt; have := ht1; simp only [List.mem_cons, List.mem_nil_iff, or_false] at hx; omega)
       replace hb4 := hb4.tr1 c206 ne_b2_b4
       refine aI rfl <| en <| x_ret <| then_r <| ret_many (vs := [.agg ⟨[_, _]⟩, .int _ _]) rfl ⟨⟨_, _, rfl, run_loadVarA T.agg78 (hb207.cells (n := 2) rfl) rfl⟩, ⟨rfl, trivial⟩⟩ (Nat.le_of_ble_eq_true rfl) <| (?_ : PieceT _ _ _ _ _ _)
       rw [nextP_err hA hB he]
       exact ⟨none, 0, rfl, .nil, HC⟩
      ·try simp only [nm, ne_eq] at h2
       exfalso; first | omega | simp_all
  ·try simp only [nm, ne_eq] at g137
   iterate 3 refine w_no 3 28 true ?_
   iterate 3 refine w_no 6 31 false ?_
   refine w_no 3 28 true <| pF rfl rfl <| aB rfl <| en <| x_cond (t := false) rfl (fun h1 => ?_) (fun h1 => ?_)
   · exact absurd h1 (by decide)
   have hB : ¬ (byte w 0 ≠ 36 ∧ byte w 0 ≠ 96 ∧ ((!decide (m = 0)) = true ∨ (byte w 0 ≠ 39 ∧ byte w 0 ≠ 34 ∧ byte w 0 ≠ 92))) := by rintro ⟨h7, h8, h9⟩; first | (have h11 : 0 ≤ idx [36, 96] (byte w 0) := (by omega); rcases in2a.1 h11 with h | h; exact h7 h; exact h8 h) | (have h11 : 0 ≤ idx [39, 34, 92] (byte w 0) := (by omega); have h10 := in3a.1 h11; have hq : (!decide (m = 0)) = false := (by first | assumption | (simp; assumption) | simp_all); rw [hq] at h9; rcases h9 with h9 | ⟨ha, hb, hc⟩; cases h9; rcases h10 with h | h | h; exact ha h; exact hb h; exact hc h)
   refine x_skip <| block_n <| then_n <| x_seq ?_
   rcases skip_cases w hw with ⟨n, hn, hn1, hn2⟩ | ⟨e, he, he0⟩
   ·refine x_region rfl <| mS rfl <| Wp rfl <| st_call (ags := [_, _]) rfl rfl T.ent27 rfl (Skip_ok w _ hs hw hn) ?_
    rintro _ w208 ⟨rfl, c209⟩
    replace HC := HC.then c209
    replace ht := ht.tr0 c209
    replace hb4 := hb4.tr0 c209
    replace hb8 := hb8.tr0 c209
    refine mv (v := .tuple ⟨[_, _]⟩) rfl <| Wp rfl <| st_extract (vs := [_, _]) (v := .int _ _) rfl rfl <| Wp rfl <| st_extract (vs := [_, _]) (v := .int _ _) rfl rfl <| aI rfl <| aI rfl <| en <| x_seq <| sr rfl <| mI rfl <| Wp rfl <| st_neq rfl rfl <| en <| x_cond rfl (fun h2 => ?_) (fun h2 => ?_)
    ·try simp only [nm, ne_eq] at h2
     first | exact absurd rfl h2 | exact absurd trivial h2 | (simp at h2; done)
    ·try simp only [nm, ne_eq] at h2
     refine x_skip <| then_n <| x_seq <| sr rfl <| mI rfl <| en <| x_block <| sr rfl <| Wp rfl <| st_eql rfl rfl <| aB rfl <| en <| x_cond rfl (fun h3 => ?_) (fun h3 => ?_)
     ·try simp only [nm, ne_eq] at h3
      have hc0 : byte w 0 = 36 := u8_eq h3 rfl
      refine sr rfl <| Wp rfl <| st_loadA (vs := [_]) T.agg46 rfl (hb4.cells (n := 1) (vs := [_]) rfl) rfl <| mS rfl <| mI rfl <| Wp rfl <| st_call (ags := [_, _, _]) rfl rfl T.ent61 rfl (dollar_spec m w n _ hs hn2 hn1 (fun d hd hp => three_le hn hp hd) ht) ?_
      have lt1_hsl_b2 := hb4.lt
      have lt1_hsl_b4 := hb8.lt
      have sz1_hsl := HC.size
      rintro _ w210 ⟨A, cap, rfl, hsl, c211⟩
      replace HC := HC.then c211
      replace ht := ht.tr0 c211
      replace hb4 := hb4.tr0 c211
      replace hb8 := hb8.tr0 c211
      refine Wp rfl <| st_extract (vs := [_, _]) (v := .agg ⟨[.slice _ _ _, .int _ _]⟩) rfl rfl <| Wp rfl <| st_extract (vs := [_, _]) (v := .int _ _) rfl rfl <| Wp rfl <| st_store (v := .agg ⟨[.slice _ _ _, .int _ _]⟩) T.size78 rfl rfl rfl hb8 rfl (Nat.le_of_ble_eq_true rfl) (by simp [Value.oneCell', S]) rfl ?_
      intro w212 c213 hb214; simp only [setVs, setV] at hb214
      clear hb8
      replace HC := HC.then1 c213 ge_b4
      replace ht := ht.tr c213 (by intro hx; have := ht.lt; have := ht1; simp only [List.mem_cons, List.mem_nil_iff, or_false] at hx; omega)
      replace hb4 := hb4.tr1 c213 ne_b2_b4
      replace hsl := hsl.tr c213 (by intro k hx hD; simp only [List.mem_singleton] at hx; subst hx; omega)
      refine aI rfl <| en <| x_ret <| block_r <| then_r <| ret_many (vs := [.agg ⟨[_, _]⟩, .int _ _]) rfl ⟨⟨_, _, rfl, run_loadVarA T.agg78 (hb214.cells (n := 2) rfl) rfl⟩, ⟨rfl, trivial⟩⟩ (Nat.le_of_ble_eq_true rfl) <| (?_ : PieceT _ _ _ _ _ _)
      rw [nextP_ok hA hB hn, if_pos hc0]
      exact ⟨_, _, rfl, (hsl.mono (fun k _ h => Nat.le_trans sz1_hsl h)), HC⟩
     ·try simp only [nm, ne_eq] at h3
      have hc3 : byte w 0 ≠ 36 := fun e => h3 (by rw [e]; rfl)
      refine sr rfl <| Wp rfl <| st_eql rfl rfl <| aB rfl <| en <| x_cond rfl (fun h4 => ?_) (fun h4 => ?_)
      ·try simp only [nm, ne_eq] at h4
       have hc0 : byte w 0 = 39 := u8_eq h4 rfl
       have hn3 := two_le hw hn (.inl hc0)
       have hs1 : IntKind.i64.wrap ((n : Int) - 1) = ((n - 1 : Nat) : Int) := by rw [wrap64_id (by omega) (by omega)]; omega
       refine sr rfl <| mS rfl <| mI rfl <| Wp rfl <| st_subk rfl rfl (by exact hs1) <| Wp rfl <| st_sslice (i := 1) (j := n - 1) T.u9 rfl ⟨_, rfl⟩ ⟨_, rfl⟩ (by omega) (by omega) <| mI rfl <| Wp rfl <| st_call (ags := [_, _, _]) rfl rfl T.ent60 rfl (text_spec ((w.take (n - 1)).drop 1) true n _) ?_
       have lt1_hsl_b2 := hb4.lt
       have lt1_hsl_b4 := hb8.lt
       have sz1_hsl := HC.size
       rintro _ w215 ⟨A, cap, rfl, hsl, c216⟩
       replace HC := HC.then c216
       replace ht := ht.tr0 c216
       replace hb4 := hb4.tr0 c216
       replace hb8 := hb8.tr0 c216
       refine Wp rfl <| st_store (v := .agg ⟨[.slice _ _ _, .int _ _]⟩) T.size78 rfl rfl rfl hb8 rfl (Nat.le_of_ble_eq_true rfl) (by simp [Value.oneCell', S]) rfl ?_
       intro w217 c218 hb219; simp only [setVs, setV] at hb219
       clear hb8
       replace HC := HC.then1 c218 ge_b4
       replace ht := ht.tr c218 (by intro hx; have := ht.lt; have := ht1; simp only [List.mem_cons, List.mem_nil_iff, or_false] at hx; omega)
       replace hb4 := hb4.tr1 c218 ne_b2_b4
       replace hsl := hsl.tr c218 (by intro k hx hD; simp only [List.mem_singleton] at hx; subst hx; omega)
       refine aI rfl <| en <| x_ret <| block_r <| then_r <| ret_many (vs := [.agg ⟨[_, _]⟩, .int _ _]) rfl ⟨⟨_, _, rfl, run_loadVarA T.agg78 (hb219.cells (n := 2) rfl) rfl⟩, ⟨rfl, trivial⟩⟩ (Nat.le_of_ble_eq_true rfl) <| (?_ : PieceT _ _ _ _ _ _)
       rw [nextP_ok hA hB hn, if_neg hc3, if_pos hc0]
       exact ⟨_, _, rfl, (hsl.mono (fun k _ h => Nat.le_trans sz1_hsl h)), HC⟩
      ·try simp only [nm, ne_eq] at h4
       have hc4 : byte w 0 ≠ 39 := fun e => h4 (by rw [e]; rfl)
       refine sr rfl <| Wp rfl <| st_eql rfl rfl <| aB rfl <| en <| x_cond rfl (fun h5 => ?_) (fun h5 => ?_)
       ·try simp only [nm, ne_eq] at h5
        have hc0 : byte w 0 = 34 := u8_eq h5 rfl
        have hn3 := two_le hw hn (.inr (.inl hc0))
        have hm0 : m = 0 := by rcases Decidable.em (m = 0) with h | h; exact h; exact absurd ⟨hc3, fun e => by rw [hc0] at e; exact absurd e (by decide), .inl (by simp [h])⟩ hB
        refine x_seq <| sr rfl <| mI rfl <| Wp rfl <| st_eql rfl rfl <| en <| x_cond rfl (fun h6 => ?_) (fun h6 => ?_)
        ·try simp only [nm, ne_eq] at h6
         refine sr rfl <| mI rfl <| Wp rfl <| st_call (ags := [_, _, _]) rfl rfl T.ent60 rfl (text_spec [] true n _) ?_
         have lt1_hsl_b2 := hb4.lt
         have lt1_hsl_b4 := hb8.lt
         have sz1_hsl := HC.size
         rintro _ w220 ⟨A, cap, rfl, hsl, c221⟩
         replace HC := HC.then c221
         replace ht := ht.tr0 c221
         replace hb4 := hb4.tr0 c221
         replace hb8 := hb8.tr0 c221
         refine Wp rfl <| st_store (v := .agg ⟨[.slice _ _ _, .int _ _]⟩) T.size78 rfl rfl rfl hb8 rfl (Nat.le_of_ble_eq_true rfl) (by simp [Value.oneCell', S]) rfl ?_
         intro w222 c223 hb224; simp only [setVs, setV] at hb224
         clear hb8
         replace HC := HC.then1 c223 ge_b4
         replace ht := ht.tr c223 (by intro hx; have := ht.lt; have := ht1; simp only [List.mem_cons, List.mem_nil_iff, or_false] at hx; omega)
         replace hb4 := hb4.tr1 c223 ne_b2_b4
         replace hsl := hsl.tr c223 (by intro k hx hD; simp only [List.mem_singleton] at hx; subst hx; omega)
         refine aI rfl <| en <| x_ret <| then_r <| block_r <| then_r <| ret_many (vs := [.agg ⟨[_, _]⟩, .int _ _]) rfl ⟨⟨_, _, rfl, run_loadVarA T.agg78 (hb224.cells (n := 2) rfl) rfl⟩, ⟨rfl, trivial⟩⟩ (Nat.le_of_ble_eq_true rfl) <| (?_ : PieceT _ _ _ _ _ _)
         rw [nextP_ok hA hB hn, if_neg hc3, if_neg hc4, if_pos hc0, if_pos (by omega)]
         exact ⟨_, _, rfl, (hsl.mono (fun k _ h => Nat.le_trans sz1_hsl h)), HC⟩
        ·try simp only [nm, ne_eq] at h6
         have hs1 : IntKind.i64.wrap ((n : Int) - 1) = ((n - 1 : Nat) : Int) := by rw [wrap64_id (by omega) (by omega)]; omega
         refine x_skip <| then_n <| sr rfl <| mS rfl <| mI rfl <| Wp rfl <| st_subk rfl rfl (by exact hs1) <| Wp rfl <| st_sslice (i := 1) (j := n - 1) T.u9 rfl ⟨_, rfl⟩ ⟨_, rfl⟩ (by omega) (by omega) <| Wp rfl <| st_call (ags := [_, _]) rfl rfl T.ent9 rfl (hP hm0 ((w.take (n - 1)).drop 1) _ (by simp only [List.length_drop, List.length_take]; omega) ht) ?_
         have lt1_hsl_b2 := hb4.lt
         have lt1_hsl_b4 := hb8.lt
         have sz1_hsl := HC.size
         rintro _ w225 ⟨A, cap, rfl, hsl, c226⟩
         replace HC := HC.then c226
         replace ht := ht.tr0 c226
         replace hb4 := hb4.tr0 c226
         replace hb8 := hb8.tr0 c226
         refine mv (v := .tuple ⟨[_, _]⟩) rfl <| Wp rfl <| st_extract (vs := [_, _]) (v := .slice _ _ _) rfl rfl <| Wp rfl <| st_extract (vs := [_, _]) (v := .int _ _) rfl rfl <| aL rfl <| aI rfl <| en <| sr rfl <| mL rfl <| mI rfl <| Wp rfl <| st_bld (ps := [(0, .tmp 82), (1, .tmp 83)]) (vs := [.slice _ _ _, .int _ _]) T.bld78 rfl <| mI rfl <| Wp rfl <| st_store (v := .agg ⟨[.slice _ _ _, .int _ _]⟩) T.size78 rfl rfl rfl hb8 rfl (Nat.le_of_ble_eq_true rfl) (by simp [Value.oneCell', S]) rfl ?_
         intro w227 c228 hb229; simp only [setVs, setV] at hb229
         clear hb8
         replace HC := HC.then1 c228 ge_b4
         replace ht := ht.tr c228 (by intro hx; have := ht.lt; have := ht1; simp only [List.mem_cons, List.mem_nil_iff, or_false] at hx; omega)
         replace hb4 := hb4.tr1 c228 ne_b2_b4
         replace hsl := hsl.tr c228 (by intro k hx hD; simp only [List.mem_singleton] at hx; subst hx; omega)
         refine aI rfl <| en <| x_ret <| block_r <| then_r <| ret_many (vs := [.agg ⟨[_, _]⟩, .int _ _]) rfl ⟨⟨_, _, rfl, run_loadVarA T.agg78 (hb229.cells (n := 2) rfl) rfl⟩, ⟨rfl, trivial⟩⟩ (Nat.le_of_ble_eq_true rfl) <| (?_ : PieceT _ _ _ _ _ _)
         rw [nextP_ok hA hB hn, if_neg hc3, if_neg hc4, if_pos hc0, if_neg (by omega)]
         exact ⟨_, _, rfl, (hsl.mono (fun k _ h => Nat.le_trans sz1_hsl h)), HC⟩
       ·try simp only [nm, ne_eq] at h5
        have hc5 : byte w 0 ≠ 34 := fun e => h5 (by rw [e]; rfl)
        refine sr rfl <| Wp rfl <| st_eql rfl rfl <| aB rfl <| en <| x_cond rfl (fun h7 => ?_) (fun h7 => ?_)
        ·try simp only [nm, ne_eq] at h7
         have hc0 : byte w 0 = 92 := u8_eq h7 rfl
         have hn3 := back_le hw hn hc0
         refine x_seq <| sr rfl <| mS rfl <| mI rfl <| Wp rfl <| st_sslice (i := 1) (j := n) T.u9 rfl ⟨_, rfl⟩ ⟨_, rfl⟩ (by omega) (by omega) <| Wp rfl <| st_call (ags := [_, _]) rfl rfl T.ent30 rfl (TrimPrefix_spec ((w.take n).drop 1) [10] _) ?_
         rintro _ w230 ⟨rfl, c231⟩
         replace HC := HC.then c231
         replace ht := ht.tr0 c231
         replace hb4 := hb4.tr0 c231
         replace hb8 := hb8.tr0 c231
         refine aS rfl <| en <| sr rfl <| mS rfl <| Wp rfl <| st_sneq rfl rfl <| en <| x_cond rfl (fun h8 => ?_) (fun h8 => ?_)
         ·try simp only [nm, ne_eq] at h8
          have htp := (trim_one (x := (w.take n).drop 1) (by simp only [List.length_drop, List.length_take]; omega)).resolve_left (fun h => h8 h.1)
          rw [htp.1]
          refine sr rfl <| mS rfl <| mI rfl <| Wp rfl <| st_call (ags := [_, _, _]) rfl rfl T.ent60 rfl (text_spec ((w.take n).drop 1) true n _) ?_
          have lt1_hsl_b2 := hb4.lt
          have lt1_hsl_b4 := hb8.lt
          have sz1_hsl := HC.size
          rintro _ w232 ⟨A, cap, rfl, hsl, c233⟩
          replace HC := HC.then c233
          replace ht := ht.tr0 c233
          replace hb4 := hb4.tr0 c233
          replace hb8 := hb8.tr0 c233
          refine Wp rfl <| st_store (v := .agg ⟨[.slice _ _ _, .int _ _]⟩) T.size78 rfl rfl rfl hb8 rfl (Nat.le_of_ble_eq_true rfl) (by simp [Value.oneCell', S]) rfl ?_
          intro w234 c235 hb236; simp only [setVs, setV] at hb236
          clear hb8
          replace HC := HC.then1 c235 ge_b4
          replace ht := ht.tr c235 (by intro hx; have := ht.lt; have := ht1; simp only [List.mem_cons, List.mem_nil_iff, or_false] at hx; omega)
          replace hb4 := hb4.tr1 c235 ne_b2_b4
          replace hsl := hsl.tr c235 (by intro k hx hD; simp only [List.mem_singleton] at hx; subst hx; omega)
          refine aI rfl <| en <| x_ret <| then_r <| block_r <| then_r <| ret_many (vs := [.agg ⟨[_, _]⟩, .int _ _]) rfl ⟨⟨_, _, rfl, run_loadVarA T.agg78 (hb236.cells (n := 2) rfl) rfl⟩, ⟨rfl, trivial⟩⟩ (Nat.le_of_ble_eq_true rfl) <| (?_ : PieceT _ _ _ _ _ _)
          rw [nextP_ok hA hB hn, if_neg hc3, if_neg hc4, if_neg hc5, if_pos hc0, if_neg htp.2]
          exact ⟨_, _, rfl, (hsl.mono (fun k _ h => Nat.le_trans sz1_hsl h)), HC⟩
         ·try simp only [nm, ne_eq] at h8
          have htp : (w.take n).drop 1 = [10] ∨ (w.take n).drop 1 = [] := by rcases trim_one (x := (w.take n).drop 1) (by simp only [List.length_drop, List.length_take]; omega) with h | h; exact h.2; exact .inr (h.1.symm.trans (by first | assumption | simpa using h8))
          refine x_skip <| then_n <| sr rfl <| mI rfl <| Wp rfl <| st_bld (ps := [(1, .tmp 97)]) (vs := [.slice _ _ _, .int _ _]) T.bld78 rfl <| Wp rfl <| st_store (v := .agg ⟨[.slice _ _ _, .int _ _]⟩) T.size78 rfl rfl rfl hb8 rfl (Nat.le_of_ble_eq_true rfl) (by simp [Value.oneCell', S]) rfl ?_
          intro w237 c238 hb239; simp only [setVs, setV] at hb239
          clear hb8
          replace HC := HC.then1 c238 ge_b4
          replace ht := ht.tr c238 (by intro hx; have := ht.lt; have := ht1; simp only [List.mem_cons, List.mem_nil_iff, or_false] at hx; omega)
          replace hb4 := hb4.tr1 c238 ne_b2_b4
          refine aI rfl <| en <| x_ret <| block_r <| then_r <| ret_many (vs := [.agg ⟨[_, _]⟩, .int _ _]) rfl ⟨⟨_, _, rfl, run_loadVarA T.agg78 (hb239.cells (n := 2) rfl) rfl⟩, ⟨rfl, trivial⟩⟩ (Nat.le_of_ble_eq_true rfl) <| (?_ : PieceT _ _ _ _ _ _)
          rw [nextP_ok hA hB hn, if_neg hc3, if_neg hc4, if_neg hc5, if_pos hc0, if_pos htp]
          exact ⟨none, 0, rfl, .nil, HC⟩
        ·try simp only [nm, ne_eq] at h7
         have hc7 : byte w 0 ≠ 92 := fun e => h7 (by rw [e]; rfl)
         have hc96 : byte w 0 = 96 := Decidable.byContradiction fun h => hB ⟨hc3, h, .inr ⟨hc4, hc5, hc7⟩⟩
         have hn3 := two_le hw hn (.inr (.inr hc96))
         have hs1 : IntKind.i64.wrap ((n : Int) - 1) = ((n - 1 : Nat) : Int) := by rw [wrap64_id (by omega) (by omega)]; omega
         refine x_skip <| block_n <| then_n <| x_seq <| x_draw [(0, 0), (1, 0), (2, 0), (3, 0), (4, 0), (5, 0), (6, 1), (7, 1), (8, 0)] T.mixed rfl rfl rfl (fun W => W.heap[b2]? = w208.heap[b2]? ∧ True) ⟨rfl, trivial⟩ ?_
         have o242 := hb4
         have c241 := Chg.drew w208
         generalize World.drew w208 = w240 at c241 ⊢
         replace HC := HC.then c241
         replace ht := ht.tr0 c241
         replace hb4 := hb4.tr0 c241
         replace hb8 := hb8.tr0 c241
         refine sq_q rfl (fun W hT => r_loadA (vs := [_]) T.agg46 rfl (Blk.cells (n := 1) (vs := [_]) (show Blk W b2 _ _ from hT.1.trans o242) rfl) rfl) <| sq_q rfl (fun W hT => r_move (v := S _) rfl) <| sq_q rfl (fun W hT => r_move (v := .int _ _) rfl) <| sq_q rfl (fun W hT => r_subk rfl rfl (by exact hs1)) <| sq_q rfl (fun W hT => r_sslice (i := 1) (j := n - 1) T.u9 rfl ⟨_, rfl⟩ ⟨_, rfl⟩ (by omega) (by omega)) <| sq_q rfl (fun W hT => r_move (v := .int _ _) rfl) <| sq_call1 rfl (r_call (ags := [_, _, _]) rfl rfl T.ent62 rfl) (ticked_spec m ((w.take (n - 1)).drop 1) n _ (by simp only [List.length_drop, List.length_take]; omega)) ?_
         have lt1_hsl_b2 := hb4.lt
         have lt1_hsl_b4 := hb8.lt
         have sz1_hsl := HC.size
         rintro _ w243 ⟨A, cap, rfl, hsl, c244⟩
         replace HC := HC.then c244
         replace ht := ht.tr0 c244
         replace hb4 := hb4.tr0 c244
         replace hb8 := hb8.tr0 c244
         refine ⟨_, fun _ h => h, ⟨(Eq.trans hb4 o242.symm), trivial⟩, ?_⟩
         refine sq_store1 rfl T.size78 (v := .agg ⟨[.slice _ _ _, .int _ _]⟩) rfl rfl rfl hb8 rfl (Nat.le_of_ble_eq_true rfl) (by simp [Value.oneCell', S]) rfl ?_
         intro w245 c246 hb247; simp only [setVs, setV] at hb247
         clear hb8
         replace HC := HC.then1 c246 ge_b4
         replace ht := ht.tr c246 (by intro hx; have := ht.lt; have := ht1; simp only [List.mem_cons, List.mem_nil_iff, or_false] at hx; omega)
         replace hb4 := hb4.tr1 c246 ne_b2_b4
         replace hsl := hsl.tr c246 (by intro k hx hD; simp only [List.mem_singleton] at hx; subst hx; omega)
         refine ⟨_, fun _ h => h, ⟨(Eq.trans hb4 o242.symm), trivial⟩, ?_⟩
         refine sq_q rfl (fun W hT => r_assign (v := .int _ _) rfl) ?_
         clear o242
         refine sq_nil <| then_n <| x_ret <| ret_many (vs := [.agg ⟨[_, _]⟩, .int _ _]) rfl ⟨⟨_, _, rfl, run_loadVarA T.agg78 (hb247.cells (n := 2) rfl) rfl⟩, ⟨rfl, trivial⟩⟩ (Nat.le_of_ble_eq_true rfl) <| (?_ : PieceT _ _ _ _ _ _)
         rw [nextP_ok hA hB hn, if_neg hc3, if_neg hc4, if_neg hc5, if_neg hc7]
         exact ⟨_, _, rfl, (hsl.mono (fun k _ h => Nat.le_trans sz1_hsl h)), HC⟩
   ·refine x_region rfl <| mS rfl <| Wp rfl <| st_call (ags := [_, _]) rfl rfl T.ent27 rfl (Skip_err w _ hs hw he) ?_
    rintro _ w248 ⟨rfl, c249⟩
    replace HC := HC.then c249
    replace ht := ht.tr0 c249
    replace hb4 := hb4.tr0 c249
    replace hb8 := hb8.tr0 c249
    refine mv (v := .tuple ⟨[_, _]⟩) rfl <| Wp rfl <| st_extract (vs := [_, _]) (v := .int _ _) rfl rfl <| Wp rfl <| st_extract (vs := [_, _]) (v := .int _ _) rfl rfl <| aI rfl <| aI rfl <| en <| x_seq <| sr rfl <| mI rfl <| Wp rfl <| st_neq rfl rfl <| en <| x_cond rfl (fun h2 => ?_) (fun h2 => ?_)
    ·try simp only [nm, ne_eq] at h2
     refine sr rfl <| Wp rfl <| st_bld (ps := []) (vs := [.slice _ _ _, .int _ _]) T.bld78 rfl <| mI rfl <| Wp rfl <| st_store (v := .agg ⟨[.slice _ _ _, .int _ _]⟩) T.size78 rfl rfl rfl hb8 rfl (Nat.le_of_ble_eq_true rfl) (by simp [Value.oneCell', S]) rfl ?_
     intro w250 c251 hb252; simp only [setVs, setV] at hb252
     clear hb8
     replace HC := HC.then1 c251 ge_b4
     replace ht := ht.tr c251 (by intro hx; have := ht.lt; have := ht1; simp only [List.mem_cons, List.mem_nil_iff, or_false] at hx; omega)
     replace hb4 := hb4.tr1 c251 ne_b2_b4
     refine aI rfl <| en <| x_ret <| then_r <| ret_many (vs := [.agg ⟨[_, _]⟩, .int _ _]) rfl ⟨⟨_, _, rfl, run_loadVarA T.agg78 (hb252.cells (n := 2) rfl) rfl⟩, ⟨rfl, trivial⟩⟩ (Nat.le_of_ble_eq_true rfl) <| (?_ : PieceT _ _ _ _ _ _)
     rw [nextP_err hA hB he]
     exact ⟨none, 0, rfl, .nil, HC⟩
    ·try simp only [nm, ne_eq] at h2
     exfalso; first | omega | simp_all

end Go.Proofs.YtiiahnpgomdfmaaDoor.K
