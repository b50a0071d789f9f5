/- The document's next. -/
import Derived.Test.YtiiahnpgomdfmaaDoorQe
set_option linter.unusedVariables false
set_option linter.unusedSimpArgs false
set_option autoImplicit false
set_option maxRecDepth 20000
namespace Go.Proofs.YtiiahnpgomdfmaaDoor.K
open Go Go.Proofs Go.RowKit

theorem hasP2 {s : Bytes} {c d : UInt8} : Lib.hasPrefix s [c, d] = true ↔ 1 < s.length ∧ byte s 0 = c ∧ byte s 1 = d := by
  constructor
  · intro h; have := two_of (j := 0) (s := s) (by simpa using h); simpa using this
  · rintro ⟨h1, h2, h3⟩; have := two_yes (j := 0) (s := s) (by simpa using h1) h2 (by simpa using h3); simpa using this
theorem back_eq {m : Int} {w : Bytes} (hw : w ≠ []) (h : byte w 0 = 92) : backV m w = ((if (bkV m w).1 = [] then [] else [txtP (bkV m w).1 true]), (bkV m w).2) := by
  have h1 : w.take 1 = [92] := by
    match w, hw with
    | c :: t, _ => have e : c = 92 := h; subst e; rfl
  unfold backV bkV
  by_cases hA : 1 < w.length ∧ byte w 1 = 10
  · rw [if_pos (hasP2.2 ⟨hA.1, h, hA.2⟩), if_pos hA]; rfl
  · rw [if_neg (fun e => hA ⟨(hasP2.1 e).1, (hasP2.1 e).2.2⟩), if_neg hA]
    by_cases hB : 1 < w.length ∧ (byte w 1 = 36 ∨ byte w 1 = 92 ∨ byte w 1 = 96 ∨ (m = 1 ∧ byte w 1 = 34))
    · rw [if_pos hB, if_pos hB]
      have h2 : (w.take 2).drop 1 ≠ [] := fun e => by have := congrArg List.length e; simp only [List.length_drop, List.length_take, List.length_nil] at this; omega
      simp only [if_neg h2]
    · rw [if_neg hB, if_neg hB]; simp only [h1]; rfl
/-- What a word begins with, told by the document. -/
def RNext (w w' : World) (r : List Prt × Nat × Int) (v : Value) : Prop := ∃ l A cap, v = .tuple ⟨[.slice A (l : List Prt).length cap, .int .i64 (r.2.1 : Int), .int .i64 r.2.2]⟩ ∧ (r.2.2 = 0 → l = r.1) ∧ Sl prtE w' (fun k => w.heap.size ≤ k) A l ∧ Chg [] w w'

theorem rnext_spec (m : Int) (pq : Bytes → List Prt × Int) (w : Bytes) (w0 : World) (hs : w.length < 4294967281) (hw : w ≠ []) (hP : m = 0 → ∀ (s' : Bytes) (W : World), s'.length < w.length → CallR Tryd.prog 10 #[S s', .int .i64 1] W fun v W' => ∃ A cap, v = .tuple ⟨[.slice A (pq s').1.length cap, .int .i64 (pq s').2]⟩ ∧ Sl prtE W' (fun k => W.heap.size ≤ k) A (pq s').1 ∧ Chg [] W W') : CallR Tryd.prog 19 #[S w, .int .i64 m] w0 fun v w' => RNext w0 w' (nextP pq m w) v := by
 refine callR_of_wp (args := [_, _]) Tryd.func19 rfl (Nat.le_of_ble_eq_true rfl) ?_
 have HC : Chg [] w0 w0 := .refl _
 have hwp := List.length_pos_iff.2 hw
 refine sr rfl <| aL rfl <| aI rfl <| aI rfl <| en <| sr rfl <| mI rfl <| Wp rfl <| st_neq rfl rfl <| aB rfl <| en <| sr rfl <| mS rfl <| Wp rfl <| st_sidx T.u9 rfl rfl (by decide) (by omega) <| aI rfl <| en <| x_seq <| sr rfl <| mB rfl <| mB rfl <| w_split (d := 23) rfl (fun g1 => ?_) (fun g1 => ?_)
 ·try simp only [nm, ne_eq] at g1
  refine w_yes 1 23 true <| st_move (v := .int _ _) rfl <| w_yes 1 23 true <| st_eql rfl rfl <| pT rfl rfl <| en <| x_cond rfl (fun h0 => ?_) (fun h0 => ?_)
  ·try simp only [nm, ne_eq] at h0
   have hA : byte w 0 = 92 ∧ (!decide (m = 0)) = true := ⟨u8_eq (by first | assumption | simp_all) rfl, by first | assumption | simp_all⟩
   refine sr rfl <| mS rfl <| mI rfl <| Wp rfl <| st_call (ags := [_, _]) rfl rfl T.ent35 rfl (rback_spec w m _ hs hw) ?_
   rintro _ w2 ⟨rfl, c3⟩
   replace HC := HC.then c3
   refine mv (v := .tuple ⟨[_, _]⟩) rfl <| Wp rfl <| st_extract (vs := [_, _]) (v := S _) rfl rfl <| Wp rfl <| st_extract (vs := [_, _]) (v := .int _ _) rfl rfl <| aS rfl <| aI rfl <| en <| x_seq <| sr rfl <| mS rfl <| Wp rfl <| st_seql rfl rfl <| en <| x_cond rfl (fun h1 => ?_) (fun h1 => ?_)
   ·try simp only [nm, ne_eq] at h1
    refine sr rfl <| mI rfl <| aL rfl <| aI rfl <| aI rfl <| en <| x_ret <| then_r <| then_r <| ret_tmp3 (v := .slice _ _ _) (v2 := .int _ _) (v3 := .int _ _) rfl rfl rfl rfl ?_
    rw [nextP_back hA, back_eq hw hA.1, if_pos (by first | assumption | simp_all)]
    exact ⟨[], none, 0, rfl, fun _ => rfl, .nil, HC⟩
   ·try simp only [nm, ne_eq] at h1
    refine x_skip <| then_n <| sr rfl <| mS rfl <| Wp rfl <| st_call (ags := [_, _]) rfl rfl T.ent36 rfl (rtext_spec _ true _) ?_
    rintro _ w4 ⟨rfl, c5⟩
    replace HC := HC.then c5
    refine Wp rfl <| st_lit (ps := [(0, .tmp 37)]) (vs := [.int _ _, S _, S _, S _, S _, .bool _]) T.lit23 (by decide) rfl (by simp only [List.forall_mem_cons, List.not_mem_nil, false_imp_iff, implies_true, and_true]; exact rfl) rfl ?_
    intro b6 w7 e8 c9 hb10
    have ge_b6 : w0.heap.size ≤ b6 := by rw [e8]; exact HC.size
    replace HC := HC.then c9
    clear e8
    refine mI rfl <| aL rfl <| aI rfl <| aI rfl <| en <| x_ret <| then_r <| ret_tmp3 (v := .slice _ _ _) (v2 := .int _ _) (v3 := .int _ _) rfl rfl rfl rfl ?_
    rw [nextP_back hA, back_eq hw hA.1, if_neg (by first | assumption | simp_all)]
    exact ⟨[txtP (bkV m w).1 true], some ⟨b6, 0, none⟩, 1, rfl, fun _ => rfl, sl_one (T := 33) hb10 ge_b6, HC⟩
  ·try simp only [nm, ne_eq] at h0
   have hA : ¬ (byte w 0 = 92 ∧ (!decide (m = 0)) = true) := by rintro ⟨h8, h9⟩; have h10 : ((byte w 0).toNat : Int) = 92 := (by rw [h8]; rfl); first | omega | simp_all
   refine x_skip <| then_n <| x_seq <| sr rfl <| mI rfl <| Wp rfl <| st_eql rfl rfl <| en <| x_cond rfl (fun h2 => ?_) (fun h2 => ?_)
   ·try simp only [nm, ne_eq] at h2
    have hc0 : byte w 0 = 36 := u8_eq (by first | assumption | simp_all) rfl
    have hB : ¬ (byte w 0 ≠ 36 ∧ byte w 0 ≠ 96 ∧ ((!decide (m = 0)) = true ∨ (byte w 0 ≠ 39 ∧ byte w 0 ≠ 34 ∧ byte w 0 ≠ 92))) := fun h => h.1 hc0
    refine x_seq ?_
    rcases skip_cases w hw with ⟨n, hn, hn1, hn2⟩ | ⟨e, he, he0⟩
    ·refine x_region rfl <| mS rfl <| mB rfl <| Wp rfl <| st_call (ags := [_, _]) rfl rfl T.ent37 rfl (rdollar_spec w _ _ hs hw hc0 hn hn1 hn2) ?_
     rintro _ w11 ⟨rfl, c12⟩
     replace HC := HC.then c12
     refine mv (v := .tuple ⟨[_, _, _]⟩) rfl <| Wp rfl <| st_extract (vs := [_, _, _]) (v := .agg ⟨[.int _ _, S _, S _, S _, S _, .bool _]⟩) rfl rfl <| Wp rfl <| st_extract (vs := [_, _, _]) (v := .int _ _) rfl rfl <| Wp rfl <| st_extract (vs := [_, _, _]) (v := .int _ _) rfl rfl <| Wp rfl <| st_alloc T.zero33 ?_
     intro b11 w13 e14 c15 hb16
     have ge_b11 : w0.heap.size ≤ b11 := by rw [e14]; exact HC.size
     replace HC := HC.then c15
     clear e14
     refine Wp rfl <| st_store (v := .agg ⟨[.int _ _, S _, S _, S _, S _, .bool _]⟩) T.size33 rfl rfl rfl hb16 rfl (Nat.le_of_ble_eq_true rfl) (by simp [Value.oneCell', S]) rfl ?_
     intro w17 c18 hb19; simp only [setVs, setV] at hb19
     clear hb16
     replace HC := HC.then1 c18 ge_b11
     refine aI rfl <| aI rfl <| en <| sr rfl <| Wp rfl <| st_loadA (vs := [_, _, _, _, _, _]) T.agg33 rfl (hb19.cells (n := 6) (vs := [_, _, _, _, _, _]) rfl) rfl <| Wp rfl <| st_lit (ps := [(0, .tmp 49)]) (vs := [.int _ _, S _, S _, S _, S _, .bool _]) T.lit23 (by decide) rfl (by simp only [List.forall_mem_cons, List.not_mem_nil, false_imp_iff, implies_true, and_true]; exact rfl) rfl ?_
     intro b20 w21 e22 c23 hb24
     have ge_b20 : w0.heap.size ≤ b20 := by rw [e22]; exact HC.size
     have ne_b11_b20 : b11 ≠ b20 := by rw [e22]; exact hb19.ne_size
     replace HC := HC.then c23
     replace hb19 := hb19.tr0 c23
     clear e22
     refine mI rfl <| mI rfl <| aL rfl <| aI rfl <| aI rfl <| en <| x_ret <| then_r <| ret_tmp3 (v := .slice _ _ _) (v2 := .int _ _) (v3 := .int _ _) rfl rfl rfl rfl ?_
     rw [nextP_ok hA hB hn, if_pos hc0]
     exact ⟨[(dollarV (!decide (m = 0)) w n).1], some ⟨b20, 0, none⟩, 1, rfl, fun _ => rfl, sl_one (T := 33) hb24 ge_b20, HC⟩
    ·refine x_region rfl <| mS rfl <| mB rfl <| Wp rfl <| st_call (ags := [_, _]) rfl rfl T.ent37 rfl (rdollar_err w _ _ hs hw he he0) ?_
     rintro _ w25 ⟨rfl, c26⟩
     replace HC := HC.then c26
     refine mv (v := .tuple ⟨[_, _, _]⟩) rfl <| Wp rfl <| st_extract (vs := [_, _, _]) (v := .agg ⟨[.int _ _, S _, S _, S _, S _, .bool _]⟩) rfl rfl <| Wp rfl <| st_extract (vs := [_, _, _]) (v := .int _ _) rfl rfl <| Wp rfl <| st_extract (vs := [_, _, _]) (v := .int _ _) rfl rfl <| Wp rfl <| st_alloc T.zero33 ?_
     intro b11 w27 e28 c29 hb30
     have ge_b11 : w0.heap.size ≤ b11 := by rw [e28]; exact HC.size
     replace HC := HC.then c29
     clear e28
     refine Wp rfl <| st_store (v := .agg ⟨[.int _ _, S _, S _, S _, S _, .bool _]⟩) T.size33 rfl rfl rfl hb30 rfl (Nat.le_of_ble_eq_true rfl) (by simp [Value.oneCell', S]) rfl ?_
     intro w31 c32 hb33; simp only [setVs, setV] at hb33
     clear hb30
     replace HC := HC.then1 c32 ge_b11
     refine aI rfl <| aI rfl <| en <| sr rfl <| Wp rfl <| st_loadA (vs := [_, _, _, _, _, _]) T.agg33 rfl (hb33.cells (n := 6) (vs := [_, _, _, _, _, _]) rfl) rfl <| Wp rfl <| st_lit (ps := [(0, .tmp 49)]) (vs := [.int _ _, S _, S _, S _, S _, .bool _]) T.lit23 (by decide) rfl (by simp only [List.forall_mem_cons, List.not_mem_nil, false_imp_iff, implies_true, and_true]; exact rfl) rfl ?_
     intro b34 w35 e36 c37 hb38
     have ge_b34 : w0.heap.size ≤ b34 := by rw [e36]; exact HC.size
     have ne_b11_b34 : b11 ≠ b34 := by rw [e36]; exact hb33.ne_size
     replace HC := HC.then c37
     replace hb33 := hb33.tr0 c37
     clear e36
     refine mI rfl <| mI rfl <| aL rfl <| aI rfl <| aI rfl <| en <| x_ret <| then_r <| ret_tmp3 (v := .slice _ _ _) (v2 := .int _ _) (v3 := .int _ _) rfl rfl rfl rfl ?_
     rw [nextP_err hA hB he]
     exact ⟨[nilP], some ⟨b34, 0, none⟩, 1, rfl, (fun h => absurd h (Int.natCast_ne_zero.2 he0)), sl_one (T := 33) hb38 ge_b34, HC⟩
   ·try simp only [nm, ne_eq] at h2
    have hc36 : byte w 0 ≠ 36 := fun e => by have h8 : ((byte w 0).toNat : Int) = 36 := (by rw [e]; rfl); first | exact h2 h8 | omega | simp_all
    refine x_skip <| then_n <| x_seq <| sr rfl <| mI rfl <| Wp rfl <| st_neq rfl rfl <| mB rfl <| w_split (d := 55) rfl (fun g39 => ?_) (fun g39 => ?_)
    ·try simp only [nm, ne_eq] at g39
     refine w_yes 2 55 true <| st_move (v := .bool _) rfl <| w_yes 2 55 true <| st_move (v := .bool _) rfl <| w_split (d := 57) rfl (fun g40 => ?_) (fun g40 => ?_)
     ·try simp only [nm, ne_eq] at g40
      iterate 3 refine w_no 4 57 false ?_
      refine w_no 7 60 true <| w_no 7 60 true <| w_no 4 57 false <| w_no 4 57 false <| w_no 11 64 true <| w_no 11 64 true <| w_no 4 57 false <| w_yes 2 55 true <| st_pick (b := true) (v := .bool _) rfl rfl <| pT rfl rfl <| en <| x_cond (t := true) rfl (fun h3 => ?_) (fun h3 => ?_)
      rotate_left
      · exact absurd h3 (by decide)
      have hB1 : byte w 0 ≠ 36 ∧ byte w 0 ≠ 96 ∧ ((!decide (m = 0)) = true ∨ (byte w 0 ≠ 39 ∧ byte w 0 ≠ 34 ∧ byte w 0 ≠ 92)) := ⟨hc36, (fun e => by have h8 : ((byte w 0).toNat : Int) = 96 := (by rw [e]; rfl); first | omega | simp_all), by first | (left; assumption) | (left; simp_all; done) | (right; exact ⟨fun e => by have h8 : ((byte w 0).toNat : Int) = 39 := (by rw [e]; rfl); first | omega | simp_all, fun e => by have h8 : ((byte w 0).toNat : Int) = 34 := (by rw [e]; rfl); first | omega | simp_all, fun e => by have h8 : ((byte w 0).toNat : Int) = 92 := (by rw [e]; rfl); first | omega | simp_all⟩)⟩
      refine sr rfl <| mS rfl <| Wp rfl <| st_sshi (j := 1) T.u9 rfl ⟨_, rfl⟩ (by omega) <| mB rfl <| Wp rfl <| st_call (ags := [_, _]) rfl rfl T.ent36 rfl (rtext_spec (w.take 1) _ _) ?_
      rintro _ w41 ⟨rfl, c42⟩
      replace HC := HC.then c42
      refine Wp rfl <| st_lit (ps := [(0, .tmp 73)]) (vs := [.int _ _, S _, S _, S _, S _, .bool _]) T.lit23 (by decide) rfl (by simp only [List.forall_mem_cons, List.not_mem_nil, false_imp_iff, implies_true, and_true]; exact rfl) rfl ?_
      intro b43 w44 e45 c46 hb47
      have ge_b43 : w0.heap.size ≤ b43 := by rw [e45]; exact HC.size
      replace HC := HC.then c46
      clear e45
      refine aL rfl <| aI rfl <| aI rfl <| en <| x_ret <| then_r <| ret_tmp3 (v := .slice _ _ _) (v2 := .int _ _) (v3 := .int _ _) rfl rfl rfl rfl ?_
      rw [nextP_one hA hB1]
      exact ⟨[txtP (w.take 1) (!decide (m = 0))], some ⟨b43, 0, none⟩, 1, rfl, fun _ => rfl, sl_one (T := 33) hb47 ge_b43, HC⟩
     ·try simp only [nm, ne_eq] at g40
      refine w_yes 4 57 false <| st_move (v := .int _ _) rfl <| w_yes 4 57 false <| st_neq rfl rfl <| w_yes 4 57 false <| st_move (v := .bool _) rfl <| w_split (d := 60) rfl (fun g48 => ?_) (fun g48 => ?_)
      ·try simp only [nm, ne_eq] at g48
       refine w_yes 7 60 true <| st_move (v := .int _ _) rfl <| w_yes 7 60 true <| st_neq rfl rfl <| w_yes 4 57 false <| st_pick (b := true) (v := .bool _) rfl rfl <| w_yes 4 57 false <| st_move (v := .bool _) rfl <| w_split (d := 64) rfl (fun g49 => ?_) (fun g49 => ?_)
       ·try simp only [nm, ne_eq] at g49
        refine w_yes 11 64 true <| st_move (v := .int _ _) rfl <| w_yes 11 64 true <| st_neq rfl rfl <| w_yes 4 57 false <| st_pick (b := true) (v := .bool _) rfl rfl <| w_yes 2 55 true <| st_pick (b := false) (v := .bool _) rfl rfl <| pT rfl rfl <| en <| x_cond rfl (fun h3 => ?_) (fun h3 => ?_)
        ·try simp only [nm, ne_eq] at h3
         have hB1 : byte w 0 ≠ 36 ∧ byte w 0 ≠ 96 ∧ ((!decide (m = 0)) = true ∨ (byte w 0 ≠ 39 ∧ byte w 0 ≠ 34 ∧ byte w 0 ≠ 92)) := ⟨hc36, (fun e => by have h8 : ((byte w 0).toNat : Int) = 96 := (by rw [e]; rfl); first | omega | simp_all), by first | (left; assumption) | (left; simp_all; done) | (right; exact ⟨fun e => by have h8 : ((byte w 0).toNat : Int) = 39 := (by rw [e]; rfl); first | omega | simp_all, fun e => by have h8 : ((byte w 0).toNat : Int) = 34 := (by rw [e]; rfl); first | omega | simp_all, fun e => by have h8 : ((byte w 0).toNat : Int) = 92 := (by rw [e]; rfl); first | omega | simp_all⟩)⟩
         refine sr rfl <| mS rfl <| Wp rfl <| st_sshi (j := 1) T.u9 rfl ⟨_, rfl⟩ (by omega) <| mB rfl <| Wp rfl <| st_call (ags := [_, _]) rfl rfl T.ent36 rfl (rtext_spec (w.take 1) _ _) ?_
         rintro _ w50 ⟨rfl, c51⟩
         replace HC := HC.then c51
         refine Wp rfl <| st_lit (ps := [(0, .tmp 73)]) (vs := [.int _ _, S _, S _, S _, S _, .bool _]) T.lit23 (by decide) rfl (by simp only [List.forall_mem_cons, List.not_mem_nil, false_imp_iff, implies_true, and_true]; exact rfl) rfl ?_
         intro b52 w53 e54 c55 hb56
         have ge_b52 : w0.heap.size ≤ b52 := by rw [e54]; exact HC.size
         replace HC := HC.then c55
         clear e54
         refine aL rfl <| aI rfl <| aI rfl <| en <| x_ret <| then_r <| ret_tmp3 (v := .slice _ _ _) (v2 := .int _ _) (v3 := .int _ _) rfl rfl rfl rfl ?_
         rw [nextP_one hA hB1]
         exact ⟨[txtP (w.take 1) (!decide (m = 0))], some ⟨b52, 0, none⟩, 1, rfl, fun _ => rfl, sl_one (T := 33) hb56 ge_b52, HC⟩
        ·try simp only [nm, ne_eq] at h3
         have hB : ¬ (byte w 0 ≠ 36 ∧ byte w 0 ≠ 96 ∧ ((!decide (m = 0)) = true ∨ (byte w 0 ≠ 39 ∧ byte w 0 ≠ 34 ∧ byte w 0 ≠ 92))) := by rintro ⟨q1, q2, q3⟩; have z1 : ((byte w 0).toNat : Int) ≠ 96 := (fun e => q2 (u8_eq e rfl)); rcases q3 with q3 | ⟨q4, q5, q6⟩; (first | omega | simp_all); (have z2 : ((byte w 0).toNat : Int) ≠ 39 := (fun e => q4 (u8_eq e rfl)); have z3 : ((byte w 0).toNat : Int) ≠ 34 := (fun e => q5 (u8_eq e rfl)); have z4 : ((byte w 0).toNat : Int) ≠ 92 := (fun e => q6 (u8_eq e rfl)); first | omega | simp_all)
         refine x_skip <| then_n <| x_seq ?_
         rcases skip_cases w hw with ⟨n, hn, hn1, hn2⟩ | ⟨e, he, he0⟩
         ·refine x_region rfl <| mS rfl <| Wp rfl <| st_call (ags := [_, _]) rfl rfl T.ent38 rfl (RSk_ok w _ hs hw hn) ?_
          rintro _ w57 ⟨rfl, c58⟩
          replace HC := HC.then c58
          refine mv (v := .tuple ⟨[_, _]⟩) rfl <| Wp rfl <| st_extract (vs := [_, _]) (v := .int _ _) rfl rfl <| Wp rfl <| st_extract (vs := [_, _]) (v := .int _ _) rfl rfl <| aI rfl <| aI rfl <| en <| x_seq <| sr rfl <| mI rfl <| Wp rfl <| st_neq rfl rfl <| en <| x_cond rfl (fun h4 => ?_) (fun h4 => ?_)
          ·try simp only [nm, ne_eq] at h4
           first | exact absurd rfl h4 | exact absurd trivial h4 | (simp at h4; done)
          ·try simp only [nm, ne_eq] at h4
           refine x_skip <| then_n <| x_seq <| sr rfl <| mI rfl <| en <| x_block <| sr rfl <| Wp rfl <| st_eql rfl rfl <| aB rfl <| en <| x_cond rfl (fun h5 => ?_) (fun h5 => ?_)
           ·try simp only [nm, ne_eq] at h5
            have hc0 : byte w 0 = 96 := u8_eq (by first | assumption | simp_all) rfl
            have hn3 := two_le hw hn (.inr (.inr hc0))
            have hs1 : IntKind.i64.wrap ((n : Int) - 1) = ((n - 1 : Nat) : Int) := by rw [wrap64_id (by omega) (by omega)]; omega
            refine sr rfl <| mS rfl <| mI rfl <| Wp rfl <| st_subk rfl rfl (by exact hs1) <| Wp rfl <| st_sslice (i := 1) (j := n - 1) T.u9 rfl ⟨_, rfl⟩ ⟨_, rfl⟩ (by omega) (by omega) <| Wp rfl <| st_call (ags := [_]) rfl rfl T.ent39 rfl (unticked_spec ((w.take (n - 1)).drop 1) _ (by simp only [List.length_drop, List.length_take]; omega)) ?_
            rintro _ w59 ⟨rfl, c60⟩
            replace HC := HC.then c60
            refine mB rfl <| Wp rfl <| st_bld (ps := [(0, .const (.int .i64 2)), (1, .tmp 90), (5, .tmp 91)]) (vs := [.int _ _, S _, S _, S _, S _, .bool _]) T.bld33 rfl <| Wp rfl <| st_lit (ps := [(0, .tmp 92)]) (vs := [.int _ _, S _, S _, S _, S _, .bool _]) T.lit23 (by decide) rfl (by simp only [List.forall_mem_cons, List.not_mem_nil, false_imp_iff, implies_true, and_true]; exact rfl) rfl ?_
            intro b61 w62 e63 c64 hb65
            have ge_b61 : w0.heap.size ≤ b61 := by rw [e63]; exact HC.size
            replace HC := HC.then c64
            clear e63
            refine mI rfl <| aL rfl <| aI rfl <| aI rfl <| en <| x_ret <| block_r <| then_r <| ret_tmp3 (v := .slice _ _ _) (v2 := .int _ _) (v3 := .int _ _) rfl rfl rfl rfl ?_
            rw [nextP_ok hA hB hn, if_neg hc36, if_neg (by rw [hc0]; decide), if_neg (by rw [hc0]; decide), if_neg (by rw [hc0]; decide)]
            exact ⟨[(⟨2, untick ((w.take (n - 1)).drop 1), [], [], [], (!decide (m = 0))⟩ : Prt)], some ⟨b61, 0, none⟩, 1, rfl, fun _ => rfl, sl_one (T := 33) hb65 ge_b61, HC⟩
           ·try simp only [nm, ne_eq] at h5
            have hc96 : byte w 0 ≠ 96 := fun e => by have h8 : ((byte w 0).toNat : Int) = 96 := (by rw [e]; rfl); first | exact h5 h8 | omega | simp_all
            refine sr rfl <| Wp rfl <| st_eql rfl rfl <| aB rfl <| en <| x_cond rfl (fun h6 => ?_) (fun h6 => ?_)
            ·try simp only [nm, ne_eq] at h6
             have hc0 : byte w 0 = 39 := u8_eq (by first | assumption | simp_all) rfl
             have hn3 := two_le hw hn (.inl hc0)
             have hs1 : IntKind.i64.wrap ((n : Int) - 1) = ((n - 1 : Nat) : Int) := by rw [wrap64_id (by omega) (by omega)]; omega
             refine sr rfl <| mS rfl <| mI rfl <| Wp rfl <| st_subk rfl rfl (by exact hs1) <| Wp rfl <| st_sslice (i := 1) (j := n - 1) T.u9 rfl ⟨_, rfl⟩ ⟨_, rfl⟩ (by omega) (by omega) <| Wp rfl <| st_call (ags := [_, _]) rfl rfl T.ent36 rfl (rtext_spec _ true _) ?_
             rintro _ w66 ⟨rfl, c67⟩
             replace HC := HC.then c67
             refine Wp rfl <| st_lit (ps := [(0, .tmp 101)]) (vs := [.int _ _, S _, S _, S _, S _, .bool _]) T.lit23 (by decide) rfl (by simp only [List.forall_mem_cons, List.not_mem_nil, false_imp_iff, implies_true, and_true]; exact rfl) rfl ?_
             intro b68 w69 e70 c71 hb72
             have ge_b68 : w0.heap.size ≤ b68 := by rw [e70]; exact HC.size
             replace HC := HC.then c71
             clear e70
             refine mI rfl <| aL rfl <| aI rfl <| aI rfl <| en <| x_ret <| block_r <| then_r <| ret_tmp3 (v := .slice _ _ _) (v2 := .int _ _) (v3 := .int _ _) rfl rfl rfl rfl ?_
             rw [nextP_ok hA hB hn, if_neg hc36, if_pos hc0]
             exact ⟨[txtP ((w.take (n - 1)).drop 1) true], some ⟨b68, 0, none⟩, 1, rfl, fun _ => rfl, sl_one (T := 33) hb72 ge_b68, HC⟩
            ·try simp only [nm, ne_eq] at h6
             have hc39 : byte w 0 ≠ 39 := fun e => by have h8 : ((byte w 0).toNat : Int) = 39 := (by rw [e]; rfl); first | exact h6 h8 | omega | simp_all
             refine sr rfl <| Wp rfl <| st_eql rfl rfl <| aB rfl <| en <| x_cond rfl (fun h7 => ?_) (fun h7 => ?_)
             ·try simp only [nm, ne_eq] at h7
              have hc0 : byte w 0 = 34 := u8_eq (by first | assumption | simp_all) rfl
              have hn3 := two_le hw hn (.inr (.inl hc0))
              have hs1 : IntKind.i64.wrap ((n : Int) - 1) = ((n - 1 : Nat) : Int) := by rw [wrap64_id (by omega) (by omega)]; omega
              have hm0 : m = 0 := by rcases Decidable.em (m = 0) with h9 | h9; exact h9; exact absurd ⟨hc36, hc96, .inl (by simp [h9])⟩ hB
              refine x_seq <| sr rfl <| mI rfl <| Wp rfl <| st_eql rfl rfl <| en <| x_cond rfl (fun h8 => ?_) (fun h8 => ?_)
              ·try simp only [nm, ne_eq] at h8
               refine sr rfl <| Wp rfl <| st_call (ags := [_, _]) rfl rfl T.ent36 rfl (rtext_spec [] true _) ?_
               rintro _ w73 ⟨rfl, c74⟩
               replace HC := HC.then c74
               refine Wp rfl <| st_lit (ps := [(0, .tmp 108)]) (vs := [.int _ _, S _, S _, S _, S _, .bool _]) T.lit23 (by decide) rfl (by simp only [List.forall_mem_cons, List.not_mem_nil, false_imp_iff, implies_true, and_true]; exact rfl) rfl ?_
               intro b75 w76 e77 c78 hb79
               have ge_b75 : w0.heap.size ≤ b75 := by rw [e77]; exact HC.size
               replace HC := HC.then c78
               clear e77
               refine mI rfl <| aL rfl <| aI rfl <| aI rfl <| en <| x_ret <| then_r <| block_r <| then_r <| ret_tmp3 (v := .slice _ _ _) (v2 := .int _ _) (v3 := .int _ _) rfl rfl rfl rfl ?_
               rw [nextP_ok hA hB hn, if_neg hc36, if_neg hc39, if_pos hc0, if_pos (by omega)]
               exact ⟨[txtP [] true], some ⟨b75, 0, none⟩, 1, rfl, fun _ => rfl, sl_one (T := 33) hb79 ge_b75, HC⟩
              ·try simp only [nm, ne_eq] at h8
               refine x_skip <| then_n <| sr rfl <| mS rfl <| mI rfl <| Wp rfl <| st_subk rfl rfl (by exact hs1) <| Wp rfl <| st_sslice (i := 1) (j := n - 1) T.u9 rfl ⟨_, rfl⟩ ⟨_, rfl⟩ (by omega) (by omega) ?_
               have sz9 := HC.size
               refine Wp rfl <| st_call (ags := [_, _]) rfl rfl T.ent10 rfl (hP hm0 ((w.take (n - 1)).drop 1) _ (by simp only [List.length_drop, List.length_take]; omega)) ?_
               rintro _ w80 ⟨A9, cap9, rfl, hs9, c81⟩
               replace HC := HC.then c81
               refine mv (v := .tuple ⟨[_, _]⟩) rfl <| Wp rfl <| st_extract (vs := [_, _]) (v := .slice _ _ _) rfl rfl <| Wp rfl <| st_extract (vs := [_, _]) (v := .int _ _) rfl rfl <| aL rfl <| aI rfl <| en <| sr rfl <| mL rfl <| mI rfl <| mI rfl <| aL rfl <| aI rfl <| aI rfl <| en <| x_ret <| block_r <| then_r <| ret_tmp3 (v := .slice _ _ _) (v2 := .int _ _) (v3 := .int _ _) rfl rfl rfl rfl ?_
               rw [nextP_ok hA hB hn, if_neg hc36, if_neg hc39, if_pos hc0, if_neg (by omega)]
               exact ⟨_, A9, cap9, rfl, fun _ => rfl, (hs9.mono (fun k _ h => Nat.le_trans sz9 h)), HC⟩
             ·try simp only [nm, ne_eq] at h7
              have hc34 : byte w 0 ≠ 34 := fun e => by have h8 : ((byte w 0).toNat : Int) = 34 := (by rw [e]; rfl); first | exact h7 h8 | omega | simp_all
              refine x_skip <| block_n <| then_n <| x_seq <| x_seq ?_
              have hc0 : byte w 0 = 92 := by rcases Decidable.em (byte w 0 = 92) with h9 | h9; exact h9; exact absurd ⟨hc36, hc96, .inr ⟨hc39, hc34, h9⟩⟩ hB
              have hdl : ((w.take n).drop 1).length = n - 1 := by simp only [List.length_drop, List.length_take]; omega
              refine x_region rfl <| mS rfl <| mI rfl <| Wp rfl <| st_sslice (i := 1) (j := n) T.u9 rfl ⟨_, rfl⟩ ⟨_, rfl⟩ (by omega) (by omega) <| Wp rfl <| st_seql rfl rfl <| mB rfl <| w_split (d := 126) rfl (fun g82 => ?_) (fun g82 => ?_)
              ·try simp only [nm, ne_eq] at g82
               refine w_no 4 126 false <| w_no 4 126 false <| pT rfl rfl <| en <| x_cond (t := true) rfl (fun h9 => ?_) (fun h9 => ?_)
               rotate_left
               · exact absurd h9 (by decide)
               have hz : (w.take n).drop 1 = [10] ∨ (w.take n).drop 1 = [] := by first | (left; assumption) | (right; exact List.length_eq_zero_iff.1 (by omega)) | simp_all
               refine sr rfl <| mI rfl <| aL rfl <| aI rfl <| aI rfl <| en <| x_ret <| then_r <| ret_tmp3 (v := .slice _ _ _) (v2 := .int _ _) (v3 := .int _ _) rfl rfl rfl rfl ?_
               rw [nextP_ok hA hB hn, if_neg hc36, if_neg hc39, if_neg hc34, if_pos hc0, if_pos hz]
               exact ⟨[], none, 0, rfl, fun _ => rfl, .nil, HC⟩
              ·try simp only [nm, ne_eq] at g82
               refine w_yes 4 126 false <| st_move (v := .int _ _) rfl <| w_yes 4 126 false <| st_eql rfl rfl <| pF rfl rfl <| en <| x_cond rfl (fun h9 => ?_) (fun h9 => ?_)
               ·try simp only [nm, ne_eq] at h9
                have hz : (w.take n).drop 1 = [10] ∨ (w.take n).drop 1 = [] := by first | (left; assumption) | (right; exact List.length_eq_zero_iff.1 (by omega)) | simp_all
                refine sr rfl <| mI rfl <| aL rfl <| aI rfl <| aI rfl <| en <| x_ret <| then_r <| ret_tmp3 (v := .slice _ _ _) (v2 := .int _ _) (v3 := .int _ _) rfl rfl rfl rfl ?_
                rw [nextP_ok hA hB hn, if_neg hc36, if_neg hc39, if_neg hc34, if_pos hc0, if_pos hz]
                exact ⟨[], none, 0, rfl, fun _ => rfl, .nil, HC⟩
               ·try simp only [nm, ne_eq] at h9
                have hz : ¬ ((w.take n).drop 1 = [10] ∨ (w.take n).drop 1 = []) := by rintro (q | q); (first | contradiction | simp_all); (have q9 := congrArg List.length q; rw [hdl] at q9; simp only [List.length_nil] at q9; omega)
                refine x_skip <| then_n <| sr rfl <| mS rfl <| mI rfl <| Wp rfl <| st_sslice (i := 1) (j := n) T.u9 rfl ⟨_, rfl⟩ ⟨_, rfl⟩ (by omega) (by omega) <| Wp rfl <| st_call (ags := [_, _]) rfl rfl T.ent36 rfl (rtext_spec _ true _) ?_
                rintro _ w83 ⟨rfl, c84⟩
                replace HC := HC.then c84
                refine Wp rfl <| st_lit (ps := [(0, .tmp 134)]) (vs := [.int _ _, S _, S _, S _, S _, .bool _]) T.lit23 (by decide) rfl (by simp only [List.forall_mem_cons, List.not_mem_nil, false_imp_iff, implies_true, and_true]; exact rfl) rfl ?_
                intro b85 w86 e87 c88 hb89
                have ge_b85 : w0.heap.size ≤ b85 := by rw [e87]; exact HC.size
                replace HC := HC.then c88
                clear e87
                refine mI rfl <| aL rfl <| aI rfl <| aI rfl <| en <| x_ret <| ret_tmp3 (v := .slice _ _ _) (v2 := .int _ _) (v3 := .int _ _) rfl rfl rfl rfl ?_
                rw [nextP_ok hA hB hn, if_neg hc36, if_neg hc39, if_neg hc34, if_pos hc0, if_neg hz]
                exact ⟨[txtP ((w.take n).drop 1) true], some ⟨b85, 0, none⟩, 1, rfl, fun _ => rfl, sl_one (T := 33) hb89 ge_b85, HC⟩
         ·refine x_region rfl <| mS rfl <| Wp rfl <| st_call (ags := [_, _]) rfl rfl T.ent38 rfl (RSk_err w _ hs hw he) ?_
          rintro _ w90 ⟨rfl, c91⟩
          replace HC := HC.then c91
          refine mv (v := .tuple ⟨[_, _]⟩) rfl <| Wp rfl <| st_extract (vs := [_, _]) (v := .int _ _) rfl rfl <| Wp rfl <| st_extract (vs := [_, _]) (v := .int _ _) rfl rfl <| aI rfl <| aI rfl <| en <| x_seq <| sr rfl <| mI rfl <| Wp rfl <| st_neq rfl rfl <| en <| x_cond rfl (fun h4 => ?_) (fun h4 => ?_)
          ·try simp only [nm, ne_eq] at h4
           refine sr rfl <| mI rfl <| aL rfl <| aI rfl <| aI rfl <| en <| x_ret <| then_r <| ret_tmp3 (v := .slice _ _ _) (v2 := .int _ _) (v3 := .int _ _) rfl rfl rfl rfl ?_
           rw [nextP_err hA hB he]
           exact ⟨[], none, 0, rfl, fun _ => rfl, .nil, HC⟩
          ·try simp only [nm, ne_eq] at h4
           exfalso; first | omega | simp_all
       ·try simp only [nm, ne_eq] at g49
        refine w_no 11 64 true <| w_no 11 64 true <| w_yes 4 57 false <| st_pick (b := false) (v := .bool _) rfl rfl <| w_yes 2 55 true <| st_pick (b := false) (v := .bool _) rfl rfl <| pT rfl rfl <| en <| x_cond (t := false) rfl (fun h3 => ?_) (fun h3 => ?_)
        · exact absurd h3 (by decide)
        have hB : ¬ (byte w 0 ≠ 36 ∧ byte w 0 ≠ 96 ∧ ((!decide (m = 0)) = true ∨ (byte w 0 ≠ 39 ∧ byte w 0 ≠ 34 ∧ byte w 0 ≠ 92))) := by rintro ⟨q1, q2, q3⟩; have z1 : ((byte w 0).toNat : Int) ≠ 96 := (fun e => q2 (u8_eq e rfl)); rcases q3 with q3 | ⟨q4, q5, q6⟩; (first | omega | simp_all); (have z2 : ((byte w 0).toNat : Int) ≠ 39 := (fun e => q4 (u8_eq e rfl)); have z3 : ((byte w 0).toNat : Int) ≠ 34 := (fun e => q5 (u8_eq e rfl)); have z4 : ((byte w 0).toNat : Int) ≠ 92 := (fun e => q6 (u8_eq e rfl)); first | omega | simp_all)
        refine x_skip <| then_n <| x_seq ?_
        rcases skip_cases w hw with ⟨n, hn, hn1, hn2⟩ | ⟨e, he, he0⟩
        ·refine x_region rfl <| mS rfl <| Wp rfl <| st_call (ags := [_, _]) rfl rfl T.ent38 rfl (RSk_ok w _ hs hw hn) ?_
         rintro _ w92 ⟨rfl, c93⟩
         replace HC := HC.then c93
         refine mv (v := .tuple ⟨[_, _]⟩) rfl <| Wp rfl <| st_extract (vs := [_, _]) (v := .int _ _) rfl rfl <| Wp rfl <| st_extract (vs := [_, _]) (v := .int _ _) rfl rfl <| aI rfl <| aI rfl <| en <| x_seq <| sr rfl <| mI rfl <| Wp rfl <| st_neq rfl rfl <| en <| x_cond rfl (fun h4 => ?_) (fun h4 => ?_)
         ·try simp only [nm, ne_eq] at h4
          first | exact absurd rfl h4 | exact absurd trivial h4 | (simp at h4; done)
         ·try simp only [nm, ne_eq] at h4
          refine x_skip <| then_n <| x_seq <| sr rfl <| mI rfl <| en <| x_block <| sr rfl <| Wp rfl <| st_eql rfl rfl <| aB rfl <| en <| x_cond rfl (fun h5 => ?_) (fun h5 => ?_)
          ·try simp only [nm, ne_eq] at h5
           have hc0 : byte w 0 = 96 := u8_eq (by first | assumption | simp_all) rfl
           have hn3 := two_le hw hn (.inr (.inr hc0))
           have hs1 : IntKind.i64.wrap ((n : Int) - 1) = ((n - 1 : Nat) : Int) := by rw [wrap64_id (by omega) (by omega)]; omega
           refine sr rfl <| mS rfl <| mI rfl <| Wp rfl <| st_subk rfl rfl (by exact hs1) <| Wp rfl <| st_sslice (i := 1) (j := n - 1) T.u9 rfl ⟨_, rfl⟩ ⟨_, rfl⟩ (by omega) (by omega) <| Wp rfl <| st_call (ags := [_]) rfl rfl T.ent39 rfl (unticked_spec ((w.take (n - 1)).drop 1) _ (by simp only [List.length_drop, List.length_take]; omega)) ?_
           rintro _ w94 ⟨rfl, c95⟩
           replace HC := HC.then c95
           refine mB rfl <| Wp rfl <| st_bld (ps := [(0, .const (.int .i64 2)), (1, .tmp 90), (5, .tmp 91)]) (vs := [.int _ _, S _, S _, S _, S _, .bool _]) T.bld33 rfl <| Wp rfl <| st_lit (ps := [(0, .tmp 92)]) (vs := [.int _ _, S _, S _, S _, S _, .bool _]) T.lit23 (by decide) rfl (by simp only [List.forall_mem_cons, List.not_mem_nil, false_imp_iff, implies_true, and_true]; exact rfl) rfl ?_
           intro b96 w97 e98 c99 hb100
           have ge_b96 : w0.heap.size ≤ b96 := by rw [e98]; exact HC.size
           replace HC := HC.then c99
           clear e98
           refine mI rfl <| aL rfl <| aI rfl <| aI rfl <| en <| x_ret <| block_r <| then_r <| ret_tmp3 (v := .slice _ _ _) (v2 := .int _ _) (v3 := .int _ _) rfl rfl rfl rfl ?_
           rw [nextP_ok hA hB hn, if_neg hc36, if_neg (by rw [hc0]; decide), if_neg (by rw [hc0]; decide), if_neg (by rw [hc0]; decide)]
           exact ⟨[(⟨2, untick ((w.take (n - 1)).drop 1), [], [], [], (!decide (m = 0))⟩ : Prt)], some ⟨b96, 0, none⟩, 1, rfl, fun _ => rfl, sl_one (T := 33) hb100 ge_b96, HC⟩
          ·try simp only [nm, ne_eq] at h5
           have hc96 : byte w 0 ≠ 96 := fun e => by have h8 : ((byte w 0).toNat : Int) = 96 := (by rw [e]; rfl); first | exact h5 h8 | omega | simp_all
           refine sr rfl <| Wp rfl <| st_eql rfl rfl <| aB rfl <| en <| x_cond rfl (fun h6 => ?_) (fun h6 => ?_)
           ·try simp only [nm, ne_eq] at h6
            have hc0 : byte w 0 = 39 := u8_eq (by first | assumption | simp_all) rfl
            have hn3 := two_le hw hn (.inl hc0)
            have hs1 : IntKind.i64.wrap ((n : Int) - 1) = ((n - 1 : Nat) : Int) := by rw [wrap64_id (by omega) (by omega)]; omega
            refine sr rfl <| mS rfl <| mI rfl <| Wp rfl <| st_subk rfl rfl (by exact hs1) <| Wp rfl <| st_sslice (i := 1) (j := n - 1) T.u9 rfl ⟨_, rfl⟩ ⟨_, rfl⟩ (by omega) (by omega) <| Wp rfl <| st_call (ags := [_, _]) rfl rfl T.ent36 rfl (rtext_spec _ true _) ?_
            rintro _ w101 ⟨rfl, c102⟩
            replace HC := HC.then c102
            refine Wp rfl <| st_lit (ps := [(0, .tmp 101)]) (vs := [.int _ _, S _, S _, S _, S _, .bool _]) T.lit23 (by decide) rfl (by simp only [List.forall_mem_cons, List.not_mem_nil, false_imp_iff, implies_true, and_true]; exact rfl) rfl ?_
            intro b103 w104 e105 c106 hb107
            have ge_b103 : w0.heap.size ≤ b103 := by rw [e105]; exact HC.size
            replace HC := HC.then c106
            clear e105
            refine mI rfl <| aL rfl <| aI rfl <| aI rfl <| en <| x_ret <| block_r <| then_r <| ret_tmp3 (v := .slice _ _ _) (v2 := .int _ _) (v3 := .int _ _) rfl rfl rfl rfl ?_
            rw [nextP_ok hA hB hn, if_neg hc36, if_pos hc0]
            exact ⟨[txtP ((w.take (n - 1)).drop 1) true], some ⟨b103, 0, none⟩, 1, rfl, fun _ => rfl, sl_one (T := 33) hb107 ge_b103, HC⟩
           ·try simp only [nm, ne_eq] at h6
            have hc39 : byte w 0 ≠ 39 := fun e => by have h8 : ((byte w 0).toNat : Int) = 39 := (by rw [e]; rfl); first | exact h6 h8 | omega | simp_all
            refine sr rfl <| Wp rfl <| st_eql rfl rfl <| aB rfl <| en <| x_cond rfl (fun h7 => ?_) (fun h7 => ?_)
            ·try simp only [nm, ne_eq] at h7
             have hc0 : byte w 0 = 34 := u8_eq (by first | assumption | simp_all) rfl
             have hn3 := two_le hw hn (.inr (.inl hc0))
             have hs1 : IntKind.i64.wrap ((n : Int) - 1) = ((n - 1 : Nat) : Int) := by rw [wrap64_id (by omega) (by omega)]; omega
             have hm0 : m = 0 := by rcases Decidable.em (m = 0) with h9 | h9; exact h9; exact absurd ⟨hc36, hc96, .inl (by simp [h9])⟩ hB
             refine x_seq <| sr rfl <| mI rfl <| Wp rfl <| st_eql rfl rfl <| en <| x_cond rfl (fun h8 => ?_) (fun h8 => ?_)
             ·try simp only [nm, ne_eq] at h8
              refine sr rfl <| Wp rfl <| st_call (ags := [_, _]) rfl rfl T.ent36 rfl (rtext_spec [] true _) ?_
              rintro _ w108 ⟨rfl, c109⟩
              replace HC := HC.then c109
              refine Wp rfl <| st_lit (ps := [(0, .tmp 108)]) (vs := [.int _ _, S _, S _, S _, S _, .bool _]) T.lit23 (by decide) rfl (by simp only [List.forall_mem_cons, List.not_mem_nil, false_imp_iff, implies_true, and_true]; exact rfl) rfl ?_
              intro b110 w111 e112 c113 hb114
              have ge_b110 : w0.heap.size ≤ b110 := by rw [e112]; exact HC.size
              replace HC := HC.then c113
              clear e112
              refine mI rfl <| aL rfl <| aI rfl <| aI rfl <| en <| x_ret <| then_r <| block_r <| then_r <| ret_tmp3 (v := .slice _ _ _) (v2 := .int _ _) (v3 := .int _ _) rfl rfl rfl rfl ?_
              rw [nextP_ok hA hB hn, if_neg hc36, if_neg hc39, if_pos hc0, if_pos (by omega)]
              exact ⟨[txtP [] true], some ⟨b110, 0, none⟩, 1, rfl, fun _ => rfl, sl_one (T := 33) hb114 ge_b110, HC⟩
             ·try simp only [nm, ne_eq] at h8
              refine x_skip <| then_n <| sr rfl <| mS rfl <| mI rfl <| Wp rfl <| st_subk rfl rfl (by exact hs1) <| Wp rfl <| st_sslice (i := 1) (j := n - 1) T.u9 rfl ⟨_, rfl⟩ ⟨_, rfl⟩ (by omega) (by omega) ?_
              have sz9 := HC.size
              refine Wp rfl <| st_call (ags := [_, _]) rfl rfl T.ent10 rfl (hP hm0 ((w.take (n - 1)).drop 1) _ (by simp only [List.length_drop, List.length_take]; omega)) ?_
              rintro _ w115 ⟨A9, cap9, rfl, hs9, c116⟩
              replace HC := HC.then c116
              refine mv (v := .tuple ⟨[_, _]⟩) rfl <| Wp rfl <| st_extract (vs := [_, _]) (v := .slice _ _ _) rfl rfl <| Wp rfl <| st_extract (vs := [_, _]) (v := .int _ _) rfl rfl <| aL rfl <| aI rfl <| en <| sr rfl <| mL rfl <| mI rfl <| mI rfl <| aL rfl <| aI rfl <| aI rfl <| en <| x_ret <| block_r <| then_r <| ret_tmp3 (v := .slice _ _ _) (v2 := .int _ _) (v3 := .int _ _) rfl rfl rfl rfl ?_
              rw [nextP_ok hA hB hn, if_neg hc36, if_neg hc39, if_pos hc0, if_neg (by omega)]
              exact ⟨_, A9, cap9, rfl, fun _ => rfl, (hs9.mono (fun k _ h => Nat.le_trans sz9 h)), HC⟩
            ·try simp only [nm, ne_eq] at h7
             have hc34 : byte w 0 ≠ 34 := fun e => by have h8 : ((byte w 0).toNat : Int) = 34 := (by rw [e]; rfl); first | exact h7 h8 | omega | simp_all
             refine x_skip <| block_n <| then_n <| x_seq <| x_seq ?_
             have hc0 : byte w 0 = 92 := by rcases Decidable.em (byte w 0 = 92) with h9 | h9; exact h9; exact absurd ⟨hc36, hc96, .inr ⟨hc39, hc34, h9⟩⟩ hB
             have hdl : ((w.take n).drop 1).length = n - 1 := by simp only [List.length_drop, List.length_take]; omega
             refine x_region rfl <| mS rfl <| mI rfl <| Wp rfl <| st_sslice (i := 1) (j := n) T.u9 rfl ⟨_, rfl⟩ ⟨_, rfl⟩ (by omega) (by omega) <| Wp rfl <| st_seql rfl rfl <| mB rfl <| w_split (d := 126) rfl (fun g117 => ?_) (fun g117 => ?_)
             ·try simp only [nm, ne_eq] at g117
              refine w_no 4 126 false <| w_no 4 126 false <| pT rfl rfl <| en <| x_cond (t := true) rfl (fun h9 => ?_) (fun h9 => ?_)
              rotate_left
              · exact absurd h9 (by decide)
              have hz : (w.take n).drop 1 = [10] ∨ (w.take n).drop 1 = [] := by first | (left; assumption) | (right; exact List.length_eq_zero_iff.1 (by omega)) | simp_all
              refine sr rfl <| mI rfl <| aL rfl <| aI rfl <| aI rfl <| en <| x_ret <| then_r <| ret_tmp3 (v := .slice _ _ _) (v2 := .int _ _) (v3 := .int _ _) rfl rfl rfl rfl ?_
              rw [nextP_ok hA hB hn, if_neg hc36, if_neg hc39, if_neg hc34, if_pos hc0, if_pos hz]
              exact ⟨[], none, 0, rfl, fun _ => rfl, .nil, HC⟩
             ·try simp only [nm, ne_eq] at g117
              refine w_yes 4 126 false <| st_move (v := .int _ _) rfl <| w_yes 4 126 false <| st_eql rfl rfl <| pF rfl rfl <| en <| x_cond rfl (fun h9 => ?_) (fun h9 => ?_)
              ·try simp only [nm, ne_eq] at h9
               have hz : (w.take n).drop 1 = [10] ∨ (w.take n).drop 1 = [] := by first | (left; assumption) | (right; exact List.length_eq_zero_iff.1 (by omega)) | simp_all
               refine sr rfl <| mI rfl <| aL rfl <| aI rfl <| aI rfl <| en <| x_ret <| then_r <| ret_tmp3 (v := .slice _ _ _) (v2 := .int _ _) (v3 := .int _ _) rfl rfl rfl rfl ?_
               rw [nextP_ok hA hB hn, if_neg hc36, if_neg hc39, if_neg hc34, if_pos hc0, if_pos hz]
               exact ⟨[], none, 0, rfl, fun _ => rfl, .nil, HC⟩
              ·try simp only [nm, ne_eq] at h9
               have hz : ¬ ((w.take n).drop 1 = [10] ∨ (w.take n).drop 1 = []) := by rintro (q | q); (first | contradiction | simp_all); (have q9 := congrArg List.length q; rw [hdl] at q9; simp only [List.length_nil] at q9; omega)
               refine x_skip <| then_n <| sr rfl <| mS rfl <| mI rfl <| Wp rfl <| st_sslice (i := 1) (j := n) T.u9 rfl ⟨_, rfl⟩ ⟨_, rfl⟩ (by omega) (by omega) <| Wp rfl <| st_call (ags := [_, _]) rfl rfl T.ent36 rfl (rtext_spec _ true _) ?_
               rintro _ w118 ⟨rfl, c119⟩
               replace HC := HC.then c119
               refine Wp rfl <| st_lit (ps := [(0, .tmp 134)]) (vs := [.int _ _, S _, S _, S _, S _, .bool _]) T.lit23 (by decide) rfl (by simp only [List.forall_mem_cons, List.not_mem_nil, false_imp_iff, implies_true, and_true]; exact rfl) rfl ?_
               intro b120 w121 e122 c123 hb124
               have ge_b120 : w0.heap.size ≤ b120 := by rw [e122]; exact HC.size
               replace HC := HC.then c123
               clear e122
               refine mI rfl <| aL rfl <| aI rfl <| aI rfl <| en <| x_ret <| ret_tmp3 (v := .slice _ _ _) (v2 := .int _ _) (v3 := .int _ _) rfl rfl rfl rfl ?_
               rw [nextP_ok hA hB hn, if_neg hc36, if_neg hc39, if_neg hc34, if_pos hc0, if_neg hz]
               exact ⟨[txtP ((w.take n).drop 1) true], some ⟨b120, 0, none⟩, 1, rfl, fun _ => rfl, sl_one (T := 33) hb124 ge_b120, HC⟩
        ·refine x_region rfl <| mS rfl <| Wp rfl <| st_call (ags := [_, _]) rfl rfl T.ent38 rfl (RSk_err w _ hs hw he) ?_
         rintro _ w125 ⟨rfl, c126⟩
         replace HC := HC.then c126
         refine mv (v := .tuple ⟨[_, _]⟩) rfl <| Wp rfl <| st_extract (vs := [_, _]) (v := .int _ _) rfl rfl <| Wp rfl <| st_extract (vs := [_, _]) (v := .int _ _) rfl rfl <| aI rfl <| aI rfl <| en <| x_seq <| sr rfl <| mI rfl <| Wp rfl <| st_neq rfl rfl <| en <| x_cond rfl (fun h4 => ?_) (fun h4 => ?_)
         ·try simp only [nm, ne_eq] at h4
          refine sr rfl <| mI rfl <| aL rfl <| aI rfl <| aI rfl <| en <| x_ret <| then_r <| ret_tmp3 (v := .slice _ _ _) (v2 := .int _ _) (v3 := .int _ _) rfl rfl rfl rfl ?_
          rw [nextP_err hA hB he]
          exact ⟨[], none, 0, rfl, fun _ => rfl, .nil, HC⟩
         ·try simp only [nm, ne_eq] at h4
          exfalso; first | omega | simp_all
      ·try simp only [nm, ne_eq] at g48
       refine w_no 7 60 true <| w_no 7 60 true <| w_yes 4 57 false <| st_pick (b := false) (v := .bool _) rfl rfl <| w_yes 4 57 false <| st_move (v := .bool _) rfl <| w_no 11 64 true <| w_no 11 64 true <| w_yes 4 57 false <| st_pick (b := false) (v := .bool _) rfl rfl <| w_yes 2 55 true <| st_pick (b := false) (v := .bool _) rfl rfl <| pT rfl rfl <| en <| x_cond (t := false) rfl (fun h3 => ?_) (fun h3 => ?_)
       · exact absurd h3 (by decide)
       have hB : ¬ (byte w 0 ≠ 36 ∧ byte w 0 ≠ 96 ∧ ((!decide (m = 0)) = true ∨ (byte w 0 ≠ 39 ∧ byte w 0 ≠ 34 ∧ byte w 0 ≠ 92))) := by rintro ⟨q1, q2, q3⟩; have z1 : ((byte w 0).toNat : Int) ≠ 96 := (fun e => q2 (u8_eq e rfl)); rcases q3 with q3 | ⟨q4, q5, q6⟩; (first | omega | simp_all); (have z2 : ((byte w 0).toNat : Int) ≠ 39 := (fun e => q4 (u8_eq e rfl)); have z3 : ((byte w 0).toNat : Int) ≠ 34 := (fun e => q5 (u8_eq e rfl)); have z4 : ((byte w 0).toNat : Int) ≠ 92 := (fun e => q6 (u8_eq e rfl)); first | omega | simp_all)
       refine x_skip <| then_n <| x_seq ?_
       rcases skip_cases w hw with ⟨n, hn, hn1, hn2⟩ | ⟨e, he, he0⟩
       ·refine x_region rfl <| mS rfl <| Wp rfl <| st_call (ags := [_, _]) rfl rfl T.ent38 rfl (RSk_ok w _ hs hw hn) ?_
        rintro _ w127 ⟨rfl, c128⟩
        replace HC := HC.then c128
        refine mv (v := .tuple ⟨[_, _]⟩) rfl <| Wp rfl <| st_extract (vs := [_, _]) (v := .int _ _) rfl rfl <| Wp rfl <| st_extract (vs := [_, _]) (v := .int _ _) rfl rfl <| aI rfl <| aI rfl <| en <| x_seq <| sr rfl <| mI rfl <| Wp rfl <| st_neq rfl rfl <| en <| x_cond rfl (fun h4 => ?_) (fun h4 => ?_)
        ·try simp only [nm, ne_eq] at h4
         first | exact absurd rfl h4 | exact absurd trivial h4 | (simp at h4; done)
        ·try simp only [nm, ne_eq] at h4
         refine x_skip <| then_n <| x_seq <| sr rfl <| mI rfl <| en <| x_block <| sr rfl <| Wp rfl <| st_eql rfl rfl <| aB rfl <| en <| x_cond rfl (fun h5 => ?_) (fun h5 => ?_)
         ·try simp only [nm, ne_eq] at h5
          have hc0 : byte w 0 = 96 := u8_eq (by first | assumption | simp_all) rfl
          have hn3 := two_le hw hn (.inr (.inr hc0))
          have hs1 : IntKind.i64.wrap ((n : Int) - 1) = ((n - 1 : Nat) : Int) := by rw [wrap64_id (by omega) (by omega)]; omega
          refine sr rfl <| mS rfl <| mI rfl <| Wp rfl <| st_subk rfl rfl (by exact hs1) <| Wp rfl <| st_sslice (i := 1) (j := n - 1) T.u9 rfl ⟨_, rfl⟩ ⟨_, rfl⟩ (by omega) (by omega) <| Wp rfl <| st_call (ags := [_]) rfl rfl T.ent39 rfl (unticked_spec ((w.take (n - 1)).drop 1) _ (by simp only [List.length_drop, List.length_take]; omega)) ?_
          rintro _ w129 ⟨rfl, c130⟩
          replace HC := HC.then c130
          refine mB rfl <| Wp rfl <| st_bld (ps := [(0, .const (.int .i64 2)), (1, .tmp 90), (5, .tmp 91)]) (vs := [.int _ _, S _, S _, S _, S _, .bool _]) T.bld33 rfl <| Wp rfl <| st_lit (ps := [(0, .tmp 92)]) (vs := [.int _ _, S _, S _, S _, S _, .bool _]) T.lit23 (by decide) rfl (by simp only [List.forall_mem_cons, List.not_mem_nil, false_imp_iff, implies_true, and_true]; exact rfl) rfl ?_
          intro b131 w132 e133 c134 hb135
          have ge_b131 : w0.heap.size ≤ b131 := by rw [e133]; exact HC.size
          replace HC := HC.then c134
          clear e133
          refine mI rfl <| aL rfl <| aI rfl <| aI rfl <| en <| x_ret <| block_r <| then_r <| ret_tmp3 (v := .slice _ _ _) (v2 := .int _ _) (v3 := .int _ _) rfl rfl rfl rfl ?_
          rw [nextP_ok hA hB hn, if_neg hc36, if_neg (by rw [hc0]; decide), if_neg (by rw [hc0]; decide), if_neg (by rw [hc0]; decide)]
          exact ⟨[(⟨2, untick ((w.take (n - 1)).drop 1), [], [], [], (!decide (m = 0))⟩ : Prt)], some ⟨b131, 0, none⟩, 1, rfl, fun _ => rfl, sl_one (T := 33) hb135 ge_b131, HC⟩
         ·try simp only [nm, ne_eq] at h5
          have hc96 : byte w 0 ≠ 96 := fun e => by have h8 : ((byte w 0).toNat : Int) = 96 := (by rw [e]; rfl); first | exact h5 h8 | omega | simp_all
          refine sr rfl <| Wp rfl <| st_eql rfl rfl <| aB rfl <| en <| x_cond rfl (fun h6 => ?_) (fun h6 => ?_)
          ·try simp only [nm, ne_eq] at h6
           have hc0 : byte w 0 = 39 := u8_eq (by first | assumption | simp_all) rfl
           have hn3 := two_le hw hn (.inl hc0)
           have hs1 : IntKind.i64.wrap ((n : Int) - 1) = ((n - 1 : Nat) : Int) := by rw [wrap64_id (by omega) (by omega)]; omega
           refine sr rfl <| mS rfl <| mI rfl <| Wp rfl <| st_subk rfl rfl (by exact hs1) <| Wp rfl <| st_sslice (i := 1) (j := n - 1) T.u9 rfl ⟨_, rfl⟩ ⟨_, rfl⟩ (by omega) (by omega) <| Wp rfl <| st_call (ags := [_, _]) rfl rfl T.ent36 rfl (rtext_spec _ true _) ?_
           rintro _ w136 ⟨rfl, c137⟩
           replace HC := HC.then c137
           refine Wp rfl <| st_lit (ps := [(0, .tmp 101)]) (vs := [.int _ _, S _, S _, S _, S _, .bool _]) T.lit23 (by decide) rfl (by simp only [List.forall_mem_cons, List.not_mem_nil, false_imp_iff, implies_true, and_true]; exact rfl) rfl ?_
           intro b138 w139 e140 c141 hb142
           have ge_b138 : w0.heap.size ≤ b138 := by rw [e140]; exact HC.size
           replace HC := HC.then c141
           clear e140
           refine mI rfl <| aL rfl <| aI rfl <| aI rfl <| en <| x_ret <| block_r <| then_r <| ret_tmp3 (v := .slice _ _ _) (v2 := .int _ _) (v3 := .int _ _) rfl rfl rfl rfl ?_
           rw [nextP_ok hA hB hn, if_neg hc36, if_pos hc0]
           exact ⟨[txtP ((w.take (n - 1)).drop 1) true], some ⟨b138, 0, none⟩, 1, rfl, fun _ => rfl, sl_one (T := 33) hb142 ge_b138, HC⟩
          ·try simp only [nm, ne_eq] at h6
           have hc39 : byte w 0 ≠ 39 := fun e => by have h8 : ((byte w 0).toNat : Int) = 39 := (by rw [e]; rfl); first | exact h6 h8 | omega | simp_all
           refine sr rfl <| Wp rfl <| st_eql rfl rfl <| aB rfl <| en <| x_cond rfl (fun h7 => ?_) (fun h7 => ?_)
           ·try simp only [nm, ne_eq] at h7
            have hc0 : byte w 0 = 34 := u8_eq (by first | assumption | simp_all) rfl
            have hn3 := two_le hw hn (.inr (.inl hc0))
            have hs1 : IntKind.i64.wrap ((n : Int) - 1) = ((n - 1 : Nat) : Int) := by rw [wrap64_id (by omega) (by omega)]; omega
            have hm0 : m = 0 := by rcases Decidable.em (m = 0) with h9 | h9; exact h9; exact absurd ⟨hc36, hc96, .inl (by simp [h9])⟩ hB
            refine x_seq <| sr rfl <| mI rfl <| Wp rfl <| st_eql rfl rfl <| en <| x_cond rfl (fun h8 => ?_) (fun h8 => ?_)
            ·try simp only [nm, ne_eq] at h8
             refine sr rfl <| Wp rfl <| st_call (ags := [_, _]) rfl rfl T.ent36 rfl (rtext_spec [] true _) ?_
             rintro _ w143 ⟨rfl, c144⟩
             replace HC := HC.then c144
             refine Wp rfl <| st_lit (ps := [(0, .tmp 108)]) (vs := [.int _ _, S _, S _, S _, S _, .bool _]) T.lit23 (by decide) rfl (by simp only [List.forall_mem_cons, List.not_mem_nil, false_imp_iff, implies_true, and_true]; exact rfl) rfl ?_
             intro b145 w146 e147 c148 hb149
             have ge_b145 : w0.heap.size ≤ b145 := by rw [e147]; exact HC.size
             replace HC := HC.then c148
             clear e147
             refine mI rfl <| aL rfl <| aI rfl <| aI rfl <| en <| x_ret <| then_r <| block_r <| then_r <| ret_tmp3 (v := .slice _ _ _) (v2 := .int _ _) (v3 := .int _ _) rfl rfl rfl rfl ?_
             rw [nextP_ok hA hB hn, if_neg hc36, if_neg hc39, if_pos hc0, if_pos (by omega)]
             exact ⟨[txtP [] true], some ⟨b145, 0, none⟩, 1, rfl, fun _ => rfl, sl_one (T := 33) hb149 ge_b145, HC⟩
            ·try simp only [nm, ne_eq] at h8
             refine x_skip <| then_n <| sr rfl <| mS rfl <| mI rfl <| Wp rfl <| st_subk rfl rfl (by exact hs1) <| Wp rfl <| st_sslice (i := 1) (j := n - 1) T.u9 rfl ⟨_, rfl⟩ ⟨_, rfl⟩ (by omega) (by omega) ?_
             have sz9 := HC.size
             refine Wp rfl <| st_call (ags := [_, _]) rfl rfl T.ent10 rfl (hP hm0 ((w.take (n - 1)).drop 1) _ (by simp only [List.length_drop, List.length_take]; omega)) ?_
             rintro _ w150 ⟨A9, cap9, rfl, hs9, c151⟩
             replace HC := HC.then c151
             refine mv (v := .tuple ⟨[_, _]⟩) rfl <| Wp rfl <| st_extract (vs := [_, _]) (v := .slice _ _ _) rfl rfl <| Wp rfl <| st_extract (vs := [_, _]) (v := .int _ _) rfl rfl <| aL rfl <| aI rfl <| en <| sr rfl <| mL rfl <| mI rfl <| mI rfl <| aL rfl <| aI rfl <| aI rfl <| en <| x_ret <| block_r <| then_r <| ret_tmp3 (v := .slice _ _ _) (v2 := .int _ _) (v3 := .int _ _) rfl rfl rfl rfl ?_
             rw [nextP_ok hA hB hn, if_neg hc36, if_neg hc39, if_pos hc0, if_neg (by omega)]
             exact ⟨_, A9, cap9, rfl, fun _ => rfl, (hs9.mono (fun k _ h => Nat.le_trans sz9 h)), HC⟩
           ·try simp only [nm, ne_eq] at h7
            have hc34 : byte w 0 ≠ 34 := fun e => by have h8 : ((byte w 0).toNat : Int) = 34 := (by rw [e]; rfl); first | exact h7 h8 | omega | simp_all
            refine x_skip <| block_n <| then_n <| x_seq <| x_seq ?_
            have hc0 : byte w 0 = 92 := by rcases Decidable.em (byte w 0 = 92) with h9 | h9; exact h9; exact absurd ⟨hc36, hc96, .inr ⟨hc39, hc34, h9⟩⟩ hB
            have hdl : ((w.take n).drop 1).length = n - 1 := by simp only [List.length_drop, List.length_take]; omega
            refine x_region rfl <| mS rfl <| mI rfl <| Wp rfl <| st_sslice (i := 1) (j := n) T.u9 rfl ⟨_, rfl⟩ ⟨_, rfl⟩ (by omega) (by omega) <| Wp rfl <| st_seql rfl rfl <| mB rfl <| w_split (d := 126) rfl (fun g152 => ?_) (fun g152 => ?_)
            ·try simp only [nm, ne_eq] at g152
             refine w_no 4 126 false <| w_no 4 126 false <| pT rfl rfl <| en <| x_cond (t := true) rfl (fun h9 => ?_) (fun h9 => ?_)
             rotate_left
             · exact absurd h9 (by decide)
             have hz : (w.take n).drop 1 = [10] ∨ (w.take n).drop 1 = [] := by first | (left; assumption) | (right; exact List.length_eq_zero_iff.1 (by omega)) | simp_all
             refine sr rfl <| mI rfl <| aL rfl <| aI rfl <| aI rfl <| en <| x_ret <| then_r <| ret_tmp3 (v := .slice _ _ _) (v2 := .int _ _) (v3 := .int _ _) rfl rfl rfl rfl ?_
             rw [nextP_ok hA hB hn, if_neg hc36, if_neg hc39, if_neg hc34, if_pos hc0, if_pos hz]
             exact ⟨[], none, 0, rfl, fun _ => rfl, .nil, HC⟩
            ·try simp only [nm, ne_eq] at g152
             refine w_yes 4 126 false <| st_move (v := .int _ _) rfl <| w_yes 4 126 false <| st_eql rfl rfl <| pF rfl rfl <| en <| x_cond rfl (fun h9 => ?_) (fun h9 => ?_)
             ·try simp only [nm, ne_eq] at h9
              have hz : (w.take n).drop 1 = [10] ∨ (w.take n).drop 1 = [] := by first | (left; assumption) | (right; exact List.length_eq_zero_iff.1 (by omega)) | simp_all
              refine sr rfl <| mI rfl <| aL rfl <| aI rfl <| aI rfl <| en <| x_ret <| then_r <| ret_tmp3 (v := .slice _ _ _) (v2 := .int _ _) (v3 := .int _ _) rfl rfl rfl rfl ?_
              rw [nextP_ok hA hB hn, if_neg hc36, if_neg hc39, if_neg hc34, if_pos hc0, if_pos hz]
              exact ⟨[], none, 0, rfl, fun _ => rfl, .nil, HC⟩
             ·try simp only [nm, ne_eq] at h9
              have hz : ¬ ((w.take n).drop 1 = [10] ∨ (w.take n).drop 1 = []) := by rintro (q | q); (first | contradiction | simp_all); (have q9 := congrArg List.length q; rw [hdl] at q9; simp only [List.length_nil] at q9; omega)
              refine x_skip <| then_n <| sr rfl <| mS rfl <| mI rfl <| Wp rfl <| st_sslice (i := 1) (j := n) T.u9 rfl ⟨_, rfl⟩ ⟨_, rfl⟩ (by omega) (by omega) <| Wp rfl <| st_call (ags := [_, _]) rfl rfl T.ent36 rfl (rtext_spec _ true _) ?_
              rintro _ w153 ⟨rfl, c154⟩
              replace HC := HC.then c154
              refine Wp rfl <| st_lit (ps := [(0, .tmp 134)]) (vs := [.int _ _, S _, S _, S _, S _, .bool _]) T.lit23 (by decide) rfl (by simp only [List.forall_mem_cons, List.not_mem_nil, false_imp_iff, implies_true, and_true]; exact rfl) rfl ?_
              intro b155 w156 e157 c158 hb159
              have ge_b155 : w0.heap.size ≤ b155 := by rw [e157]; exact HC.size
              replace HC := HC.then c158
              clear e157
              refine mI rfl <| aL rfl <| aI rfl <| aI rfl <| en <| x_ret <| ret_tmp3 (v := .slice _ _ _) (v2 := .int _ _) (v3 := .int _ _) rfl rfl rfl rfl ?_
              rw [nextP_ok hA hB hn, if_neg hc36, if_neg hc39, if_neg hc34, if_pos hc0, if_neg hz]
              exact ⟨[txtP ((w.take n).drop 1) true], some ⟨b155, 0, none⟩, 1, rfl, fun _ => rfl, sl_one (T := 33) hb159 ge_b155, HC⟩
       ·refine x_region rfl <| mS rfl <| Wp rfl <| st_call (ags := [_, _]) rfl rfl T.ent38 rfl (RSk_err w _ hs hw he) ?_
        rintro _ w160 ⟨rfl, c161⟩
        replace HC := HC.then c161
        refine mv (v := .tuple ⟨[_, _]⟩) rfl <| Wp rfl <| st_extract (vs := [_, _]) (v := .int _ _) rfl rfl <| Wp rfl <| st_extract (vs := [_, _]) (v := .int _ _) rfl rfl <| aI rfl <| aI rfl <| en <| x_seq <| sr rfl <| mI rfl <| Wp rfl <| st_neq rfl rfl <| en <| x_cond rfl (fun h4 => ?_) (fun h4 => ?_)
        ·try simp only [nm, ne_eq] at h4
         refine sr rfl <| mI rfl <| aL rfl <| aI rfl <| aI rfl <| en <| x_ret <| then_r <| ret_tmp3 (v := .slice _ _ _) (v2 := .int _ _) (v3 := .int _ _) rfl rfl rfl rfl ?_
         rw [nextP_err hA hB he]
         exact ⟨[], none, 0, rfl, fun _ => rfl, .nil, HC⟩
        ·try simp only [nm, ne_eq] at h4
         exfalso; first | omega | simp_all
    ·try simp only [nm, ne_eq] at g39
     refine w_no 2 55 true <| w_no 2 55 true ?_
     iterate 3 refine w_no 4 57 false ?_
     refine w_no 7 60 true <| w_no 7 60 true <| w_no 4 57 false <| w_no 4 57 false <| w_no 11 64 true <| w_no 11 64 true <| w_no 4 57 false <| w_no 2 55 true <| pF rfl rfl <| en <| x_cond (t := false) rfl (fun h3 => ?_) (fun h3 => ?_)
     · exact absurd h3 (by decide)
     have hB : ¬ (byte w 0 ≠ 36 ∧ byte w 0 ≠ 96 ∧ ((!decide (m = 0)) = true ∨ (byte w 0 ≠ 39 ∧ byte w 0 ≠ 34 ∧ byte w 0 ≠ 92))) := by rintro ⟨q1, q2, q3⟩; have z1 : ((byte w 0).toNat : Int) ≠ 96 := (fun e => q2 (u8_eq e rfl)); rcases q3 with q3 | ⟨q4, q5, q6⟩; (first | omega | simp_all); (have z2 : ((byte w 0).toNat : Int) ≠ 39 := (fun e => q4 (u8_eq e rfl)); have z3 : ((byte w 0).toNat : Int) ≠ 34 := (fun e => q5 (u8_eq e rfl)); have z4 : ((byte w 0).toNat : Int) ≠ 92 := (fun e => q6 (u8_eq e rfl)); first | omega | simp_all)
     refine x_skip <| then_n <| x_seq ?_
     rcases skip_cases w hw with ⟨n, hn, hn1, hn2⟩ | ⟨e, he, he0⟩
     ·refine x_region rfl <| mS rfl <| Wp rfl <| st_call (ags := [_, _]) rfl rfl T.ent38 rfl (RSk_ok w _ hs hw hn) ?_
      rintro _ w162 ⟨rfl, c163⟩
      replace HC := HC.then c163
      refine mv (v := .tuple ⟨[_, _]⟩) rfl <| Wp rfl <| st_extract (vs := [_, _]) (v := .int _ _) rfl rfl <| Wp rfl <| st_extract (vs := [_, _]) (v := .int _ _) rfl rfl <| aI rfl <| aI rfl <| en <| x_seq <| sr rfl <| mI rfl <| Wp rfl <| st_neq rfl rfl <| en <| x_cond rfl (fun h4 => ?_) (fun h4 => ?_)
      ·try simp only [nm, ne_eq] at h4
       first | exact absurd rfl h4 | exact absurd trivial h4 | (simp at h4; done)
      ·try simp only [nm, ne_eq] at h4
       refine x_skip <| then_n <| x_seq <| sr rfl <| mI rfl <| en <| x_block <| sr rfl <| Wp rfl <| st_eql rfl rfl <| aB rfl <| en <| x_cond rfl (fun h5 => ?_) (fun h5 => ?_)
       ·try simp only [nm, ne_eq] at h5
        have hc0 : byte w 0 = 96 := u8_eq (by first | assumption | simp_all) rfl
        have hn3 := two_le hw hn (.inr (.inr hc0))
        have hs1 : IntKind.i64.wrap ((n : Int) - 1) = ((n - 1 : Nat) : Int) := by rw [wrap64_id (by omega) (by omega)]; omega
        refine sr rfl <| mS rfl <| mI rfl <| Wp rfl <| st_subk rfl rfl (by exact hs1) <| Wp rfl <| st_sslice (i := 1) (j := n - 1) T.u9 rfl ⟨_, rfl⟩ ⟨_, rfl⟩ (by omega) (by omega) <| Wp rfl <| st_call (ags := [_]) rfl rfl T.ent39 rfl (unticked_spec ((w.take (n - 1)).drop 1) _ (by simp only [List.length_drop, List.length_take]; omega)) ?_
        rintro _ w164 ⟨rfl, c165⟩
        replace HC := HC.then c165
        refine mB rfl <| Wp rfl <| st_bld (ps := [(0, .const (.int .i64 2)), (1, .tmp 90), (5, .tmp 91)]) (vs := [.int _ _, S _, S _, S _, S _, .bool _]) T.bld33 rfl <| Wp rfl <| st_lit (ps := [(0, .tmp 92)]) (vs := [.int _ _, S _, S _, S _, S _, .bool _]) T.lit23 (by decide) rfl (by simp only [List.forall_mem_cons, List.not_mem_nil, false_imp_iff, implies_true, and_true]; exact rfl) rfl ?_
        intro b166 w167 e168 c169 hb170
        have ge_b166 : w0.heap.size ≤ b166 := by rw [e168]; exact HC.size
        replace HC := HC.then c169
        clear e168
        refine mI rfl <| aL rfl <| aI rfl <| aI rfl <| en <| x_ret <| block_r <| then_r <| ret_tmp3 (v := .slice _ _ _) (v2 := .int _ _) (v3 := .int _ _) rfl rfl rfl rfl ?_
        rw [nextP_ok hA hB hn, if_neg hc36, if_neg (by rw [hc0]; decide), if_neg (by rw [hc0]; decide), if_neg (by rw [hc0]; decide)]
        exact ⟨[(⟨2, untick ((w.take (n - 1)).drop 1), [], [], [], (!decide (m = 0))⟩ : Prt)], some ⟨b166, 0, none⟩, 1, rfl, fun _ => rfl, sl_one (T := 33) hb170 ge_b166, HC⟩
       ·try simp only [nm, ne_eq] at h5
        have hc96 : byte w 0 ≠ 96 := fun e => by have h8 : ((byte w 0).toNat : Int) = 96 := (by rw [e]; rfl); first | exact h5 h8 | omega | simp_all
        refine sr rfl <| Wp rfl <| st_eql rfl rfl <| aB rfl <| en <| x_cond rfl (fun h6 => ?_) (fun h6 => ?_)
        ·try simp only [nm, ne_eq] at h6
         have hc0 : byte w 0 = 39 := u8_eq (by first | assumption | simp_all) rfl
         have hn3 := two_le hw hn (.inl hc0)
         have hs1 : IntKind.i64.wrap ((n : Int) - 1) = ((n - 1 : Nat) : Int) := by rw [wrap64_id (by omega) (by omega)]; omega
         refine sr rfl <| mS rfl <| mI rfl <| Wp rfl <| st_subk rfl rfl (by exact hs1) <| Wp rfl <| st_sslice (i := 1) (j := n - 1) T.u9 rfl ⟨_, rfl⟩ ⟨_, rfl⟩ (by omega) (by omega) <| Wp rfl <| st_call (ags := [_, _]) rfl rfl T.ent36 rfl (rtext_spec _ true _) ?_
         rintro _ w171 ⟨rfl, c172⟩
         replace HC := HC.then c172
         refine Wp rfl <| st_lit (ps := [(0, .tmp 101)]) (vs := [.int _ _, S _, S _, S _, S _, .bool _]) T.lit23 (by decide) rfl (by simp only [List.forall_mem_cons, List.not_mem_nil, false_imp_iff, implies_true, and_true]; exact rfl) rfl ?_
         intro b173 w174 e175 c176 hb177
         have ge_b173 : w0.heap.size ≤ b173 := by rw [e175]; exact HC.size
         replace HC := HC.then c176
         clear e175
         refine mI rfl <| aL rfl <| aI rfl <| aI rfl <| en <| x_ret <| block_r <| then_r <| ret_tmp3 (v := .slice _ _ _) (v2 := .int _ _) (v3 := .int _ _) rfl rfl rfl rfl ?_
         rw [nextP_ok hA hB hn, if_neg hc36, if_pos hc0]
         exact ⟨[txtP ((w.take (n - 1)).drop 1) true], some ⟨b173, 0, none⟩, 1, rfl, fun _ => rfl, sl_one (T := 33) hb177 ge_b173, HC⟩
        ·try simp only [nm, ne_eq] at h6
         have hc39 : byte w 0 ≠ 39 := fun e => by have h8 : ((byte w 0).toNat : Int) = 39 := (by rw [e]; rfl); first | exact h6 h8 | omega | simp_all
         refine sr rfl <| Wp rfl <| st_eql rfl rfl <| aB rfl <| en <| x_cond rfl (fun h7 => ?_) (fun h7 => ?_)
         ·try simp only [nm, ne_eq] at h7
          have hc0 : byte w 0 = 34 := u8_eq (by first | assumption | simp_all) rfl
          have hn3 := two_le hw hn (.inr (.inl hc0))
          have hs1 : IntKind.i64.wrap ((n : Int) - 1) = ((n - 1 : Nat) : Int) := by rw [wrap64_id (by omega) (by omega)]; omega
          have hm0 : m = 0 := by rcases Decidable.em (m = 0) with h9 | h9; exact h9; exact absurd ⟨hc36, hc96, .inl (by simp [h9])⟩ hB
          refine x_seq <| sr rfl <| mI rfl <| Wp rfl <| st_eql rfl rfl <| en <| x_cond rfl (fun h8 => ?_) (fun h8 => ?_)
          ·try simp only [nm, ne_eq] at h8
           refine sr rfl <| Wp rfl <| st_call (ags := [_, _]) rfl rfl T.ent36 rfl (rtext_spec [] true _) ?_
           rintro _ w178 ⟨rfl, c179⟩
           replace HC := HC.then c179
           refine Wp rfl <| st_lit (ps := [(0, .tmp 108)]) (vs := [.int _ _, S _, S _, S _, S _, .bool _]) T.lit23 (by decide) rfl (by simp only [List.forall_mem_cons, List.not_mem_nil, false_imp_iff, implies_true, and_true]; exact rfl) rfl ?_
           intro b180 w181 e182 c183 hb184
           have ge_b180 : w0.heap.size ≤ b180 := by rw [e182]; exact HC.size
           replace HC := HC.then c183
           clear e182
           refine mI rfl <| aL rfl <| aI rfl <| aI rfl <| en <| x_ret <| then_r <| block_r <| then_r <| ret_tmp3 (v := .slice _ _ _) (v2 := .int _ _) (v3 := .int _ _) rfl rfl rfl rfl ?_
           rw [nextP_ok hA hB hn, if_neg hc36, if_neg hc39, if_pos hc0, if_pos (by omega)]
           exact ⟨[txtP [] true], some ⟨b180, 0, none⟩, 1, rfl, fun _ => rfl, sl_one (T := 33) hb184 ge_b180, HC⟩
          ·try simp only [nm, ne_eq] at h8
           refine x_skip <| then_n <| sr rfl <| mS rfl <| mI rfl <| Wp rfl <| st_subk rfl rfl (by exact hs1) <| Wp rfl <| st_sslice (i := 1) (j := n - 1) T.u9 rfl ⟨_, rfl⟩ ⟨_, rfl⟩ (by omega) (by omega) ?_
           have sz9 := HC.size
           refine Wp rfl <| st_call (ags := [_, _]) rfl rfl T.ent10 rfl (hP hm0 ((w.take (n - 1)).drop 1) _ (by simp only [List.length_drop, List.length_take]; omega)) ?_
           rintro _ w185 ⟨A9, cap9, rfl, hs9, c186⟩
           replace HC := HC.then c186
           refine mv (v := .tuple ⟨[_, _]⟩) rfl <| Wp rfl <| st_extract (vs := [_, _]) (v := .slice _ _ _) rfl rfl <| Wp rfl <| st_extract (vs := [_, _]) (v := .int _ _) rfl rfl <| aL rfl <| aI rfl <| en <| sr rfl <| mL rfl <| mI rfl <| mI rfl <| aL rfl <| aI rfl <| aI rfl <| en <| x_ret <| block_r <| then_r <| ret_tmp3 (v := .slice _ _ _) (v2 := .int _ _) (v3 := .int _ _) rfl rfl rfl rfl ?_
           rw [nextP_ok hA hB hn, if_neg hc36, if_neg hc39, if_pos hc0, if_neg (by omega)]
           exact ⟨_, A9, cap9, rfl, fun _ => rfl, (hs9.mono (fun k _ h => Nat.le_trans sz9 h)), HC⟩
         ·try simp only [nm, ne_eq] at h7
          have hc34 : byte w 0 ≠ 34 := fun e => by have h8 : ((byte w 0).toNat : Int) = 34 := (by rw [e]; rfl); first | exact h7 h8 | omega | simp_all
          refine x_skip <| block_n <| then_n <| x_seq <| x_seq ?_
          have hc0 : byte w 0 = 92 := by rcases Decidable.em (byte w 0 = 92) with h9 | h9; exact h9; exact absurd ⟨hc36, hc96, .inr ⟨hc39, hc34, h9⟩⟩ hB
          have hdl : ((w.take n).drop 1).length = n - 1 := by simp only [List.length_drop, List.length_take]; omega
          refine x_region rfl <| mS rfl <| mI rfl <| Wp rfl <| st_sslice (i := 1) (j := n) T.u9 rfl ⟨_, rfl⟩ ⟨_, rfl⟩ (by omega) (by omega) <| Wp rfl <| st_seql rfl rfl <| mB rfl <| w_split (d := 126) rfl (fun g187 => ?_) (fun g187 => ?_)
          ·try simp only [nm, ne_eq] at g187
           refine w_no 4 126 false <| w_no 4 126 false <| pT rfl rfl <| en <| x_cond (t := true) rfl (fun h9 => ?_) (fun h9 => ?_)
           rotate_left
           · exact absurd h9 (by decide)
           have hz : (w.take n).drop 1 = [10] ∨ (w.take n).drop 1 = [] := by first | (left; assumption) | (right; exact List.length_eq_zero_iff.1 (by omega)) | simp_all
           refine sr rfl <| mI rfl <| aL rfl <| aI rfl <| aI rfl <| en <| x_ret <| then_r <| ret_tmp3 (v := .slice _ _ _) (v2 := .int _ _) (v3 := .int _ _) rfl rfl rfl rfl ?_
           rw [nextP_ok hA hB hn, if_neg hc36, if_neg hc39, if_neg hc34, if_pos hc0, if_pos hz]
           exact ⟨[], none, 0, rfl, fun _ => rfl, .nil, HC⟩
          ·try simp only [nm, ne_eq] at g187
           refine w_yes 4 126 false <| st_move (v := .int _ _) rfl <| w_yes 4 126 false <| st_eql rfl rfl <| pF rfl rfl <| en <| x_cond rfl (fun h9 => ?_) (fun h9 => ?_)
           ·try simp only [nm, ne_eq] at h9
            have hz : (w.take n).drop 1 = [10] ∨ (w.take n).drop 1 = [] := by first | (left; assumption) | (right; exact List.length_eq_zero_iff.1 (by omega)) | simp_all
            refine sr rfl <| mI rfl <| aL rfl <| aI rfl <| aI rfl <| en <| x_ret <| then_r <| ret_tmp3 (v := .slice _ _ _) (v2 := .int _ _) (v3 := .int _ _) rfl rfl rfl rfl ?_
            rw [nextP_ok hA hB hn, if_neg hc36, if_neg hc39, if_neg hc34, if_pos hc0, if_pos hz]
            exact ⟨[], none, 0, rfl, fun _ => rfl, .nil, HC⟩
           ·try simp only [nm, ne_eq] at h9
            have hz : ¬ ((w.take n).drop 1 = [10] ∨ (w.take n).drop 1 = []) := by rintro (q | q); (first | contradiction | simp_all); (have q9 := congrArg List.length q; rw [hdl] at q9; simp only [List.length_nil] at q9; omega)
            refine x_skip <| then_n <| sr rfl <| mS rfl <| mI rfl <| Wp rfl <| st_sslice (i := 1) (j := n) T.u9 rfl ⟨_, rfl⟩ ⟨_, rfl⟩ (by omega) (by omega) <| Wp rfl <| st_call (ags := [_, _]) rfl rfl T.ent36 rfl (rtext_spec _ true _) ?_
            rintro _ w188 ⟨rfl, c189⟩
            replace HC := HC.then c189
            refine Wp rfl <| st_lit (ps := [(0, .tmp 134)]) (vs := [.int _ _, S _, S _, S _, S _, .bool _]) T.lit23 (by decide) rfl (by simp only [List.forall_mem_cons, List.not_mem_nil, false_imp_iff, implies_true, and_true]; exact rfl) rfl ?_
            intro b190 w191 e192 c193 hb194
            have ge_b190 : w0.heap.size ≤ b190 := by rw [e192]; exact HC.size
            replace HC := HC.then c193
            clear e192
            refine mI rfl <| aL rfl <| aI rfl <| aI rfl <| en <| x_ret <| ret_tmp3 (v := .slice _ _ _) (v2 := .int _ _) (v3 := .int _ _) rfl rfl rfl rfl ?_
            rw [nextP_ok hA hB hn, if_neg hc36, if_neg hc39, if_neg hc34, if_pos hc0, if_neg hz]
            exact ⟨[txtP ((w.take n).drop 1) true], some ⟨b190, 0, none⟩, 1, rfl, fun _ => rfl, sl_one (T := 33) hb194 ge_b190, HC⟩
     ·refine x_region rfl <| mS rfl <| Wp rfl <| st_call (ags := [_, _]) rfl rfl T.ent38 rfl (RSk_err w _ hs hw he) ?_
      rintro _ w195 ⟨rfl, c196⟩
      replace HC := HC.then c196
      refine mv (v := .tuple ⟨[_, _]⟩) rfl <| Wp rfl <| st_extract (vs := [_, _]) (v := .int _ _) rfl rfl <| Wp rfl <| st_extract (vs := [_, _]) (v := .int _ _) rfl rfl <| aI rfl <| aI rfl <| en <| x_seq <| sr rfl <| mI rfl <| Wp rfl <| st_neq rfl rfl <| en <| x_cond rfl (fun h4 => ?_) (fun h4 => ?_)
      ·try simp only [nm, ne_eq] at h4
       refine sr rfl <| mI rfl <| aL rfl <| aI rfl <| aI rfl <| en <| x_ret <| then_r <| ret_tmp3 (v := .slice _ _ _) (v2 := .int _ _) (v3 := .int _ _) rfl rfl rfl rfl ?_
       rw [nextP_err hA hB he]
       exact ⟨[], none, 0, rfl, fun _ => rfl, .nil, HC⟩
      ·try simp only [nm, ne_eq] at h4
       exfalso; first | omega | simp_all
 ·try simp only [nm, ne_eq] at g1
  refine w_no 1 23 true <| w_no 1 23 true <| pF rfl rfl <| en <| x_cond (t := false) rfl (fun h0 => ?_) (fun h0 => ?_)
  · exact absurd h0 (by decide)
  have hA : ¬ (byte w 0 = 92 ∧ (!decide (m = 0)) = true) := by rintro ⟨h8, h9⟩; have h10 : ((byte w 0).toNat : Int) = 92 := (by rw [h8]; rfl); first | omega | simp_all
  refine x_skip <| then_n <| x_seq <| sr rfl <| mI rfl <| Wp rfl <| st_eql rfl rfl <| en <| x_cond rfl (fun h2 => ?_) (fun h2 => ?_)
  ·try simp only [nm, ne_eq] at h2
   have hc0 : byte w 0 = 36 := u8_eq (by first | assumption | simp_all) rfl
   have hB : ¬ (byte w 0 ≠ 36 ∧ byte w 0 ≠ 96 ∧ ((!decide (m = 0)) = true ∨ (byte w 0 ≠ 39 ∧ byte w 0 ≠ 34 ∧ byte w 0 ≠ 92))) := fun h => h.1 hc0
   refine x_seq ?_
   rcases skip_cases w hw with ⟨n, hn, hn1, hn2⟩ | ⟨e, he, he0⟩
   ·refine x_region rfl <| mS rfl <| mB rfl <| Wp rfl <| st_call (ags := [_, _]) rfl rfl T.ent37 rfl (rdollar_spec w _ _ hs hw hc0 hn hn1 hn2) ?_
    rintro _ w197 ⟨rfl, c198⟩
    replace HC := HC.then c198
    refine mv (v := .tuple ⟨[_, _, _]⟩) rfl <| Wp rfl <| st_extract (vs := [_, _, _]) (v := .agg ⟨[.int _ _, S _, S _, S _, S _, .bool _]⟩) rfl rfl <| Wp rfl <| st_extract (vs := [_, _, _]) (v := .int _ _) rfl rfl <| Wp rfl <| st_extract (vs := [_, _, _]) (v := .int _ _) rfl rfl <| Wp rfl <| st_alloc T.zero33 ?_
    intro b11 w199 e200 c201 hb202
    have ge_b11 : w0.heap.size ≤ b11 := by rw [e200]; exact HC.size
    replace HC := HC.then c201
    clear e200
    refine Wp rfl <| st_store (v := .agg ⟨[.int _ _, S _, S _, S _, S _, .bool _]⟩) T.size33 rfl rfl rfl hb202 rfl (Nat.le_of_ble_eq_true rfl) (by simp [Value.oneCell', S]) rfl ?_
    intro w203 c204 hb205; simp only [setVs, setV] at hb205
    clear hb202
    replace HC := HC.then1 c204 ge_b11
    refine aI rfl <| aI rfl <| en <| sr rfl <| Wp rfl <| st_loadA (vs := [_, _, _, _, _, _]) T.agg33 rfl (hb205.cells (n := 6) (vs := [_, _, _, _, _, _]) rfl) rfl <| Wp rfl <| st_lit (ps := [(0, .tmp 49)]) (vs := [.int _ _, S _, S _, S _, S _, .bool _]) T.lit23 (by decide) rfl (by simp only [List.forall_mem_cons, List.not_mem_nil, false_imp_iff, implies_true, and_true]; exact rfl) rfl ?_
    intro b206 w207 e208 c209 hb210
    have ge_b206 : w0.heap.size ≤ b206 := by rw [e208]; exact HC.size
    have ne_b11_b206 : b11 ≠ b206 := by rw [e208]; exact hb205.ne_size
    replace HC := HC.then c209
    replace hb205 := hb205.tr0 c209
    clear e208
    refine mI rfl <| mI rfl <| aL rfl <| aI rfl <| aI rfl <| en <| x_ret <| then_r <| ret_tmp3 (v := .slice _ _ _) (v2 := .int _ _) (v3 := .int _ _) rfl rfl rfl rfl ?_
    rw [nextP_ok hA hB hn, if_pos hc0]
    exact ⟨[(dollarV (!decide (m = 0)) w n).1], some ⟨b206, 0, none⟩, 1, rfl, fun _ => rfl, sl_one (T := 33) hb210 ge_b206, HC⟩
   ·refine x_region rfl <| mS rfl <| mB rfl <| Wp rfl <| st_call (ags := [_, _]) rfl rfl T.ent37 rfl (rdollar_err w _ _ hs hw he he0) ?_
    rintro _ w211 ⟨rfl, c212⟩
    replace HC := HC.then c212
    refine mv (v := .tuple ⟨[_, _, _]⟩) rfl <| Wp rfl <| st_extract (vs := [_, _, _]) (v := .agg ⟨[.int _ _, S _, S _, S _, S _, .bool _]⟩) rfl rfl <| Wp rfl <| st_extract (vs := [_, _, _]) (v := .int _ _) rfl rfl <| Wp rfl <| st_extract (vs := [_, _, _]) (v := .int _ _) rfl rfl <| Wp rfl <| st_alloc T.zero33 ?_
    intro b11 w213 e214 c215 hb216
    have ge_b11 : w0.heap.size ≤ b11 := by rw [e214]; exact HC.size
    replace HC := HC.then c215
    clear e214
    refine Wp rfl <| st_store (v := .agg ⟨[.int _ _, S _, S _, S _, S _, .bool _]⟩) T.size33 rfl rfl rfl hb216 rfl (Nat.le_of_ble_eq_true rfl) (by simp [Value.oneCell', S]) rfl ?_
    intro w217 c218 hb219; simp only [setVs, setV] at hb219
    clear hb216
    replace HC := HC.then1 c218 ge_b11
    refine aI rfl <| aI rfl <| en <| sr rfl <| Wp rfl <| st_loadA (vs := [_, _, _, _, _, _]) T.agg33 rfl (hb219.cells (n := 6) (vs := [_, _, _, _, _, _]) rfl) rfl <| Wp rfl <| st_lit (ps := [(0, .tmp 49)]) (vs := [.int _ _, S _, S _, S _, S _, .bool _]) T.lit23 (by decide) rfl (by simp only [List.forall_mem_cons, List.not_mem_nil, false_imp_iff, implies_true, and_true]; exact rfl) rfl ?_
    intro b220 w221 e222 c223 hb224
    have ge_b220 : w0.heap.size ≤ b220 := by rw [e222]; exact HC.size
    have ne_b11_b220 : b11 ≠ b220 := by rw [e222]; exact hb219.ne_size
    replace HC := HC.then c223
    replace hb219 := hb219.tr0 c223
    clear e222
    refine mI rfl <| mI rfl <| aL rfl <| aI rfl <| aI rfl <| en <| x_ret <| then_r <| ret_tmp3 (v := .slice _ _ _) (v2 := .int _ _) (v3 := .int _ _) rfl rfl rfl rfl ?_
    rw [nextP_err hA hB he]
    exact ⟨[nilP], some ⟨b220, 0, none⟩, 1, rfl, (fun h => absurd h (Int.natCast_ne_zero.2 he0)), sl_one (T := 33) hb224 ge_b220, HC⟩
  ·try simp only [nm, ne_eq] at h2
   have hc36 : byte w 0 ≠ 36 := fun e => by have h8 : ((byte w 0).toNat : Int) = 36 := (by rw [e]; rfl); first | exact h2 h8 | omega | simp_all
   refine x_skip <| then_n <| x_seq <| sr rfl <| mI rfl <| Wp rfl <| st_neq rfl rfl <| mB rfl <| w_split (d := 55) rfl (fun g225 => ?_) (fun g225 => ?_)
   ·try simp only [nm, ne_eq] at g225
    refine w_yes 2 55 true <| st_move (v := .bool _) rfl <| w_yes 2 55 true <| st_move (v := .bool _) rfl <| w_split (d := 57) rfl (fun g226 => ?_) (fun g226 => ?_)
    ·try simp only [nm, ne_eq] at g226
     iterate 3 refine w_no 4 57 false ?_
     refine w_no 7 60 true <| w_no 7 60 true <| w_no 4 57 false <| w_no 4 57 false <| w_no 11 64 true <| w_no 11 64 true <| w_no 4 57 false <| w_yes 2 55 true <| st_pick (b := true) (v := .bool _) rfl rfl <| pT rfl rfl <| en <| x_cond (t := true) rfl (fun h3 => ?_) (fun h3 => ?_)
     rotate_left
     · exact absurd h3 (by decide)
     have hB1 : byte w 0 ≠ 36 ∧ byte w 0 ≠ 96 ∧ ((!decide (m = 0)) = true ∨ (byte w 0 ≠ 39 ∧ byte w 0 ≠ 34 ∧ byte w 0 ≠ 92)) := ⟨hc36, (fun e => by have h8 : ((byte w 0).toNat : Int) = 96 := (by rw [e]; rfl); first | omega | simp_all), by first | (left; assumption) | (left; simp_all; done) | (right; exact ⟨fun e => by have h8 : ((byte w 0).toNat : Int) = 39 := (by rw [e]; rfl); first | omega | simp_all, fun e => by have h8 : ((byte w 0).toNat : Int) = 34 := (by rw [e]; rfl); first | omega | simp_all, fun e => by have h8 : ((byte w 0).toNat : Int) = 92 := (by rw [e]; rfl); first | omega | simp_all⟩)⟩
     refine sr rfl <| mS rfl <| Wp rfl <| st_sshi (j := 1) T.u9 rfl ⟨_, rfl⟩ (by omega) <| mB rfl <| Wp rfl <| st_call (ags := [_, _]) rfl rfl T.ent36 rfl (rtext_spec (w.take 1) _ _) ?_
     rintro _ w227 ⟨rfl, c228⟩
     replace HC := HC.then c228
     refine Wp rfl <| st_lit (ps := [(0, .tmp 73)]) (vs := [.int _ _, S _, S _, S _, S _, .bool _]) T.lit23 (by decide) rfl (by simp only [List.forall_mem_cons, List.not_mem_nil, false_imp_iff, implies_true, and_true]; exact rfl) rfl ?_
     intro b229 w230 e231 c232 hb233
     have ge_b229 : w0.heap.size ≤ b229 := by rw [e231]; exact HC.size
     replace HC := HC.then c232
     clear e231
     refine aL rfl <| aI rfl <| aI rfl <| en <| x_ret <| then_r <| ret_tmp3 (v := .slice _ _ _) (v2 := .int _ _) (v3 := .int _ _) rfl rfl rfl rfl ?_
     rw [nextP_one hA hB1]
     exact ⟨[txtP (w.take 1) (!decide (m = 0))], some ⟨b229, 0, none⟩, 1, rfl, fun _ => rfl, sl_one (T := 33) hb233 ge_b229, HC⟩
    ·try simp only [nm, ne_eq] at g226
     refine w_yes 4 57 false <| st_move (v := .int _ _) rfl <| w_yes 4 57 false <| st_neq rfl rfl <| w_yes 4 57 false <| st_move (v := .bool _) rfl <| w_split (d := 60) rfl (fun g234 => ?_) (fun g234 => ?_)
     ·try simp only [nm, ne_eq] at g234
      refine w_yes 7 60 true <| st_move (v := .int _ _) rfl <| w_yes 7 60 true <| st_neq rfl rfl <| w_yes 4 57 false <| st_pick (b := true) (v := .bool _) rfl rfl <| w_yes 4 57 false <| st_move (v := .bool _) rfl <| w_split (d := 64) rfl (fun g235 => ?_) (fun g235 => ?_)
      ·try simp only [nm, ne_eq] at g235
       refine w_yes 11 64 true <| st_move (v := .int _ _) rfl <| w_yes 11 64 true <| st_neq rfl rfl <| w_yes 4 57 false <| st_pick (b := true) (v := .bool _) rfl rfl <| w_yes 2 55 true <| st_pick (b := false) (v := .bool _) rfl rfl <| pT rfl rfl <| en <| x_cond rfl (fun h3 => ?_) (fun h3 => ?_)
       ·try simp only [nm, ne_eq] at h3
        have hB1 : byte w 0 ≠ 36 ∧ byte w 0 ≠ 96 ∧ ((!decide (m = 0)) = true ∨ (byte w 0 ≠ 39 ∧ byte w 0 ≠ 34 ∧ byte w 0 ≠ 92)) := ⟨hc36, (fun e => by have h8 : ((byte w 0).toNat : Int) = 96 := (by rw [e]; rfl); first | omega | simp_all), by first | (left; assumption) | (left; simp_all; done) | (right; exact ⟨fun e => by have h8 : ((byte w 0).toNat : Int) = 39 := (by rw [e]; rfl); first | omega | simp_all, fun e => by have h8 : ((byte w 0).toNat : Int) = 34 := (by rw [e]; rfl); first | omega | simp_all, fun e => by have h8 : ((byte w 0).toNat : Int) = 92 := (by rw [e]; rfl); first | omega | simp_all⟩)⟩
        refine sr rfl <| mS rfl <| Wp rfl <| st_sshi (j := 1) T.u9 rfl ⟨_, rfl⟩ (by omega) <| mB rfl <| Wp rfl <| st_call (ags := [_, _]) rfl rfl T.ent36 rfl (rtext_spec (w.take 1) _ _) ?_
        rintro _ w236 ⟨rfl, c237⟩
        replace HC := HC.then c237
        refine Wp rfl <| st_lit (ps := [(0, .tmp 73)]) (vs := [.int _ _, S _, S _, S _, S _, .bool _]) T.lit23 (by decide) rfl (by simp only [List.forall_mem_cons, List.not_mem_nil, false_imp_iff, implies_true, and_true]; exact rfl) rfl ?_
        intro b238 w239 e240 c241 hb242
        have ge_b238 : w0.heap.size ≤ b238 := by rw [e240]; exact HC.size
        replace HC := HC.then c241
        clear e240
        refine aL rfl <| aI rfl <| aI rfl <| en <| x_ret <| then_r <| ret_tmp3 (v := .slice _ _ _) (v2 := .int _ _) (v3 := .int _ _) rfl rfl rfl rfl ?_
        rw [nextP_one hA hB1]
        exact ⟨[txtP (w.take 1) (!decide (m = 0))], some ⟨b238, 0, none⟩, 1, rfl, fun _ => rfl, sl_one (T := 33) hb242 ge_b238, HC⟩
       ·try simp only [nm, ne_eq] at h3
        have hB : ¬ (byte w 0 ≠ 36 ∧ byte w 0 ≠ 96 ∧ ((!decide (m = 0)) = true ∨ (byte w 0 ≠ 39 ∧ byte w 0 ≠ 34 ∧ byte w 0 ≠ 92))) := by rintro ⟨q1, q2, q3⟩; have z1 : ((byte w 0).toNat : Int) ≠ 96 := (fun e => q2 (u8_eq e rfl)); rcases q3 with q3 | ⟨q4, q5, q6⟩; (first | omega | simp_all); (have z2 : ((byte w 0).toNat : Int) ≠ 39 := (fun e => q4 (u8_eq e rfl)); have z3 : ((byte w 0).toNat : Int) ≠ 34 := (fun e => q5 (u8_eq e rfl)); have z4 : ((byte w 0).toNat : Int) ≠ 92 := (fun e => q6 (u8_eq e rfl)); first | omega | simp_all)
        refine x_skip <| then_n <| x_seq ?_
        rcases skip_cases w hw with ⟨n, hn, hn1, hn2⟩ | ⟨e, he, he0⟩
        ·refine x_region rfl <| mS rfl <| Wp rfl <| st_call (ags := [_, _]) rfl rfl T.ent38 rfl (RSk_ok w _ hs hw hn) ?_
         rintro _ w243 ⟨rfl, c244⟩
         replace HC := HC.then c244
         refine mv (v := .tuple ⟨[_, _]⟩) rfl <| Wp rfl <| st_extract (vs := [_, _]) (v := .int _ _) rfl rfl <| Wp rfl <| st_extract (vs := [_, _]) (v := .int _ _) rfl rfl <| aI rfl <| aI rfl <| en <| x_seq <| sr rfl <| mI rfl <| Wp rfl <| st_neq rfl rfl <| en <| x_cond rfl (fun h4 => ?_) (fun h4 => ?_)
         ·try simp only [nm, ne_eq] at h4
          first | exact absurd rfl h4 | exact absurd trivial h4 | (simp at h4; done)
         ·try simp only [nm, ne_eq] at h4
          refine x_skip <| then_n <| x_seq <| sr rfl <| mI rfl <| en <| x_block <| sr rfl <| Wp rfl <| st_eql rfl rfl <| aB rfl <| en <| x_cond rfl (fun h5 => ?_) (fun h5 => ?_)
          ·try simp only [nm, ne_eq] at h5
           have hc0 : byte w 0 = 96 := u8_eq (by first | assumption | simp_all) rfl
           have hn3 := two_le hw hn (.inr (.inr hc0))
           have hs1 : IntKind.i64.wrap ((n : Int) - 1) = ((n - 1 : Nat) : Int) := by rw [wrap64_id (by omega) (by omega)]; omega
           refine sr rfl <| mS rfl <| mI rfl <| Wp rfl <| st_subk rfl rfl (by exact hs1) <| Wp rfl <| st_sslice (i := 1) (j := n - 1) T.u9 rfl ⟨_, rfl⟩ ⟨_, rfl⟩ (by omega) (by omega) <| Wp rfl <| st_call (ags := [_]) rfl rfl T.ent39 rfl (unticked_spec ((w.take (n - 1)).drop 1) _ (by simp only [List.length_drop, List.length_take]; omega)) ?_
           rintro _ w245 ⟨rfl, c246⟩
           replace HC := HC.then c246
           refine mB rfl <| Wp rfl <| st_bld (ps := [(0, .const (.int .i64 2)), (1, .tmp 90), (5, .tmp 91)]) (vs := [.int _ _, S _, S _, S _, S _, .bool _]) T.bld33 rfl <| Wp rfl <| st_lit (ps := [(0, .tmp 92)]) (vs := [.int _ _, S _, S _, S _, S _, .bool _]) T.lit23 (by decide) rfl (by simp only [List.forall_mem_cons, List.not_mem_nil, false_imp_iff, implies_true, and_true]; exact rfl) rfl ?_
           intro b247 w248 e249 c250 hb251
           have ge_b247 : w0.heap.size ≤ b247 := by rw [e249]; exact HC.size
           replace HC := HC.then c250
           clear e249
           refine mI rfl <| aL rfl <| aI rfl <| aI rfl <| en <| x_ret <| block_r <| then_r <| ret_tmp3 (v := .slice _ _ _) (v2 := .int _ _) (v3 := .int _ _) rfl rfl rfl rfl ?_
           rw [nextP_ok hA hB hn, if_neg hc36, if_neg (by rw [hc0]; decide), if_neg (by rw [hc0]; decide), if_neg (by rw [hc0]; decide)]
           exact ⟨[(⟨2, untick ((w.take (n - 1)).drop 1), [], [], [], (!decide (m = 0))⟩ : Prt)], some ⟨b247, 0, none⟩, 1, rfl, fun _ => rfl, sl_one (T := 33) hb251 ge_b247, HC⟩
          ·try simp only [nm, ne_eq] at h5
           have hc96 : byte w 0 ≠ 96 := fun e => by have h8 : ((byte w 0).toNat : Int) = 96 := (by rw [e]; rfl); first | exact h5 h8 | omega | simp_all
           refine sr rfl <| Wp rfl <| st_eql rfl rfl <| aB rfl <| en <| x_cond rfl (fun h6 => ?_) (fun h6 => ?_)
           ·try simp only [nm, ne_eq] at h6
            have hc0 : byte w 0 = 39 := u8_eq (by first | assumption | simp_all) rfl
            have hn3 := two_le hw hn (.inl hc0)
            have hs1 : IntKind.i64.wrap ((n : Int) - 1) = ((n - 1 : Nat) : Int) := by rw [wrap64_id (by omega) (by omega)]; omega
            refine sr rfl <| mS rfl <| mI rfl <| Wp rfl <| st_subk rfl rfl (by exact hs1) <| Wp rfl <| st_sslice (i := 1) (j := n - 1) T.u9 rfl ⟨_, rfl⟩ ⟨_, rfl⟩ (by omega) (by omega) <| Wp rfl <| st_call (ags := [_, _]) rfl rfl T.ent36 rfl (rtext_spec _ true _) ?_
            rintro _ w252 ⟨rfl, c253⟩
            replace HC := HC.then c253
            refine Wp rfl <| st_lit (ps := [(0, .tmp 101)]) (vs := [.int _ _, S _, S _, S _, S _, .bool _]) T.lit23 (by decide) rfl (by simp only [List.forall_mem_cons, List.not_mem_nil, false_imp_iff, implies_true, and_true]; exact rfl) rfl ?_
            intro b254 w255 e256 c257 hb258
            have ge_b254 : w0.heap.size ≤ b254 := by rw [e256]; exact HC.size
            replace HC := HC.then c257
            clear e256
            refine mI rfl <| aL rfl <| aI rfl <| aI rfl <| en <| x_ret <| block_r <| then_r <| ret_tmp3 (v := .slice _ _ _) (v2 := .int _ _) (v3 := .int _ _) rfl rfl rfl rfl ?_
            rw [nextP_ok hA hB hn, if_neg hc36, if_pos hc0]
            exact ⟨[txtP ((w.take (n - 1)).drop 1) true], some ⟨b254, 0, none⟩, 1, rfl, fun _ => rfl, sl_one (T := 33) hb258 ge_b254, HC⟩
           ·try simp only [nm, ne_eq] at h6
            have hc39 : byte w 0 ≠ 39 := fun e => by have h8 : ((byte w 0).toNat : Int) = 39 := (by rw [e]; rfl); first | exact h6 h8 | omega | simp_all
            refine sr rfl <| Wp rfl <| st_eql rfl rfl <| aB rfl <| en <| x_cond rfl (fun h7 => ?_) (fun h7 => ?_)
            ·try simp only [nm, ne_eq] at h7
             have hc0 : byte w 0 = 34 := u8_eq (by first | assumption | simp_all) rfl
             have hn3 := two_le hw hn (.inr (.inl hc0))
             have hs1 : IntKind.i64.wrap ((n : Int) - 1) = ((n - 1 : Nat) : Int) := by rw [wrap64_id (by omega) (by omega)]; omega
             have hm0 : m = 0 := by rcases Decidable.em (m = 0) with h9 | h9; exact h9; exact absurd ⟨hc36, hc96, .inl (by simp [h9])⟩ hB
             refine x_seq <| sr rfl <| mI rfl <| Wp rfl <| st_eql rfl rfl <| en <| x_cond rfl (fun h8 => ?_) (fun h8 => ?_)
             ·try simp only [nm, ne_eq] at h8
              refine sr rfl <| Wp rfl <| st_call (ags := [_, _]) rfl rfl T.ent36 rfl (rtext_spec [] true _) ?_
              rintro _ w259 ⟨rfl, c260⟩
              replace HC := HC.then c260
              refine Wp rfl <| st_lit (ps := [(0, .tmp 108)]) (vs := [.int _ _, S _, S _, S _, S _, .bool _]) T.lit23 (by decide) rfl (by simp only [List.forall_mem_cons, List.not_mem_nil, false_imp_iff, implies_true, and_true]; exact rfl) rfl ?_
              intro b261 w262 e263 c264 hb265
              have ge_b261 : w0.heap.size ≤ b261 := by rw [e263]; exact HC.size
              replace HC := HC.then c264
              clear e263
              refine mI rfl <| aL rfl <| aI rfl <| aI rfl <| en <| x_ret <| then_r <| block_r <| then_r <| ret_tmp3 (v := .slice _ _ _) (v2 := .int _ _) (v3 := .int _ _) rfl rfl rfl rfl ?_
              rw [nextP_ok hA hB hn, if_neg hc36, if_neg hc39, if_pos hc0, if_pos (by omega)]
              exact ⟨[txtP [] true], some ⟨b261, 0, none⟩, 1, rfl, fun _ => rfl, sl_one (T := 33) hb265 ge_b261, HC⟩
             ·try simp only [nm, ne_eq] at h8
              refine x_skip <| then_n <| sr rfl <| mS rfl <| mI rfl <| Wp rfl <| st_subk rfl rfl (by exact hs1) <| Wp rfl <| st_sslice (i := 1) (j := n - 1) T.u9 rfl ⟨_, rfl⟩ ⟨_, rfl⟩ (by omega) (by omega) ?_
              have sz9 := HC.size
              refine Wp rfl <| st_call (ags := [_, _]) rfl rfl T.ent10 rfl (hP hm0 ((w.take (n - 1)).drop 1) _ (by simp only [List.length_drop, List.length_take]; omega)) ?_
              rintro _ w266 ⟨A9, cap9, rfl, hs9, c267⟩
              replace HC := HC.then c267
              refine mv (v := .tuple ⟨[_, _]⟩) rfl <| Wp rfl <| st_extract (vs := [_, _]) (v := .slice _ _ _) rfl rfl <| Wp rfl <| st_extract (vs := [_, _]) (v := .int _ _) rfl rfl <| aL rfl <| aI rfl <| en <| sr rfl <| mL rfl <| mI rfl <| mI rfl <| aL rfl <| aI rfl <| aI rfl <| en <| x_ret <| block_r <| then_r <| ret_tmp3 (v := .slice _ _ _) (v2 := .int _ _) (v3 := .int _ _) rfl rfl rfl rfl ?_
              rw [nextP_ok hA hB hn, if_neg hc36, if_neg hc39, if_pos hc0, if_neg (by omega)]
              exact ⟨_, A9, cap9, rfl, fun _ => rfl, (hs9.mono (fun k _ h => Nat.le_trans sz9 h)), HC⟩
            ·try simp only [nm, ne_eq] at h7
             have hc34 : byte w 0 ≠ 34 := fun e => by have h8 : ((byte w 0).toNat : Int) = 34 := (by rw [e]; rfl); first | exact h7 h8 | omega | simp_all
             refine x_skip <| block_n <| then_n <| x_seq <| x_seq ?_
             have hc0 : byte w 0 = 92 := by rcases Decidable.em (byte w 0 = 92) with h9 | h9; exact h9; exact absurd ⟨hc36, hc96, .inr ⟨hc39, hc34, h9⟩⟩ hB
             have hdl : ((w.take n).drop 1).length = n - 1 := by simp only [List.length_drop, List.length_take]; omega
             refine x_region rfl <| mS rfl <| mI rfl <| Wp rfl <| st_sslice (i := 1) (j := n) T.u9 rfl ⟨_, rfl⟩ ⟨_, rfl⟩ (by omega) (by omega) <| Wp rfl <| st_seql rfl rfl <| mB rfl <| w_split (d := 126) rfl (fun g268 => ?_) (fun g268 => ?_)
             ·try simp only [nm, ne_eq] at g268
              refine w_no 4 126 false <| w_no 4 126 false <| pT rfl rfl <| en <| x_cond (t := true) rfl (fun h9 => ?_) (fun h9 => ?_)
              rotate_left
              · exact absurd h9 (by decide)
              have hz : (w.take n).drop 1 = [10] ∨ (w.take n).drop 1 = [] := by first | (left; assumption) | (right; exact List.length_eq_zero_iff.1 (by omega)) | simp_all
              refine sr rfl <| mI rfl <| aL rfl <| aI rfl <| aI rfl <| en <| x_ret <| then_r <| ret_tmp3 (v := .slice _ _ _) (v2 := .int _ _) (v3 := .int _ _) rfl rfl rfl rfl ?_
              rw [nextP_ok hA hB hn, if_neg hc36, if_neg hc39, if_neg hc34, if_pos hc0, if_pos hz]
              exact ⟨[], none, 0, rfl, fun _ => rfl, .nil, HC⟩
             ·try simp only [nm, ne_eq] at g268
              refine w_yes 4 126 false <| st_move (v := .int _ _) rfl <| w_yes 4 126 false <| st_eql rfl rfl <| pF rfl rfl <| en <| x_cond rfl (fun h9 => ?_) (fun h9 => ?_)
              ·try simp only [nm, ne_eq] at h9
               have hz : (w.take n).drop 1 = [10] ∨ (w.take n).drop 1 = [] := by first | (left; assumption) | (right; exact List.length_eq_zero_iff.1 (by omega)) | simp_all
               refine sr rfl <| mI rfl <| aL rfl <| aI rfl <| aI rfl <| en <| x_ret <| then_r <| ret_tmp3 (v := .slice _ _ _) (v2 := .int _ _) (v3 := .int _ _) rfl rfl rfl rfl ?_
               rw [nextP_ok hA hB hn, if_neg hc36, if_neg hc39, if_neg hc34, if_pos hc0, if_pos hz]
               exact ⟨[], none, 0, rfl, fun _ => rfl, .nil, HC⟩
              ·try simp only [nm, ne_eq] at h9
               have hz : ¬ ((w.take n).drop 1 = [10] ∨ (w.take n).drop 1 = []) := by rintro (q | q); (first | contradiction | simp_all); (have q9 := congrArg List.length q; rw [hdl] at q9; simp only [List.length_nil] at q9; omega)
               refine x_skip <| then_n <| sr rfl <| mS rfl <| mI rfl <| Wp rfl <| st_sslice (i := 1) (j := n) T.u9 rfl ⟨_, rfl⟩ ⟨_, rfl⟩ (by omega) (by omega) <| Wp rfl <| st_call (ags := [_, _]) rfl rfl T.ent36 rfl (rtext_spec _ true _) ?_
               rintro _ w269 ⟨rfl, c270⟩
               replace HC := HC.then c270
               refine Wp rfl <| st_lit (ps := [(0, .tmp 134)]) (vs := [.int _ _, S _, S _, S _, S _, .bool _]) T.lit23 (by decide) rfl (by simp only [List.forall_mem_cons, List.not_mem_nil, false_imp_iff, implies_true, and_true]; exact rfl) rfl ?_
               intro b271 w272 e273 c274 hb275
               have ge_b271 : w0.heap.size ≤ b271 := by rw [e273]; exact HC.size
               replace HC := HC.then c274
               clear e273
               refine mI rfl <| aL rfl <| aI rfl <| aI rfl <| en <| x_ret <| ret_tmp3 (v := .slice _ _ _) (v2 := .int _ _) (v3 := .int _ _) rfl rfl rfl rfl ?_
               rw [nextP_ok hA hB hn, if_neg hc36, if_neg hc39, if_neg hc34, if_pos hc0, if_neg hz]
               exact ⟨[txtP ((w.take n).drop 1) true], some ⟨b271, 0, none⟩, 1, rfl, fun _ => rfl, sl_one (T := 33) hb275 ge_b271, HC⟩
        ·refine x_region rfl <| mS rfl <| Wp rfl <| st_call (ags := [_, _]) rfl rfl T.ent38 rfl (RSk_err w _ hs hw he) ?_
         rintro _ w276 ⟨rfl, c277⟩
         replace HC := HC.then c277
         refine mv (v := .tuple ⟨[_, _]⟩) rfl <| Wp rfl <| st_extract (vs := [_, _]) (v := .int _ _) rfl rfl <| Wp rfl <| st_extract (vs := [_, _]) (v := .int _ _) rfl rfl <| aI rfl <| aI rfl <| en <| x_seq <| sr rfl <| mI rfl <| Wp rfl <| st_neq rfl rfl <| en <| x_cond rfl (fun h4 => ?_) (fun h4 => ?_)
         ·try simp only [nm, ne_eq] at h4
          refine sr rfl <| mI rfl <| aL rfl <| aI rfl <| aI rfl <| en <| x_ret <| then_r <| ret_tmp3 (v := .slice _ _ _) (v2 := .int _ _) (v3 := .int _ _) rfl rfl rfl rfl ?_
          rw [nextP_err hA hB he]
          exact ⟨[], none, 0, rfl, fun _ => rfl, .nil, HC⟩
         ·try simp only [nm, ne_eq] at h4
          exfalso; first | omega | simp_all
      ·try simp only [nm, ne_eq] at g235
       refine w_no 11 64 true <| w_no 11 64 true <| w_yes 4 57 false <| st_pick (b := false) (v := .bool _) rfl rfl <| w_yes 2 55 true <| st_pick (b := false) (v := .bool _) rfl rfl <| pT rfl rfl <| en <| x_cond (t := false) rfl (fun h3 => ?_) (fun h3 => ?_)
       · exact absurd h3 (by decide)
       have hB : ¬ (byte w 0 ≠ 36 ∧ byte w 0 ≠ 96 ∧ ((!decide (m = 0)) = true ∨ (byte w 0 ≠ 39 ∧ byte w 0 ≠ 34 ∧ byte w 0 ≠ 92))) := by rintro ⟨q1, q2, q3⟩; have z1 : ((byte w 0).toNat : Int) ≠ 96 := (fun e => q2 (u8_eq e rfl)); rcases q3 with q3 | ⟨q4, q5, q6⟩; (first | omega | simp_all); (have z2 : ((byte w 0).toNat : Int) ≠ 39 := (fun e => q4 (u8_eq e rfl)); have z3 : ((byte w 0).toNat : Int) ≠ 34 := (fun e => q5 (u8_eq e rfl)); have z4 : ((byte w 0).toNat : Int) ≠ 92 := (fun e => q6 (u8_eq e rfl)); first | omega | simp_all)
       refine x_skip <| then_n <| x_seq ?_
       rcases skip_cases w hw with ⟨n, hn, hn1, hn2⟩ | ⟨e, he, he0⟩
       ·refine x_region rfl <| mS rfl <| Wp rfl <| st_call (ags := [_, _]) rfl rfl T.ent38 rfl (RSk_ok w _ hs hw hn) ?_
        rintro _ w278 ⟨rfl, c279⟩
        replace HC := HC.then c279
        refine mv (v := .tuple ⟨[_, _]⟩) rfl <| Wp rfl <| st_extract (vs := [_, _]) (v := .int _ _) rfl rfl <| Wp rfl <| st_extract (vs := [_, _]) (v := .int _ _) rfl rfl <| aI rfl <| aI rfl <| en <| x_seq <| sr rfl <| mI rfl <| Wp rfl <| st_neq rfl rfl <| en <| x_cond rfl (fun h4 => ?_) (fun h4 => ?_)
        ·try simp only [nm, ne_eq] at h4
         first | exact absurd rfl h4 | exact absurd trivial h4 | (simp at h4; done)
        ·try simp only [nm, ne_eq] at h4
         refine x_skip <| then_n <| x_seq <| sr rfl <| mI rfl <| en <| x_block <| sr rfl <| Wp rfl <| st_eql rfl rfl <| aB rfl <| en <| x_cond rfl (fun h5 => ?_) (fun h5 => ?_)
         ·try simp only [nm, ne_eq] at h5
          have hc0 : byte w 0 = 96 := u8_eq (by first | assumption | simp_all) rfl
          have hn3 := two_le hw hn (.inr (.inr hc0))
          have hs1 : IntKind.i64.wrap ((n : Int) - 1) = ((n - 1 : Nat) : Int) := by rw [wrap64_id (by omega) (by omega)]; omega
          refine sr rfl <| mS rfl <| mI rfl <| Wp rfl <| st_subk rfl rfl (by exact hs1) <| Wp rfl <| st_sslice (i := 1) (j := n - 1) T.u9 rfl ⟨_, rfl⟩ ⟨_, rfl⟩ (by omega) (by omega) <| Wp rfl <| st_call (ags := [_]) rfl rfl T.ent39 rfl (unticked_spec ((w.take (n - 1)).drop 1) _ (by simp only [List.length_drop, List.length_take]; omega)) ?_
          rintro _ w280 ⟨rfl, c281⟩
          replace HC := HC.then c281
          refine mB rfl <| Wp rfl <| st_bld (ps := [(0, .const (.int .i64 2)), (1, .tmp 90), (5, .tmp 91)]) (vs := [.int _ _, S _, S _, S _, S _, .bool _]) T.bld33 rfl <| Wp rfl <| st_lit (ps := [(0, .tmp 92)]) (vs := [.int _ _, S _, S _, S _, S _, .bool _]) T.lit23 (by decide) rfl (by simp only [List.forall_mem_cons, List.not_mem_nil, false_imp_iff, implies_true, and_true]; exact rfl) rfl ?_
          intro b282 w283 e284 c285 hb286
          have ge_b282 : w0.heap.size ≤ b282 := by rw [e284]; exact HC.size
          replace HC := HC.then c285
          clear e284
          refine mI rfl <| aL rfl <| aI rfl <| aI rfl <| en <| x_ret <| block_r <| then_r <| ret_tmp3 (v := .slice _ _ _) (v2 := .int _ _) (v3 := .int _ _) rfl rfl rfl rfl ?_
          rw [nextP_ok hA hB hn, if_neg hc36, if_neg (by rw [hc0]; decide), if_neg (by rw [hc0]; decide), if_neg (by rw [hc0]; decide)]
          exact ⟨[(⟨2, untick ((w.take (n - 1)).drop 1), [], [], [], (!decide (m = 0))⟩ : Prt)], some ⟨b282, 0, none⟩, 1, rfl, fun _ => rfl, sl_one (T := 33) hb286 ge_b282, HC⟩
         ·try simp only [nm, ne_eq] at h5
          have hc96 : byte w 0 ≠ 96 := fun e => by have h8 : ((byte w 0).toNat : Int) = 96 := (by rw [e]; rfl); first | exact h5 h8 | omega | simp_all
          refine sr rfl <| Wp rfl <| st_eql rfl rfl <| aB rfl <| en <| x_cond rfl (fun h6 => ?_) (fun h6 => ?_)
          ·try simp only [nm, ne_eq] at h6
           have hc0 : byte w 0 = 39 := u8_eq (by first | assumption | simp_all) rfl
           have hn3 := two_le hw hn (.inl hc0)
           have hs1 : IntKind.i64.wrap ((n : Int) - 1) = ((n - 1 : Nat) : Int) := by rw [wrap64_id (by omega) (by omega)]; omega
           refine sr rfl <| mS rfl <| mI rfl <| Wp rfl <| st_subk rfl rfl (by exact hs1) <| Wp rfl <| st_sslice (i := 1) (j := n - 1) T.u9 rfl ⟨_, rfl⟩ ⟨_, rfl⟩ (by omega) (by omega) <| Wp rfl <| st_call (ags := [_, _]) rfl rfl T.ent36 rfl (rtext_spec _ true _) ?_
           rintro _ w287 ⟨rfl, c288⟩
           replace HC := HC.then c288
           refine Wp rfl <| st_lit (ps := [(0, .tmp 101)]) (vs := [.int _ _, S _, S _, S _, S _, .bool _]) T.lit23 (by decide) rfl (by simp only [List.forall_mem_cons, List.not_mem_nil, false_imp_iff, implies_true, and_true]; exact rfl) rfl ?_
           intro b289 w290 e291 c292 hb293
           have ge_b289 : w0.heap.size ≤ b289 := by rw [e291]; exact HC.size
           replace HC := HC.then c292
           clear e291
           refine mI rfl <| aL rfl <| aI rfl <| aI rfl <| en <| x_ret <| block_r <| then_r <| ret_tmp3 (v := .slice _ _ _) (v2 := .int _ _) (v3 := .int _ _) rfl rfl rfl rfl ?_
           rw [nextP_ok hA hB hn, if_neg hc36, if_pos hc0]
           exact ⟨[txtP ((w.take (n - 1)).drop 1) true], some ⟨b289, 0, none⟩, 1, rfl, fun _ => rfl, sl_one (T := 33) hb293 ge_b289, HC⟩
          ·try simp only [nm, ne_eq] at h6
           have hc39 : byte w 0 ≠ 39 := fun e => by have h8 : ((byte w 0).toNat : Int) = 39 := (by rw [e]; rfl); first | exact h6 h8 | omega | simp_all
           refine sr rfl <| Wp rfl <| st_eql rfl rfl <| aB rfl <| en <| x_cond rfl (fun h7 => ?_) (fun h7 => ?_)
           ·try simp only [nm, ne_eq] at h7
            have hc0 : byte w 0 = 34 := u8_eq (by first | assumption | simp_all) rfl
            have hn3 := two_le hw hn (.inr (.inl hc0))
            have hs1 : IntKind.i64.wrap ((n : Int) - 1) = ((n - 1 : Nat) : Int) := by rw [wrap64_id (by omega) (by omega)]; omega
            have hm0 : m = 0 := by rcases Decidable.em (m = 0) with h9 | h9; exact h9; exact absurd ⟨hc36, hc96, .inl (by simp [h9])⟩ hB
            refine x_seq <| sr rfl <| mI rfl <| Wp rfl <| st_eql rfl rfl <| en <| x_cond rfl (fun h8 => ?_) (fun h8 => ?_)
            ·try simp only [nm, ne_eq] at h8
             refine sr rfl <| Wp rfl <| st_call (ags := [_, _]) rfl rfl T.ent36 rfl (rtext_spec [] true _) ?_
             rintro _ w294 ⟨rfl, c295⟩
             replace HC := HC.then c295
             refine Wp rfl <| st_lit (ps := [(0, .tmp 108)]) (vs := [.int _ _, S _, S _, S _, S _, .bool _]) T.lit23 (by decide) rfl (by simp only [List.forall_mem_cons, List.not_mem_nil, false_imp_iff, implies_true, and_true]; exact rfl) rfl ?_
             intro b296 w297 e298 c299 hb300
             have ge_b296 : w0.heap.size ≤ b296 := by rw [e298]; exact HC.size
             replace HC := HC.then c299
             clear e298
             refine mI rfl <| aL rfl <| aI rfl <| aI rfl <| en <| x_ret <| then_r <| block_r <| then_r <| ret_tmp3 (v := .slice _ _ _) (v2 := .int _ _) (v3 := .int _ _) rfl rfl rfl rfl ?_
             rw [nextP_ok hA hB hn, if_neg hc36, if_neg hc39, if_pos hc0, if_pos (by omega)]
             exact ⟨[txtP [] true], some ⟨b296, 0, none⟩, 1, rfl, fun _ => rfl, sl_one (T := 33) hb300 ge_b296, HC⟩
            ·try simp only [nm, ne_eq] at h8
             refine x_skip <| then_n <| sr rfl <| mS rfl <| mI rfl <| Wp rfl <| st_subk rfl rfl (by exact hs1) <| Wp rfl <| st_sslice (i := 1) (j := n - 1) T.u9 rfl ⟨_, rfl⟩ ⟨_, rfl⟩ (by omega) (by omega) ?_
             have sz9 := HC.size
             refine Wp rfl <| st_call (ags := [_, _]) rfl rfl T.ent10 rfl (hP hm0 ((w.take (n - 1)).drop 1) _ (by simp only [List.length_drop, List.length_take]; omega)) ?_
             rintro _ w301 ⟨A9, cap9, rfl, hs9, c302⟩
             replace HC := HC.then c302
             refine mv (v := .tuple ⟨[_, _]⟩) rfl <| Wp rfl <| st_extract (vs := [_, _]) (v := .slice _ _ _) rfl rfl <| Wp rfl <| st_extract (vs := [_, _]) (v := .int _ _) rfl rfl <| aL rfl <| aI rfl <| en <| sr rfl <| mL rfl <| mI rfl <| mI rfl <| aL rfl <| aI rfl <| aI rfl <| en <| x_ret <| block_r <| then_r <| ret_tmp3 (v := .slice _ _ _) (v2 := .int _ _) (v3 := .int _ _) rfl rfl rfl rfl ?_
             rw [nextP_ok hA hB hn, if_neg hc36, if_neg hc39, if_pos hc0, if_neg (by omega)]
             exact ⟨_, A9, cap9, rfl, fun _ => rfl, (hs9.mono (fun k _ h => Nat.le_trans sz9 h)), HC⟩
           ·try simp only [nm, ne_eq] at h7
            have hc34 : byte w 0 ≠ 34 := fun e => by have h8 : ((byte w 0).toNat : Int) = 34 := (by rw [e]; rfl); first | exact h7 h8 | omega | simp_all
            refine x_skip <| block_n <| then_n <| x_seq <| x_seq ?_
            have hc0 : byte w 0 = 92 := by rcases Decidable.em (byte w 0 = 92) with h9 | h9; exact h9; exact absurd ⟨hc36, hc96, .inr ⟨hc39, hc34, h9⟩⟩ hB
            have hdl : ((w.take n).drop 1).length = n - 1 := by simp only [List.length_drop, List.length_take]; omega
            refine x_region rfl <| mS rfl <| mI rfl <| Wp rfl <| st_sslice (i := 1) (j := n) T.u9 rfl ⟨_, rfl⟩ ⟨_, rfl⟩ (by omega) (by omega) <| Wp rfl <| st_seql rfl rfl <| mB rfl <| w_split (d := 126) rfl (fun g303 => ?_) (fun g303 => ?_)
            ·try simp only [nm, ne_eq] at g303
             refine w_no 4 126 false <| w_no 4 126 false <| pT rfl rfl <| en <| x_cond (t := true) rfl (fun h9 => ?_) (fun h9 => ?_)
             rotate_left
             · exact absurd h9 (by decide)
             have hz : (w.take n).drop 1 = [10] ∨ (w.take n).drop 1 = [] := by first | (left; assumption) | (right; exact List.length_eq_zero_iff.1 (by omega)) | simp_all
             refine sr rfl <| mI rfl <| aL rfl <| aI rfl <| aI rfl <| en <| x_ret <| then_r <| ret_tmp3 (v := .slice _ _ _) (v2 := .int _ _) (v3 := .int _ _) rfl rfl rfl rfl ?_
             rw [nextP_ok hA hB hn, if_neg hc36, if_neg hc39, if_neg hc34, if_pos hc0, if_pos hz]
             exact ⟨[], none, 0, rfl, fun _ => rfl, .nil, HC⟩
            ·try simp only [nm, ne_eq] at g303
             refine w_yes 4 126 false <| st_move (v := .int _ _) rfl <| w_yes 4 126 false <| st_eql rfl rfl <| pF rfl rfl <| en <| x_cond rfl (fun h9 => ?_) (fun h9 => ?_)
             ·try simp only [nm, ne_eq] at h9
              have hz : (w.take n).drop 1 = [10] ∨ (w.take n).drop 1 = [] := by first | (left; assumption) | (right; exact List.length_eq_zero_iff.1 (by omega)) | simp_all
              refine sr rfl <| mI rfl <| aL rfl <| aI rfl <| aI rfl <| en <| x_ret <| then_r <| ret_tmp3 (v := .slice _ _ _) (v2 := .int _ _) (v3 := .int _ _) rfl rfl rfl rfl ?_
              rw [nextP_ok hA hB hn, if_neg hc36, if_neg hc39, if_neg hc34, if_pos hc0, if_pos hz]
              exact ⟨[], none, 0, rfl, fun _ => rfl, .nil, HC⟩
             ·try simp only [nm, ne_eq] at h9
              have hz : ¬ ((w.take n).drop 1 = [10] ∨ (w.take n).drop 1 = []) := by rintro (q | q); (first | contradiction | simp_all); (have q9 := congrArg List.length q; rw [hdl] at q9; simp only [List.length_nil] at q9; omega)
              refine x_skip <| then_n <| sr rfl <| mS rfl <| mI rfl <| Wp rfl <| st_sslice (i := 1) (j := n) T.u9 rfl ⟨_, rfl⟩ ⟨_, rfl⟩ (by omega) (by omega) <| Wp rfl <| st_call (ags := [_, _]) rfl rfl T.ent36 rfl (rtext_spec _ true _) ?_
              rintro _ w304 ⟨rfl, c305⟩
              replace HC := HC.then c305
              refine Wp rfl <| st_lit (ps := [(0, .tmp 134)]) (vs := [.int _ _, S _, S _, S _, S _, .bool _]) T.lit23 (by decide) rfl (by simp only [List.forall_mem_cons, List.not_mem_nil, false_imp_iff, implies_true, and_true]; exact rfl) rfl ?_
              intro b306 w307 e308 c309 hb310
              have ge_b306 : w0.heap.size ≤ b306 := by rw [e308]; exact HC.size
              replace HC := HC.then c309
              clear e308
              refine mI rfl <| aL rfl <| aI rfl <| aI rfl <| en <| x_ret <| ret_tmp3 (v := .slice _ _ _) (v2 := .int _ _) (v3 := .int _ _) rfl rfl rfl rfl ?_
              rw [nextP_ok hA hB hn, if_neg hc36, if_neg hc39, if_neg hc34, if_pos hc0, if_neg hz]
              exact ⟨[txtP ((w.take n).drop 1) true], some ⟨b306, 0, none⟩, 1, rfl, fun _ => rfl, sl_one (T := 33) hb310 ge_b306, HC⟩
       ·refine x_region rfl <| mS rfl <| Wp rfl <| st_call (ags := [_, _]) rfl rfl T.ent38 rfl (RSk_err w _ hs hw he) ?_
        rintro _ w311 ⟨rfl, c312⟩
        replace HC := HC.then c312
        refine mv (v := .tuple ⟨[_, _]⟩) rfl <| Wp rfl <| st_extract (vs := [_, _]) (v := .int _ _) rfl rfl <| Wp rfl <| st_extract (vs := [_, _]) (v := .int _ _) rfl rfl <| aI rfl <| aI rfl <| en <| x_seq <| sr rfl <| mI rfl <| Wp rfl <| st_neq rfl rfl <| en <| x_cond rfl (fun h4 => ?_) (fun h4 => ?_)
        ·try simp only [nm, ne_eq] at h4
         refine sr rfl <| mI rfl <| aL rfl <| aI rfl <| aI rfl <| en <| x_ret <| then_r <| ret_tmp3 (v := .slice _ _ _) (v2 := .int _ _) (v3 := .int _ _) rfl rfl rfl rfl ?_
         rw [nextP_err hA hB he]
         exact ⟨[], none, 0, rfl, fun _ => rfl, .nil, HC⟩
        ·try simp only [nm, ne_eq] at h4
         exfalso; first | omega | simp_all
     ·try simp only [nm, ne_eq] at g234
      refine w_no 7 60 true <| w_no 7 60 true <| w_yes 4 57 false <| st_pick (b := false) (v := .bool _) rfl rfl <| w_yes 4 57 false <| st_move (v := .bool _) rfl <| w_no 11 64 true <| w_no 11 64 true <| w_yes 4 57 false <| st_pick (b := false) (v := .bool _) rfl rfl <| w_yes 2 55 true <| st_pick (b := false) (v := .bool _) rfl rfl <| pT rfl rfl <| en <| x_cond (t := false) rfl (fun h3 => ?_) (fun h3 => ?_)
      · exact absurd h3 (by decide)
      have hB : ¬ (byte w 0 ≠ 36 ∧ byte w 0 ≠ 96 ∧ ((!decide (m = 0)) = true ∨ (byte w 0 ≠ 39 ∧ byte w 0 ≠ 34 ∧ byte w 0 ≠ 92))) := by rintro ⟨q1, q2, q3⟩; have z1 : ((byte w 0).toNat : Int) ≠ 96 := (fun e => q2 (u8_eq e rfl)); rcases q3 with q3 | ⟨q4, q5, q6⟩; (first | omega | simp_all); (have z2 : ((byte w 0).toNat : Int) ≠ 39 := (fun e => q4 (u8_eq e rfl)); have z3 : ((byte w 0).toNat : Int) ≠ 34 := (fun e => q5 (u8_eq e rfl)); have z4 : ((byte w 0).toNat : Int) ≠ 92 := (fun e => q6 (u8_eq e rfl)); first | omega | simp_all)
      refine x_skip <| then_n <| x_seq ?_
      rcases skip_cases w hw with ⟨n, hn, hn1, hn2⟩ | ⟨e, he, he0⟩
      ·refine x_region rfl <| mS rfl <| Wp rfl <| st_call (ags := [_, _]) rfl rfl T.ent38 rfl (RSk_ok w _ hs hw hn) ?_
       rintro _ w313 ⟨rfl, c314⟩
       replace HC := HC.then c314
       refine mv (v := .tuple ⟨[_, _]⟩) rfl <| Wp rfl <| st_extract (vs := [_, _]) (v := .int _ _) rfl rfl <| Wp rfl <| st_extract (vs := [_, _]) (v := .int _ _) rfl rfl <| aI rfl <| aI rfl <| en <| x_seq <| sr rfl <| mI rfl <| Wp rfl <| st_neq rfl rfl <| en <| x_cond rfl (fun h4 => ?_) (fun h4 => ?_)
       ·try simp only [nm, ne_eq] at h4
        first | exact absurd rfl h4 | exact absurd trivial h4 | (simp at h4; done)
       ·try simp only [nm, ne_eq] at h4
        refine x_skip <| then_n <| x_seq <| sr rfl <| mI rfl <| en <| x_block <| sr rfl <| Wp rfl <| st_eql rfl rfl <| aB rfl <| en <| x_cond rfl (fun h5 => ?_) (fun h5 => ?_)
        ·try simp only [nm, ne_eq] at h5
         have hc0 : byte w 0 = 96 := u8_eq (by first | assumption | simp_all) rfl
         have hn3 := two_le hw hn (.inr (.inr hc0))
         have hs1 : IntKind.i64.wrap ((n : Int) - 1) = ((n - 1 : Nat) : Int) := by rw [wrap64_id (by omega) (by omega)]; omega
         refine sr rfl <| mS rfl <| mI rfl <| Wp rfl <| st_subk rfl rfl (by exact hs1) <| Wp rfl <| st_sslice (i := 1) (j := n - 1) T.u9 rfl ⟨_, rfl⟩ ⟨_, rfl⟩ (by omega) (by omega) <| Wp rfl <| st_call (ags := [_]) rfl rfl T.ent39 rfl (unticked_spec ((w.take (n - 1)).drop 1) _ (by simp only [List.length_drop, List.length_take]; omega)) ?_
         rintro _ w315 ⟨rfl, c316⟩
         replace HC := HC.then c316
         refine mB rfl <| Wp rfl <| st_bld (ps := [(0, .const (.int .i64 2)), (1, .tmp 90), (5, .tmp 91)]) (vs := [.int _ _, S _, S _, S _, S _, .bool _]) T.bld33 rfl <| Wp rfl <| st_lit (ps := [(0, .tmp 92)]) (vs := [.int _ _, S _, S _, S _, S _, .bool _]) T.lit23 (by decide) rfl (by simp only [List.forall_mem_cons, List.not_mem_nil, false_imp_iff, implies_true, and_true]; exact rfl) rfl ?_
         intro b317 w318 e319 c320 hb321
         have ge_b317 : w0.heap.size ≤ b317 := by rw [e319]; exact HC.size
         replace HC := HC.then c320
         clear e319
         refine mI rfl <| aL rfl <| aI rfl <| aI rfl <| en <| x_ret <| block_r <| then_r <| ret_tmp3 (v := .slice _ _ _) (v2 := .int _ _) (v3 := .int _ _) rfl rfl rfl rfl ?_
         rw [nextP_ok hA hB hn, if_neg hc36, if_neg (by rw [hc0]; decide), if_neg (by rw [hc0]; decide), if_neg (by rw [hc0]; decide)]
         exact ⟨[(⟨2, untick ((w.take (n - 1)).drop 1), [], [], [], (!decide (m = 0))⟩ : Prt)], some ⟨b317, 0, none⟩, 1, rfl, fun _ => rfl, sl_one (T := 33) hb321 ge_b317, HC⟩
        ·try simp only [nm, ne_eq] at h5
         have hc96 : byte w 0 ≠ 96 := fun e => by have h8 : ((byte w 0).toNat : Int) = 96 := (by rw [e]; rfl); first | exact h5 h8 | omega | simp_all
         refine sr rfl <| Wp rfl <| st_eql rfl rfl <| aB rfl <| en <| x_cond rfl (fun h6 => ?_) (fun h6 => ?_)
         ·try simp only [nm, ne_eq] at h6
          have hc0 : byte w 0 = 39 := u8_eq (by first | assumption | simp_all) rfl
          have hn3 := two_le hw hn (.inl hc0)
          have hs1 : IntKind.i64.wrap ((n : Int) - 1) = ((n - 1 : Nat) : Int) := by rw [wrap64_id (by omega) (by omega)]; omega
          refine sr rfl <| mS rfl <| mI rfl <| Wp rfl <| st_subk rfl rfl (by exact hs1) <| Wp rfl <| st_sslice (i := 1) (j := n - 1) T.u9 rfl ⟨_, rfl⟩ ⟨_, rfl⟩ (by omega) (by omega) <| Wp rfl <| st_call (ags := [_, _]) rfl rfl T.ent36 rfl (rtext_spec _ true _) ?_
          rintro _ w322 ⟨rfl, c323⟩
          replace HC := HC.then c323
          refine Wp rfl <| st_lit (ps := [(0, .tmp 101)]) (vs := [.int _ _, S _, S _, S _, S _, .bool _]) T.lit23 (by decide) rfl (by simp only [List.forall_mem_cons, List.not_mem_nil, false_imp_iff, implies_true, and_true]; exact rfl) rfl ?_
          intro b324 w325 e326 c327 hb328
          have ge_b324 : w0.heap.size ≤ b324 := by rw [e326]; exact HC.size
          replace HC := HC.then c327
          clear e326
          refine mI rfl <| aL rfl <| aI rfl <| aI rfl <| en <| x_ret <| block_r <| then_r <| ret_tmp3 (v := .slice _ _ _) (v2 := .int _ _) (v3 := .int _ _) rfl rfl rfl rfl ?_
          rw [nextP_ok hA hB hn, if_neg hc36, if_pos hc0]
          exact ⟨[txtP ((w.take (n - 1)).drop 1) true], some ⟨b324, 0, none⟩, 1, rfl, fun _ => rfl, sl_one (T := 33) hb328 ge_b324, HC⟩
         ·try simp only [nm, ne_eq] at h6
          have hc39 : byte w 0 ≠ 39 := fun e => by have h8 : ((byte w 0).toNat : Int) = 39 := (by rw [e]; rfl); first | exact h6 h8 | omega | simp_all
          refine sr rfl <| Wp rfl <| st_eql rfl rfl <| aB rfl <| en <| x_cond rfl (fun h7 => ?_) (fun h7 => ?_)
          ·try simp only [nm, ne_eq] at h7
           have hc0 : byte w 0 = 34 := u8_eq (by first | assumption | simp_all) rfl
           have hn3 := two_le hw hn (.inr (.inl hc0))
           have hs1 : IntKind.i64.wrap ((n : Int) - 1) = ((n - 1 : Nat) : Int) := by rw [wrap64_id (by omega) (by omega)]; omega
           have hm0 : m = 0 := by rcases Decidable.em (m = 0) with h9 | h9; exact h9; exact absurd ⟨hc36, hc96, .inl (by simp [h9])⟩ hB
           refine x_seq <| sr rfl <| mI rfl <| Wp rfl <| st_eql rfl rfl <| en <| x_cond rfl (fun h8 => ?_) (fun h8 => ?_)
           ·try simp only [nm, ne_eq] at h8
            refine sr rfl <| Wp rfl <| st_call (ags := [_, _]) rfl rfl T.ent36 rfl (rtext_spec [] true _) ?_
            rintro _ w329 ⟨rfl, c330⟩
            replace HC := HC.then c330
            refine Wp rfl <| st_lit (ps := [(0, .tmp 108)]) (vs := [.int _ _, S _, S _, S _, S _, .bool _]) T.lit23 (by decide) rfl (by simp only [List.forall_mem_cons, List.not_mem_nil, false_imp_iff, implies_true, and_true]; exact rfl) rfl ?_
            intro b331 w332 e333 c334 hb335
            have ge_b331 : w0.heap.size ≤ b331 := by rw [e333]; exact HC.size
            replace HC := HC.then c334
            clear e333
            refine mI rfl <| aL rfl <| aI rfl <| aI rfl <| en <| x_ret <| then_r <| block_r <| then_r <| ret_tmp3 (v := .slice _ _ _) (v2 := .int _ _) (v3 := .int _ _) rfl rfl rfl rfl ?_
            rw [nextP_ok hA hB hn, if_neg hc36, if_neg hc39, if_pos hc0, if_pos (by omega)]
            exact ⟨[txtP [] true], some ⟨b331, 0, none⟩, 1, rfl, fun _ => rfl, sl_one (T := 33) hb335 ge_b331, HC⟩
           ·try simp only [nm, ne_eq] at h8
            refine x_skip <| then_n <| sr rfl <| mS rfl <| mI rfl <| Wp rfl <| st_subk rfl rfl (by exact hs1) <| Wp rfl <| st_sslice (i := 1) (j := n - 1) T.u9 rfl ⟨_, rfl⟩ ⟨_, rfl⟩ (by omega) (by omega) ?_
            have sz9 := HC.size
            refine Wp rfl <| st_call (ags := [_, _]) rfl rfl T.ent10 rfl (hP hm0 ((w.take (n - 1)).drop 1) _ (by simp only [List.length_drop, List.length_take]; omega)) ?_
            rintro _ w336 ⟨A9, cap9, rfl, hs9, c337⟩
            replace HC := HC.then c337
            refine mv (v := .tuple ⟨[_, _]⟩) rfl <| Wp rfl <| st_extract (vs := [_, _]) (v := .slice _ _ _) rfl rfl <| Wp rfl <| st_extract (vs := [_, _]) (v := .int _ _) rfl rfl <| aL rfl <| aI rfl <| en <| sr rfl <| mL rfl <| mI rfl <| mI rfl <| aL rfl <| aI rfl <| aI rfl <| en <| x_ret <| block_r <| then_r <| ret_tmp3 (v := .slice _ _ _) (v2 := .int _ _) (v3 := .int _ _) rfl rfl rfl rfl ?_
            rw [nextP_ok hA hB hn, if_neg hc36, if_neg hc39, if_pos hc0, if_neg (by omega)]
            exact ⟨_, A9, cap9, rfl, fun _ => rfl, (hs9.mono (fun k _ h => Nat.le_trans sz9 h)), HC⟩
          ·try simp only [nm, ne_eq] at h7
           have hc34 : byte w 0 ≠ 34 := fun e => by have h8 : ((byte w 0).toNat : Int) = 34 := (by rw [e]; rfl); first | exact h7 h8 | omega | simp_all
           refine x_skip <| block_n <| then_n <| x_seq <| x_seq ?_
           have hc0 : byte w 0 = 92 := by rcases Decidable.em (byte w 0 = 92) with h9 | h9; exact h9; exact absurd ⟨hc36, hc96, .inr ⟨hc39, hc34, h9⟩⟩ hB
           have hdl : ((w.take n).drop 1).length = n - 1 := by simp only [List.length_drop, List.length_take]; omega
           refine x_region rfl <| mS rfl <| mI rfl <| Wp rfl <| st_sslice (i := 1) (j := n) T.u9 rfl ⟨_, rfl⟩ ⟨_, rfl⟩ (by omega) (by omega) <| Wp rfl <| st_seql rfl rfl <| mB rfl <| w_split (d := 126) rfl (fun g338 => ?_) (fun g338 => ?_)
           ·try simp only [nm, ne_eq] at g338
            refine w_no 4 126 false <| w_no 4 126 false <| pT rfl rfl <| en <| x_cond (t := true) rfl (fun h9 => ?_) (fun h9 => ?_)
            rotate_left
            · exact absurd h9 (by decide)
            have hz : (w.take n).drop 1 = [10] ∨ (w.take n).drop 1 = [] := by first | (left; assumption) | (right; exact List.length_eq_zero_iff.1 (by omega)) | simp_all
            refine sr rfl <| mI rfl <| aL rfl <| aI rfl <| aI rfl <| en <| x_ret <| then_r <| ret_tmp3 (v := .slice _ _ _) (v2 := .int _ _) (v3 := .int _ _) rfl rfl rfl rfl ?_
            rw [nextP_ok hA hB hn, if_neg hc36, if_neg hc39, if_neg hc34, if_pos hc0, if_pos hz]
            exact ⟨[], none, 0, rfl, fun _ => rfl, .nil, HC⟩
           ·try simp only [nm, ne_eq] at g338
            refine w_yes 4 126 false <| st_move (v := .int _ _) rfl <| w_yes 4 126 false <| st_eql rfl rfl <| pF rfl rfl <| en <| x_cond rfl (fun h9 => ?_) (fun h9 => ?_)
            ·try simp only [nm, ne_eq] at h9
             have hz : (w.take n).drop 1 = [10] ∨ (w.take n).drop 1 = [] := by first | (left; assumption) | (right; exact List.length_eq_zero_iff.1 (by omega)) | simp_all
             refine sr rfl <| mI rfl <| aL rfl <| aI rfl <| aI rfl <| en <| x_ret <| then_r <| ret_tmp3 (v := .slice _ _ _) (v2 := .int _ _) (v3 := .int _ _) rfl rfl rfl rfl ?_
             rw [nextP_ok hA hB hn, if_neg hc36, if_neg hc39, if_neg hc34, if_pos hc0, if_pos hz]
             exact ⟨[], none, 0, rfl, fun _ => rfl, .nil, HC⟩
            ·try simp only [nm, ne_eq] at h9
             have hz : ¬ ((w.take n).drop 1 = [10] ∨ (w.take n).drop 1 = []) := by rintro (q | q); (first | contradiction | simp_all); (have q9 := congrArg List.length q; rw [hdl] at q9; simp only [List.length_nil] at q9; omega)
             refine x_skip <| then_n <| sr rfl <| mS rfl <| mI rfl <| Wp rfl <| st_sslice (i := 1) (j := n) T.u9 rfl ⟨_, rfl⟩ ⟨_, rfl⟩ (by omega) (by omega) <| Wp rfl <| st_call (ags := [_, _]) rfl rfl T.ent36 rfl (rtext_spec _ true _) ?_
             rintro _ w339 ⟨rfl, c340⟩
             replace HC := HC.then c340
             refine Wp rfl <| st_lit (ps := [(0, .tmp 134)]) (vs := [.int _ _, S _, S _, S _, S _, .bool _]) T.lit23 (by decide) rfl (by simp only [List.forall_mem_cons, List.not_mem_nil, false_imp_iff, implies_true, and_true]; exact rfl) rfl ?_
             intro b341 w342 e343 c344 hb345
             have ge_b341 : w0.heap.size ≤ b341 := by rw [e343]; exact HC.size
             replace HC := HC.then c344
             clear e343
             refine mI rfl <| aL rfl <| aI rfl <| aI rfl <| en <| x_ret <| ret_tmp3 (v := .slice _ _ _) (v2 := .int _ _) (v3 := .int _ _) rfl rfl rfl rfl ?_
             rw [nextP_ok hA hB hn, if_neg hc36, if_neg hc39, if_neg hc34, if_pos hc0, if_neg hz]
             exact ⟨[txtP ((w.take n).drop 1) true], some ⟨b341, 0, none⟩, 1, rfl, fun _ => rfl, sl_one (T := 33) hb345 ge_b341, HC⟩
      ·refine x_region rfl <| mS rfl <| Wp rfl <| st_call (ags := [_, _]) rfl rfl T.ent38 rfl (RSk_err w _ hs hw he) ?_
       rintro _ w346 ⟨rfl, c347⟩
       replace HC := HC.then c347
       refine mv (v := .tuple ⟨[_, _]⟩) rfl <| Wp rfl <| st_extract (vs := [_, _]) (v := .int _ _) rfl rfl <| Wp rfl <| st_extract (vs := [_, _]) (v := .int _ _) rfl rfl <| aI rfl <| aI rfl <| en <| x_seq <| sr rfl <| mI rfl <| Wp rfl <| st_neq rfl rfl <| en <| x_cond rfl (fun h4 => ?_) (fun h4 => ?_)
       ·try simp only [nm, ne_eq] at h4
        refine sr rfl <| mI rfl <| aL rfl <| aI rfl <| aI rfl <| en <| x_ret <| then_r <| ret_tmp3 (v := .slice _ _ _) (v2 := .int _ _) (v3 := .int _ _) rfl rfl rfl rfl ?_
        rw [nextP_err hA hB he]
        exact ⟨[], none, 0, rfl, fun _ => rfl, .nil, HC⟩
       ·try simp only [nm, ne_eq] at h4
        exfalso; first | omega | simp_all
   ·try simp only [nm, ne_eq] at g225
    refine w_no 2 55 true <| w_no 2 55 true ?_
    iterate 3 refine w_no 4 57 false ?_
    refine w_no 7 60 true <| w_no 7 60 true <| w_no 4 57 false <| w_no 4 57 false <| w_no 11 64 true <| w_no 11 64 true <| w_no 4 57 false <| w_no 2 55 true <| pF rfl rfl <| en <| x_cond (t := false) rfl (fun h3 => ?_) (fun h3 => ?_)
    · exact absurd h3 (by decide)
    have hB : ¬ (byte w 0 ≠ 36 ∧ byte w 0 ≠ 96 ∧ ((!decide (m = 0)) = true ∨ (byte w 0 ≠ 39 ∧ byte w 0 ≠ 34 ∧ byte w 0 ≠ 92))) := by rintro ⟨q1, q2, q3⟩; have z1 : ((byte w 0).toNat : Int) ≠ 96 := (fun e => q2 (u8_eq e rfl)); rcases q3 with q3 | ⟨q4, q5, q6⟩; (first | omega | simp_all); (have z2 : ((byte w 0).toNat : Int) ≠ 39 := (fun e => q4 (u8_eq e rfl)); have z3 : ((byte w 0).toNat : Int) ≠ 34 := (fun e => q5 (u8_eq e rfl)); have z4 : ((byte w 0).toNat : Int) ≠ 92 := (fun e => q6 (u8_eq e rfl)); first | omega | simp_all)
    refine x_skip <| then_n <| x_seq ?_
    rcases skip_cases w hw with ⟨n, hn, hn1, hn2⟩ | ⟨e, he, he0⟩
    ·refine x_region rfl <| mS rfl <| Wp rfl <| st_call (ags := [_, _]) rfl rfl T.ent38 rfl (RSk_ok w _ hs hw hn) ?_
     rintro _ w348 ⟨rfl, c349⟩
     replace HC := HC.then c349
     refine mv (v := .tuple ⟨[_, _]⟩) rfl <| Wp rfl <| st_extract (vs := [_, _]) (v := .int _ _) rfl rfl <| Wp rfl <| st_extract (vs := [_, _]) (v := .int _ _) rfl rfl <| aI rfl <| aI rfl <| en <| x_seq <| sr rfl <| mI rfl <| Wp rfl <| st_neq rfl rfl <| en <| x_cond rfl (fun h4 => ?_) (fun h4 => ?_)
     ·try simp only [nm, ne_eq] at h4
      first | exact absurd rfl h4 | exact absurd trivial h4 | (simp at h4; done)
     ·try simp only [nm, ne_eq] at h4
      refine x_skip <| then_n <| x_seq <| sr rfl <| mI rfl <| en <| x_block <| sr rfl <| Wp rfl <| st_eql rfl rfl <| aB rfl <| en <| x_cond rfl (fun h5 => ?_) (fun h5 => ?_)
      ·try simp only [nm, ne_eq] at h5
       have hc0 : byte w 0 = 96 := u8_eq (by first | assumption | simp_all) rfl
       have hn3 := two_le hw hn (.inr (.inr hc0))
       have hs1 : IntKind.i64.wrap ((n : Int) - 1) = ((n - 1 : Nat) : Int) := by rw [wrap64_id (by omega) (by omega)]; omega
       refine sr rfl <| mS rfl <| mI rfl <| Wp rfl <| st_subk rfl rfl (by exact hs1) <| Wp rfl <| st_sslice (i := 1) (j := n - 1) T.u9 rfl ⟨_, rfl⟩ ⟨_, rfl⟩ (by omega) (by omega) <| Wp rfl <| st_call (ags := [_]) rfl rfl T.ent39 rfl (unticked_spec ((w.take (n - 1)).drop 1) _ (by simp only [List.length_drop, List.length_take]; omega)) ?_
       rintro _ w350 ⟨rfl, c351⟩
       replace HC := HC.then c351
       refine mB rfl <| Wp rfl <| st_bld (ps := [(0, .const (.int .i64 2)), (1, .tmp 90), (5, .tmp 91)]) (vs := [.int _ _, S _, S _, S _, S _, .bool _]) T.bld33 rfl <| Wp rfl <| st_lit (ps := [(0, .tmp 92)]) (vs := [.int _ _, S _, S _, S _, S _, .bool _]) T.lit23 (by decide) rfl (by simp only [List.forall_mem_cons, List.not_mem_nil, false_imp_iff, implies_true, and_true]; exact rfl) rfl ?_
       intro b352 w353 e354 c355 hb356
       have ge_b352 : w0.heap.size ≤ b352 := by rw [e354]; exact HC.size
       replace HC := HC.then c355
       clear e354
       refine mI rfl <| aL rfl <| aI rfl <| aI rfl <| en <| x_ret <| block_r <| then_r <| ret_tmp3 (v := .slice _ _ _) (v2 := .int _ _) (v3 := .int _ _) rfl rfl rfl rfl ?_
       rw [nextP_ok hA hB hn, if_neg hc36, if_neg (by rw [hc0]; decide), if_neg (by rw [hc0]; decide), if_neg (by rw [hc0]; decide)]
       exact ⟨[(⟨2, untick ((w.take (n - 1)).drop 1), [], [], [], (!decide (m = 0))⟩ : Prt)], some ⟨b352, 0, none⟩, 1, rfl, fun _ => rfl, sl_one (T := 33) hb356 ge_b352, HC⟩
      ·try simp only [nm, ne_eq] at h5
       have hc96 : byte w 0 ≠ 96 := fun e => by have h8 : ((byte w 0).toNat : Int) = 96 := (by rw [e]; rfl); first | exact h5 h8 | omega | simp_all
       refine sr rfl <| Wp rfl <| st_eql rfl rfl <| aB rfl <| en <| x_cond rfl (fun h6 => ?_) (fun h6 => ?_)
       ·try simp only [nm, ne_eq] at h6
        have hc0 : byte w 0 = 39 := u8_eq (by first | assumption | simp_all) rfl
        have hn3 := two_le hw hn (.inl hc0)
        have hs1 : IntKind.i64.wrap ((n : Int) - 1) = ((n - 1 : Nat) : Int) := by rw [wrap64_id (by omega) (by omega)]; omega
        refine sr rfl <| mS rfl <| mI rfl <| Wp rfl <| st_subk rfl rfl (by exact hs1) <| Wp rfl <| st_sslice (i := 1) (j := n - 1) T.u9 rfl ⟨_, rfl⟩ ⟨_, rfl⟩ (by omega) (by omega) <| Wp rfl <| st_call (ags := [_, _]) rfl rfl T.ent36 rfl (rtext_spec _ true _) ?_
        rintro _ w357 ⟨rfl, c358⟩
        replace HC := HC.then c358
        refine Wp rfl <| st_lit (ps := [(0, .tmp 101)]) (vs := [.int _ _, S _, S _, S _, S _, .bool _]) T.lit23 (by decide) rfl (by simp only [List.forall_mem_cons, List.not_mem_nil, false_imp_iff, implies_true, and_true]; exact rfl) rfl ?_
        intro b359 w360 e361 c362 hb363
        have ge_b359 : w0.heap.size ≤ b359 := by rw [e361]; exact HC.size
        replace HC := HC.then c362
        clear e361
        refine mI rfl <| aL rfl <| aI rfl <| aI rfl <| en <| x_ret <| block_r <| then_r <| ret_tmp3 (v := .slice _ _ _) (v2 := .int _ _) (v3 := .int _ _) rfl rfl rfl rfl ?_
        rw [nextP_ok hA hB hn, if_neg hc36, if_pos hc0]
        exact ⟨[txtP ((w.take (n - 1)).drop 1) true], some ⟨b359, 0, none⟩, 1, rfl, fun _ => rfl, sl_one (T := 33) hb363 ge_b359, HC⟩
       ·try simp only [nm, ne_eq] at h6
        have hc39 : byte w 0 ≠ 39 := fun e => by have h8 : ((byte w 0).toNat : Int) = 39 := (by rw [e]; rfl); first | exact h6 h8 | omega | simp_all
        refine sr rfl <| Wp rfl <| st_eql rfl rfl <| aB rfl <| en <| x_cond rfl (fun h7 => ?_) (fun h7 => ?_)
        ·try simp only [nm, ne_eq] at h7
         have hc0 : byte w 0 = 34 := u8_eq (by first | assumption | simp_all) rfl
         have hn3 := two_le hw hn (.inr (.inl hc0))
         have hs1 : IntKind.i64.wrap ((n : Int) - 1) = ((n - 1 : Nat) : Int) := by rw [wrap64_id (by omega) (by omega)]; omega
         have hm0 : m = 0 := by rcases Decidable.em (m = 0) with h9 | h9; exact h9; exact absurd ⟨hc36, hc96, .inl (by simp [h9])⟩ hB
         refine x_seq <| sr rfl <| mI rfl <| Wp rfl <| st_eql rfl rfl <| en <| x_cond rfl (fun h8 => ?_) (fun h8 => ?_)
         ·try simp only [nm, ne_eq] at h8
          refine sr rfl <| Wp rfl <| st_call (ags := [_, _]) rfl rfl T.ent36 rfl (rtext_spec [] true _) ?_
          rintro _ w364 ⟨rfl, c365⟩
          replace HC := HC.then c365
          refine Wp rfl <| st_lit (ps := [(0, .tmp 108)]) (vs := [.int _ _, S _, S _, S _, S _, .bool _]) T.lit23 (by decide) rfl (by simp only [List.forall_mem_cons, List.not_mem_nil, false_imp_iff, implies_true, and_true]; exact rfl) rfl ?_
          intro b366 w367 e368 c369 hb370
          have ge_b366 : w0.heap.size ≤ b366 := by rw [e368]; exact HC.size
          replace HC := HC.then c369
          clear e368
          refine mI rfl <| aL rfl <| aI rfl <| aI rfl <| en <| x_ret <| then_r <| block_r <| then_r <| ret_tmp3 (v := .slice _ _ _) (v2 := .int _ _) (v3 := .int _ _) rfl rfl rfl rfl ?_
          rw [nextP_ok hA hB hn, if_neg hc36, if_neg hc39, if_pos hc0, if_pos (by omega)]
          exact ⟨[txtP [] true], some ⟨b366, 0, none⟩, 1, rfl, fun _ => rfl, sl_one (T := 33) hb370 ge_b366, HC⟩
         ·try simp only [nm, ne_eq] at h8
          refine x_skip <| then_n <| sr rfl <| mS rfl <| mI rfl <| Wp rfl <| st_subk rfl rfl (by exact hs1) <| Wp rfl <| st_sslice (i := 1) (j := n - 1) T.u9 rfl ⟨_, rfl⟩ ⟨_, rfl⟩ (by omega) (by omega) ?_
          have sz9 := HC.size
          refine Wp rfl <| st_call (ags := [_, _]) rfl rfl T.ent10 rfl (hP hm0 ((w.take (n - 1)).drop 1) _ (by simp only [List.length_drop, List.length_take]; omega)) ?_
          rintro _ w371 ⟨A9, cap9, rfl, hs9, c372⟩
          replace HC := HC.then c372
          refine mv (v := .tuple ⟨[_, _]⟩) rfl <| Wp rfl <| st_extract (vs := [_, _]) (v := .slice _ _ _) rfl rfl <| Wp rfl <| st_extract (vs := [_, _]) (v := .int _ _) rfl rfl <| aL rfl <| aI rfl <| en <| sr rfl <| mL rfl <| mI rfl <| mI rfl <| aL rfl <| aI rfl <| aI rfl <| en <| x_ret <| block_r <| then_r <| ret_tmp3 (v := .slice _ _ _) (v2 := .int _ _) (v3 := .int _ _) rfl rfl rfl rfl ?_
          rw [nextP_ok hA hB hn, if_neg hc36, if_neg hc39, if_pos hc0, if_neg (by omega)]
          exact ⟨_, A9, cap9, rfl, fun _ => rfl, (hs9.mono (fun k _ h => Nat.le_trans sz9 h)), HC⟩
        ·try simp only [nm, ne_eq] at h7
         have hc34 : byte w 0 ≠ 34 := fun e => by have h8 : ((byte w 0).toNat : Int) = 34 := (by rw [e]; rfl); first | exact h7 h8 | omega | simp_all
         refine x_skip <| block_n <| then_n <| x_seq <| x_seq ?_
         have hc0 : byte w 0 = 92 := by rcases Decidable.em (byte w 0 = 92) with h9 | h9; exact h9; exact absurd ⟨hc36, hc96, .inr ⟨hc39, hc34, h9⟩⟩ hB
         have hdl : ((w.take n).drop 1).length = n - 1 := by simp only [List.length_drop, List.length_take]; omega
         refine x_region rfl <| mS rfl <| mI rfl <| Wp rfl <| st_sslice (i := 1) (j := n) T.u9 rfl ⟨_, rfl⟩ ⟨_, rfl⟩ (by omega) (by omega) <| Wp rfl <| st_seql rfl rfl <| mB rfl <| w_split (d := 126) rfl (fun g373 => ?_) (fun g373 => ?_)
         ·try simp only [nm, ne_eq] at g373
          refine w_no 4 126 false <| w_no 4 126 false <| pT rfl rfl <| en <| x_cond (t := true) rfl (fun h9 => ?_) (fun h9 => ?_)
          rotate_left
          · exact absurd h9 (by decide)
          have hz : (w.take n).drop 1 = [10] ∨ (w.take n).drop 1 = [] := by first | (left; assumption) | (right; exact List.length_eq_zero_iff.1 (by omega)) | simp_all
          refine sr rfl <| mI rfl <| aL rfl <| aI rfl <| aI rfl <| en <| x_ret <| then_r <| ret_tmp3 (v := .slice _ _ _) (v2 := .int _ _) (v3 := .int _ _) rfl rfl rfl rfl ?_
          rw [nextP_ok hA hB hn, if_neg hc36, if_neg hc39, if_neg hc34, if_pos hc0, if_pos hz]
          exact ⟨[], none, 0, rfl, fun _ => rfl, .nil, HC⟩
         ·try simp only [nm, ne_eq] at g373
          refine w_yes 4 126 false <| st_move (v := .int _ _) rfl <| w_yes 4 126 false <| st_eql rfl rfl <| pF rfl rfl <| en <| x_cond rfl (fun h9 => ?_) (fun h9 => ?_)
          ·try simp only [nm, ne_eq] at h9
           have hz : (w.take n).drop 1 = [10] ∨ (w.take n).drop 1 = [] := by first | (left; assumption) | (right; exact List.length_eq_zero_iff.1 (by omega)) | simp_all
           refine sr rfl <| mI rfl <| aL rfl <| aI rfl <| aI rfl <| en <| x_ret <| then_r <| ret_tmp3 (v := .slice _ _ _) (v2 := .int _ _) (v3 := .int _ _) rfl rfl rfl rfl ?_
           rw [nextP_ok hA hB hn, if_neg hc36, if_neg hc39, if_neg hc34, if_pos hc0, if_pos hz]
           exact ⟨[], none, 0, rfl, fun _ => rfl, .nil, HC⟩
          ·try simp only [nm, ne_eq] at h9
           have hz : ¬ ((w.take n).drop 1 = [10] ∨ (w.take n).drop 1 = []) := by rintro (q | q); (first | contradiction | simp_all); (have q9 := congrArg List.length q; rw [hdl] at q9; simp only [List.length_nil] at q9; omega)
           refine x_skip <| then_n <| sr rfl <| mS rfl <| mI rfl <| Wp rfl <| st_sslice (i := 1) (j := n) T.u9 rfl ⟨_, rfl⟩ ⟨_, rfl⟩ (by omega) (by omega) <| Wp rfl <| st_call (ags := [_, _]) rfl rfl T.ent36 rfl (rtext_spec _ true _) ?_
           rintro _ w374 ⟨rfl, c375⟩
           replace HC := HC.then c375
           refine Wp rfl <| st_lit (ps := [(0, .tmp 134)]) (vs := [.int _ _, S _, S _, S _, S _, .bool _]) T.lit23 (by decide) rfl (by simp only [List.forall_mem_cons, List.not_mem_nil, false_imp_iff, implies_true, and_true]; exact rfl) rfl ?_
           intro b376 w377 e378 c379 hb380
           have ge_b376 : w0.heap.size ≤ b376 := by rw [e378]; exact HC.size
           replace HC := HC.then c379
           clear e378
           refine mI rfl <| aL rfl <| aI rfl <| aI rfl <| en <| x_ret <| ret_tmp3 (v := .slice _ _ _) (v2 := .int _ _) (v3 := .int _ _) rfl rfl rfl rfl ?_
           rw [nextP_ok hA hB hn, if_neg hc36, if_neg hc39, if_neg hc34, if_pos hc0, if_neg hz]
           exact ⟨[txtP ((w.take n).drop 1) true], some ⟨b376, 0, none⟩, 1, rfl, fun _ => rfl, sl_one (T := 33) hb380 ge_b376, HC⟩
    ·refine x_region rfl <| mS rfl <| Wp rfl <| st_call (ags := [_, _]) rfl rfl T.ent38 rfl (RSk_err w _ hs hw he) ?_
     rintro _ w381 ⟨rfl, c382⟩
     replace HC := HC.then c382
     refine mv (v := .tuple ⟨[_, _]⟩) rfl <| Wp rfl <| st_extract (vs := [_, _]) (v := .int _ _) rfl rfl <| Wp rfl <| st_extract (vs := [_, _]) (v := .int _ _) rfl rfl <| aI rfl <| aI rfl <| en <| x_seq <| sr rfl <| mI rfl <| Wp rfl <| st_neq rfl rfl <| en <| x_cond rfl (fun h4 => ?_) (fun h4 => ?_)
     ·try simp only [nm, ne_eq] at h4
      refine sr rfl <| mI rfl <| aL rfl <| aI rfl <| aI rfl <| en <| x_ret <| then_r <| ret_tmp3 (v := .slice _ _ _) (v2 := .int _ _) (v3 := .int _ _) rfl rfl rfl rfl ?_
      rw [nextP_err hA hB he]
      exact ⟨[], none, 0, rfl, fun _ => rfl, .nil, HC⟩
     ·try simp only [nm, ne_eq] at h4
      exfalso; first | omega | simp_all

end Go.Proofs.YtiiahnpgomdfmaaDoor.K
