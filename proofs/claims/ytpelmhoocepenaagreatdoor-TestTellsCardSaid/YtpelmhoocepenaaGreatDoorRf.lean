/- The document's test. -/
import Derived.Test.YtpelmhoocepenaaGreatDoorRe
set_option linter.unusedVariables false
set_option linter.unusedSimpArgs false
set_option autoImplicit false
set_option maxRecDepth 20000
namespace Go.Proofs.YtpelmhoocepenaaGreatDoor.K
open Go Go.Proofs Go.RowKit

theorem r_slfrom {P : Program} {E : Env} {w : World} {dst : Option Nat} {ty : TypeId} {pos : String} {af : Array Edge} {g : Option (Nat × Bool)} {t e : TypeId} {x y : Operand} {A : Option Addr} {m c sz i : Nat} (ht : P.underlying t = some (.slice e)) (hs : sizeB P e sz = true) (hx : ev E x = .slice A m c)
    (hlo : ∃ k, ev E y = .int k (i : Int)) (h0 : i ≤ m) (h1 : m ≤ c) :
    (execOp (ev E) ⟨dst, .slice t x (some y) none none, ty, pos, af, g⟩).run P w = .ok (.value (.slice (if c = i then A else A.map (·.add (i * sz))) (m - i) (c - i))) w :=
  r_slice (lo := some y) (hi := none) (i := i) (j := m) ht hs hx hlo rfl h0 h1
theorem test_five {Z : Tre} {cwd : Int} : ∀ {l : List Bytes}, 5 ≤ l.length → testV Z cwd l = 2
  | [], h => by simp at h
  | [_], h => by simp at h
  | [_, _], h => by simp at h
  | [_, _, _], h => by simp at h
  | [_, _, _, _], h => by simp at h
  | _ :: _ :: _ :: _ :: _ :: _, _ => rfl
theorem t3_bin {Z : Tre} {cwd : Int} {a b c : Bytes} (h : b ∈ binL) : testV Z cwd [a, b, c] = binV a b c := by show threeV Z cwd a b c = _; unfold threeV; rw [if_pos h]
theorem t3_par {Z : Tre} {cwd : Int} {a b c : Bytes} (h : ¬ b ∈ binL) (h1 : ¬ a = [33]) (h2 : a = [40]) (h3 : c = [41]) : testV Z cwd [a, b, c] = testV Z cwd [b] := by show threeV Z cwd a b c = _; unfold threeV; rw [if_neg h, if_neg h1, if_pos ⟨h2, h3⟩]; rfl
theorem t3_no {Z : Tre} {cwd : Int} {a b c : Bytes} (h : ¬ b ∈ binL) (h1 : ¬ a = [33]) (h2 : ¬ (a = [40] ∧ c = [41])) : testV Z cwd [a, b, c] = 2 := by show threeV Z cwd a b c = _; unfold threeV; rw [if_neg h, if_neg h1, if_neg h2]
theorem t4_par {Z : Tre} {cwd : Int} {a b c d : Bytes} (h1 : ¬ a = [33]) (h2 : a = [40]) (h3 : d = [41]) : testV Z cwd [a, b, c, d] = testV Z cwd [b, c] := by show fourV Z cwd a b c d = _; unfold fourV; rw [if_neg h1, if_pos ⟨h2, h3⟩]; rfl
theorem t4_no {Z : Tre} {cwd : Int} {a b c d : Bytes} (h1 : ¬ a = [33]) (h2 : ¬ (a = [40] ∧ d = [41])) : testV Z cwd [a, b, c, d] = 2 := by show fourV Z cwd a b c d = _; unfold fourV; rw [if_neg h1, if_neg h2]
theorem t2_un {Z : Tre} {cwd : Int} {a b : Bytes} (h1 : ¬ a = [33]) : testV Z cwd [a, b] = unV Z cwd a b := by show twoV Z cwd a b = _; unfold twoV; rw [if_neg h1]

set_option maxHeartbeats 1000000 in
theorem rtest_step {Z : Tre} {An : Option Addr} {capn : Nat} {mx my : Int} {cwd : Int} {D : Nat → Prop} {w : World} (hT : Sl inE w D An Z) (hTl : Z.length ≤ 1000000000) (hF : FitT Z) {A : Option Addr} {c : Nat} {Dl : Nat → Prop} {l : List Bytes} (hl : Sl sE w Dl A l) (hc : l.length ≤ c) (hb : (∀ s, s ∈ l → s.length ≤ 140737488351232)) (ih : ∀ (l2 : List Bytes), l2.length < l.length → (∀ s, s ∈ l2 → s.length ≤ 140737488351232) → ∀ {D2 Dl2 : Nat → Prop} {w2 : World} {A2 : Option Addr} {c2 : Nat}, Sl inE w2 D2 An Z → Sl sE w2 Dl2 A2 l2 → l2.length ≤ c2 → CallR Tryz.prog 7 #[.agg ⟨[.slice An Z.length capn, .int .i64 mx, .int .i64 my]⟩, .int .i64 cwd, .slice A2 l2.length c2] w2 fun v w' => v = .int .i64 (testV Z cwd l2) ∧ Chg [] w2 w') : CallR Tryz.prog 7 #[.agg ⟨[.slice An Z.length capn, .int .i64 mx, .int .i64 my]⟩, .int .i64 cwd, .slice A l.length c] w fun v w' => v = .int .i64 (testV Z cwd l) ∧ Chg [] w w' := by
 replace hT := hT.mono (D' := fun k => k < w.heap.size) (fun k hk _ => hk)
 refine callR_of_wp (args := [_, _, _]) Tryz.func7 rfl (Nat.le_of_ble_eq_true rfl) ?_
 have HC : Chg [] w w := .refl _
 refine sr rfl <| Wp rfl <| st_box (v := .agg ⟨[.slice _ _ _, .int _ _, .int _ _]⟩) (vs := [_, _, _]) rfl rfl ?_
 intro b3 w1 e2 c3 hb4
 have ge_b3 : w.heap.size ≤ b3 := by rw [e2]; exact HC.size
 have nf_hl_b3 : l = [] ∨ b3 ∉ ob (A) := hl.fresh (by rw [e2]; exact Nat.le_refl _)
 replace HC := HC.then c3
 replace hT := hT.tr0 c3
 replace hl := hl.tr0 c3
 clear e2
 refine aI rfl <| en <| sr rfl <| mL rfl <| Wp rfl <| st_len (ct := #[25]) (by rw [show ((#[25] : Array TypeId)[0]?).bind Tryz.prog.underlying = some (.slice 9) from T.u25]; rfl) rfl <| aI rfl <| en <| x_seq <| x_block <| sr rfl <| mI rfl <| Wp rfl <| st_eql rfl rfl <| aB rfl <| en <| x_cond rfl (fun h0 => ?_) (fun h0 => ?_)
 ·try simp only [nm, ne_eq] at h0
  obtain rfl : l = [] := List.length_eq_zero_iff.1 (by omega)
  refine sr rfl <| aI rfl <| en <| x_ret <| block_r <| then_r <| ret_tmp (v := .int _ _) rfl rfl ?_
  first | exact ⟨rfl, HC⟩ | (rw [test_five (by omega)]; exact ⟨rfl, HC⟩) | (rw [t3_no hbn hnb (by rintro ⟨h8, h9⟩; simp_all)]; exact ⟨rfl, HC⟩) | (rw [t4_no hnb (by rintro ⟨h8, h9⟩; simp_all)]; exact ⟨rfl, HC⟩)
 ·try simp only [nm, ne_eq] at h0
  refine sr rfl <| mI rfl <| Wp rfl <| st_eql rfl rfl <| aB rfl <| en <| x_cond rfl (fun h1 => ?_) (fun h1 => ?_)
  ·try simp only [nm, ne_eq] at h1
   obtain ⟨a, rfl⟩ : ∃ a, l = [a] := by match l, (show l.length = 1 by omega) with | [a], _ => exact ⟨a, rfl⟩
   refine sr rfl <| mL rfl ?_
   obtain ⟨lb9, _, vs8, hA5, hR7, hC6⟩ := hl.at (i := 0) (x := a) (rfl)
   obtain rfl : vs8 = [S a] := hR7
   refine Wp rfl <| st_indexAddr T.u25 T.size9 (congrArg (fun z => Value.slice z _ _) hA5) rfl (by simp) (by (simp; try omega)) <| lS T.one9 rfl (hC6.at (j := 0) rfl) <| Wp rfl <| st_sneq rfl rfl <| Wp rfl <| st_call (ags := [_]) rfl rfl T.ent17 rfl (Rtruth_spec _ _) ?_
   rintro _ w10 ⟨rfl, c11⟩
   replace HC := HC.then c11
   replace hT := hT.tr0 c11
   replace hl := hl.tr0 c11
   replace hb4 := hb4.tr0 c11
   refine aI rfl <| en <| x_ret <| block_r <| then_r <| ret_tmp (v := .int _ _) rfl rfl ?_
   first | exact ⟨rfl, HC⟩ | (rw [test_five (by omega)]; exact ⟨rfl, HC⟩) | (rw [t3_no hbn hnb (by rintro ⟨h8, h9⟩; simp_all)]; exact ⟨rfl, HC⟩) | (rw [t4_no hnb (by rintro ⟨h8, h9⟩; simp_all)]; exact ⟨rfl, HC⟩)
  ·try simp only [nm, ne_eq] at h1
   refine sr rfl <| mI rfl <| Wp rfl <| st_eql rfl rfl <| mB rfl <| w_split (d := 24) rfl (fun g12 => ?_) (fun g12 => ?_)
   ·try simp only [nm, ne_eq] at g12
    obtain ⟨a, b, d, rfl⟩ : ∃ a b d, l = [a, b, d] := by match l, (show l.length = 3 by omega) with | [a, b, d], _ => exact ⟨a, b, d, rfl⟩
    refine w_yes 2 24 true <| st_move (v := .slice _ _ _) rfl ?_
    obtain ⟨lb17, _, vs16, hA13, hR15, hC14⟩ := hl.at (i := 1) (x := b) (rfl)
    obtain rfl : vs16 = [S b] := hR15
    refine w_yes 2 24 true <| st_indexAddr T.u25 T.size9 (congrArg (fun z => Value.slice z _ _) hA13) rfl (by simp) (by (simp; try omega)) <| w_yes 2 24 true <| st_load1 (v := S _) T.one9 rfl (hC14.at (j := 0) rfl) <| w_yes 2 24 true <| st_call (ags := [_]) rfl rfl T.ent18 rfl (RisBin_spec b _) ?_
    rintro _ w18 ⟨rfl, c19⟩
    replace HC := HC.then c19
    replace hT := hT.tr0 c19
    replace hl := hl.tr0 c19
    replace hb4 := hb4.tr0 c19
    refine pT rfl rfl <| aB rfl <| en <| x_cond rfl (fun h2 => ?_) (fun h2 => ?_)
    ·try simp only [nm, ne_eq] at h2
     have hbn : b ∈ binL := by first | assumption | simp_all
     refine x_seq ?_
     obtain ⟨lb24, _, vs23, hA20, hR22, hC21⟩ := hl.at (i := 0) (x := a) (rfl)
     obtain rfl : vs23 = [S a] := hR22
     obtain ⟨lb29, _, vs28, hA25, hR27, hC26⟩ := hl.at (i := 1) (x := b) (rfl)
     obtain rfl : vs28 = [S b] := hR27
     obtain ⟨lb34, _, vs33, hA30, hR32, hC31⟩ := hl.at (i := 2) (x := d) (rfl)
     obtain rfl : vs33 = [S d] := hR32
     refine x_draw [(0, 0), (1, 0), (2, 0), (3, 0), (4, 0), (5, 0), (6, 0), (7, 0), (8, 0), (9, 1), (10, 0)] T.mixed rfl rfl rfl (fun W => W.heap[b3]? = w18.heap[b3]? ∧ W.heap[lb24]? = w18.heap[lb24]? ∧ W.heap[lb29]? = w18.heap[lb29]? ∧ W.heap[lb34]? = w18.heap[lb34]? ∧ True) ⟨rfl, rfl, rfl, rfl, trivial⟩ ?_
     have o37 := hb4
     have c36 := Chg.drew w18
     generalize World.drew w18 = w35 at c36 ⊢
     have ht_lb24 : lb24 < w35.heap.size ∧ w35.heap[lb24]? = w18.heap[lb24]? := ⟨Nat.lt_of_lt_of_le hC21.lt c36.size, c36.block lb24 hC21.lt (by simp)⟩
     have ht_lb29 : lb29 < w35.heap.size ∧ w35.heap[lb29]? = w18.heap[lb29]? := ⟨Nat.lt_of_lt_of_le hC26.lt c36.size, c36.block lb29 hC26.lt (by simp)⟩
     have ht_lb34 : lb34 < w35.heap.size ∧ w35.heap[lb34]? = w18.heap[lb34]? := ⟨Nat.lt_of_lt_of_le hC31.lt c36.size, c36.block lb34 hC31.lt (by simp)⟩
     replace HC := HC.then c36
     replace hT := hT.tr0 c36
     replace hl := hl.tr0 c36
     replace hb4 := hb4.tr0 c36
     refine sq_q rfl (fun W hT => r_move (v := .slice _ _ _) rfl) <| sq_q rfl (fun W hT => r_indexAddr T.u25 T.size9 (congrArg (fun z => Value.slice z _ _) hA20) rfl (by simp) (by (simp; try omega))) <| sq_q rfl (fun W hT => r_load1 (v := S _) T.one9 rfl (Cells.at (j := 0) (Cells.tr hC21 hT.2.1) rfl)) <| sq_q rfl (fun W hT => r_move (v := .slice _ _ _) rfl) <| sq_q rfl (fun W hT => r_indexAddr T.u25 T.size9 (congrArg (fun z => Value.slice z _ _) hA25) rfl (by simp) (by (simp; try omega))) <| sq_q rfl (fun W hT => r_load1 (v := S _) T.one9 rfl (Cells.at (j := 0) (Cells.tr hC26 hT.2.2.1) rfl)) <| sq_q rfl (fun W hT => r_move (v := .slice _ _ _) rfl) <| sq_q rfl (fun W hT => r_indexAddr T.u25 T.size9 (congrArg (fun z => Value.slice z _ _) hA30) rfl (by simp) (by (simp; try omega))) <| sq_q rfl (fun W hT => r_load1 (v := S _) T.one9 rfl (Cells.at (j := 0) (Cells.tr hC31 hT.2.2.2.1) rfl)) <| sq_call1 rfl (r_call (ags := [_, _, _]) rfl rfl T.ent19 rfl) (Rbinary_spec a b d _ (by have := hb a (by simp); omega) (by have := hb d (by simp); omega) (by assumption)) ?_
     rintro _ w38 ⟨rfl, c39⟩
     replace HC := HC.then c39
     replace hT := hT.tr0 c39
     replace hl := hl.tr0 c39
     replace hb4 := hb4.tr0 c39
     replace ht_lb24 := And.intro (Nat.lt_of_lt_of_le ht_lb24.1 c39.size) ((c39.block lb24 ht_lb24.1 (by simp)).trans ht_lb24.2)
     replace ht_lb29 := And.intro (Nat.lt_of_lt_of_le ht_lb29.1 c39.size) ((c39.block lb29 ht_lb29.1 (by simp)).trans ht_lb29.2)
     replace ht_lb34 := And.intro (Nat.lt_of_lt_of_le ht_lb34.1 c39.size) ((c39.block lb34 ht_lb34.1 (by simp)).trans ht_lb34.2)
     refine ⟨_, fun _ h => h, ⟨(Eq.trans hb4 o37.symm), (by first | assumption | exact ht_lb24.2), (by first | assumption | exact ht_lb29.2), (by first | assumption | exact ht_lb34.2), trivial⟩, ?_⟩
     refine sq_q rfl (fun W hT => r_assign (v := .int _ _) rfl) ?_
     clear o37
     refine sq_nil <| then_n <| x_ret <| block_r <| then_r <| ret_tmp (v := .int _ _) rfl rfl ?_
     rw [t3_bin hbn]
     exact ⟨rfl, HC⟩
    ·try simp only [nm, ne_eq] at h2
     have hbn : ¬ b ∈ binL := by first | assumption | simp_all
     refine sr rfl <| mI rfl <| Wp rfl <| st_leq rfl rfl <| mB rfl <| w_split (d := 43) rfl (fun g40 => ?_) (fun g40 => ?_)
     ·try simp only [nm, ne_eq] at g40
      refine w_yes 2 43 true <| st_move (v := .slice _ _ _) rfl ?_
      obtain ⟨lb45, _, vs44, hA41, hR43, hC42⟩ := hl.at (i := 0) (x := a) (rfl)
      obtain rfl : vs44 = [S a] := hR43
      refine w_yes 2 43 true <| st_indexAddr T.u25 T.size9 (congrArg (fun z => Value.slice z _ _) hA41) rfl (by simp) (by (simp; try omega)) <| w_yes 2 43 true <| st_load1 (v := S _) T.one9 rfl (hC42.at (j := 0) rfl) <| w_yes 2 43 true <| st_seql rfl rfl <| pT rfl rfl <| aB rfl <| en <| x_cond rfl (fun h3 => ?_) (fun h3 => ?_)
      ·try simp only [nm, ne_eq] at h3
       obtain rfl : a = [33] := by assumption
       refine x_seq <| x_draw [(0, 0), (1, 0), (2, 0), (3, 0), (4, 1), (5, 1), (6, 0)] T.mixed rfl rfl rfl (fun W => W.heap[b3]? = w18.heap[b3]? ∧ True) ⟨rfl, trivial⟩ ?_
       have o48 := hb4
       have c47 := Chg.drew w18
       generalize World.drew w18 = w46 at c47 ⊢
       replace HC := HC.then c47
       replace hT := hT.tr0 c47
       replace hl := hl.tr0 c47
       replace hb4 := hb4.tr0 c47
       refine sq_q rfl (fun W hT => r_loadA (vs := [_, _, _]) T.agg24 rfl (Blk.cells (n := 3) (vs := [_, _, _]) (show Blk W b3 _ _ from hT.1.trans o48) rfl) rfl) <| sq_q rfl (fun W hT => r_move (v := .int _ _) rfl) <| sq_q rfl (fun W hT => r_move (v := .slice _ _ _) rfl) <| sq_q rfl (fun W hT => r_slfrom (i := 1) T.u25 T.size9 rfl ⟨_, rfl⟩ (by simp only [List.length_cons]; omega) hc) <| sq_call1 rfl (r_call (ags := [_, _, _]) rfl rfl T.ent7 rfl) (ih [b, d] (by simp) (fun s hs => hb s (List.mem_cons_of_mem _ hs)) hT (sl_tail hl rfl hc) (by simp only [List.length_cons] at hc ⊢; omega)) ?_
       rintro _ w49 ⟨rfl, c50⟩
       replace HC := HC.then c50
       replace hT := hT.tr0 c50
       replace hl := hl.tr0 c50
       replace hb4 := hb4.tr0 c50
       refine ⟨_, fun _ h => h, ⟨(Eq.trans hb4 o48.symm), trivial⟩, ?_⟩
       refine sq_call1 rfl (r_call (ags := [_]) rfl rfl T.ent20 rfl) (Rturned_spec _ (test_in _ _ _) _) ?_
       rintro _ w51 ⟨rfl, c52⟩
       replace HC := HC.then c52
       replace hT := hT.tr0 c52
       replace hl := hl.tr0 c52
       replace hb4 := hb4.tr0 c52
       refine ⟨_, fun _ h => h, ⟨(Eq.trans hb4 o48.symm), trivial⟩, ?_⟩
       refine sq_q rfl (fun W hT => r_assign (v := .int _ _) rfl) ?_
       clear o48
       refine sq_nil <| then_n <| x_ret <| block_r <| then_r <| ret_tmp (v := .int _ _) rfl rfl ?_
       rw [test_turn (by simp) (by simp) (fun a' b' h => by cases h; exact hbn)]
       exact ⟨rfl, HC⟩
      ·try simp only [nm, ne_eq] at h3
       have hnb : ¬ a = [33] := by first | assumption | simp_all
       refine sr rfl <| mI rfl <| Wp rfl <| st_eql rfl rfl <| aB rfl <| en <| x_cond rfl (fun h4 => ?_) (fun h4 => ?_)
       ·try simp only [nm, ne_eq] at h4
        exfalso; first | omega | (simp at h4; done) | (simp at h4; omega)
       ·try simp only [nm, ne_eq] at h4
        refine sr rfl <| mI rfl <| Wp rfl <| st_leq rfl rfl <| mB rfl <| w_split (d := 70) rfl (fun g53 => ?_) (fun g53 => ?_)
        ·try simp only [nm, ne_eq] at g53
         refine w_yes 2 70 true <| st_move (v := .slice _ _ _) rfl ?_
         obtain ⟨lb58, _, vs57, hA54, hR56, hC55⟩ := hl.at (i := 0) (x := a) (rfl)
         obtain rfl : vs57 = [S a] := hR56
         refine w_yes 2 70 true <| st_indexAddr T.u25 T.size9 (congrArg (fun z => Value.slice z _ _) hA54) rfl (by simp) (by (simp; try omega)) <| w_yes 2 70 true <| st_load1 (v := S _) T.one9 rfl (hC55.at (j := 0) rfl) <| w_yes 2 70 true <| st_seql rfl rfl <| pT rfl rfl <| mB rfl <| w_split (d := 76) rfl (fun g59 => ?_) (fun g59 => ?_)
         ·try simp only [nm, ne_eq] at g59
          refine w_yes 8 76 true <| st_move (v := .slice _ _ _) rfl <| w_yes 8 76 true <| st_move (v := .int _ _) rfl <| w_yes 8 76 true <| st_subn rfl rfl (by constructor <;> omega) ?_
          obtain ⟨lb64, _, vs63, hA60, hR62, hC61⟩ := hl.at (i := ((([a, b, d].length : Nat) : Int) - 1).toNat) (x := d) (rfl)
          obtain rfl : vs63 = [S d] := hR62
          refine w_yes 8 76 true <| st_indexAddr T.u25 T.size9 (congrArg (fun z => Value.slice z _ _) hA60) rfl (by (simp only [List.length_cons, List.length_nil]; omega)) (by (simp only [List.length_cons, List.length_nil]; omega)) <| w_yes 8 76 true <| st_load1 (v := S _) T.one9 rfl (hC61.at (j := 0) rfl) <| w_yes 8 76 true <| st_seql rfl rfl <| pT rfl rfl <| aB rfl <| en <| x_cond rfl (fun h5 => ?_) (fun h5 => ?_)
          ·try simp only [nm, ne_eq] at h5
           refine x_seq <| x_draw [(0, 0), (1, 0), (2, 0), (3, 0), (4, 0), (5, 0), (6, 1), (7, 0)] T.mixed rfl rfl rfl (fun W => W.heap[b3]? = w18.heap[b3]? ∧ True) ⟨rfl, trivial⟩ ?_
           have o67 := hb4
           have c66 := Chg.drew w18
           generalize World.drew w18 = w65 at c66 ⊢
           replace HC := HC.then c66
           replace hT := hT.tr0 c66
           replace hl := hl.tr0 c66
           replace hb4 := hb4.tr0 c66
           refine sq_q rfl (fun W hT => r_loadA (vs := [_, _, _]) T.agg24 rfl (Blk.cells (n := 3) (vs := [_, _, _]) (show Blk W b3 _ _ from hT.1.trans o67) rfl) rfl) <| sq_q rfl (fun W hT => r_move (v := .int _ _) rfl) <| sq_q rfl (fun W hT => r_move (v := .slice _ _ _) rfl) <| sq_q rfl (fun W hT => r_move (v := .int _ _) rfl) <| sq_q rfl (fun W hT => r_subn rfl rfl (by constructor <;> omega)) <| sq_q rfl (fun W hT => r_slice (lo := some _) (hi := some _) (i := 1) (j := 2) T.u25 T.size9 rfl ⟨_, rfl⟩ ⟨_, rfl⟩ (by omega) (by simp only [List.length_cons] at hc; omega)) <| sq_call1 rfl (r_call (ags := [_, _, _]) rfl rfl T.ent7 rfl) (ih [b] (by simp) (fun s hs => hb s (by simp at hs ⊢; first | (right; left; exact hs) | (rcases hs with h | h <;> simp [h]))) hT (Sl.take (sl_tail hl rfl hc) 1) (by simp only [List.length_cons] at hc ⊢; omega)) ?_
           rintro _ w68 ⟨rfl, c69⟩
           replace HC := HC.then c69
           replace hT := hT.tr0 c69
           replace hl := hl.tr0 c69
           replace hb4 := hb4.tr0 c69
           refine ⟨_, fun _ h => h, ⟨(Eq.trans hb4 o67.symm), trivial⟩, ?_⟩
           refine sq_q rfl (fun W hT => r_assign (v := .int _ _) rfl) ?_
           clear o67
           refine sq_nil <| then_n <| x_ret <| block_r <| then_r <| ret_tmp (v := .int _ _) rfl rfl ?_
           rw [t3_par hbn hnb (by assumption) (by assumption)]
           exact ⟨rfl, HC⟩
          ·try simp only [nm, ne_eq] at h5
           refine x_skip <| block_n <| then_n <| sr rfl <| aI rfl <| en <| x_ret <| ret_tmp (v := .int _ _) rfl rfl ?_
           first | exact ⟨rfl, HC⟩ | (rw [test_five (by omega)]; exact ⟨rfl, HC⟩) | (rw [t3_no hbn hnb (by rintro ⟨h8, h9⟩; simp_all)]; exact ⟨rfl, HC⟩) | (rw [t4_no hnb (by rintro ⟨h8, h9⟩; simp_all)]; exact ⟨rfl, HC⟩)
         ·try simp only [nm, ne_eq] at g59
          iterate 6 refine w_no 8 76 true ?_
          refine pF rfl rfl <| aB rfl <| en <| x_cond (t := false) rfl (fun h5 => ?_) (fun h5 => ?_)
          · exact absurd h5 (by decide)
          refine x_skip <| block_n <| then_n <| sr rfl <| aI rfl <| en <| x_ret <| ret_tmp (v := .int _ _) rfl rfl ?_
          first | exact ⟨rfl, HC⟩ | (rw [test_five (by omega)]; exact ⟨rfl, HC⟩) | (rw [t3_no hbn hnb (by rintro ⟨h8, h9⟩; simp_all)]; exact ⟨rfl, HC⟩) | (rw [t4_no hnb (by rintro ⟨h8, h9⟩; simp_all)]; exact ⟨rfl, HC⟩)
        ·try simp only [nm, ne_eq] at g53
         exfalso; first | omega | (simp at g53; done) | (simp at g53; omega)
     ·try simp only [nm, ne_eq] at g40
      exfalso; first | omega | (simp at g40; done) | (simp at g40; omega)
   ·try simp only [nm, ne_eq] at g12
    iterate 4 refine w_no 2 24 true ?_
    refine pF rfl rfl <| aB rfl <| en <| x_cond (t := false) rfl (fun h2 => ?_) (fun h2 => ?_)
    · exact absurd h2 (by decide)
    refine sr rfl <| mI rfl <| Wp rfl <| st_leq rfl rfl <| mB rfl <| w_split (d := 43) rfl (fun g70 => ?_) (fun g70 => ?_)
    ·try simp only [nm, ne_eq] at g70
     obtain ⟨a, l', rfl⟩ : ∃ a l', l = a :: l' := by cases l with | nil => simp_all | cons a l' => exact ⟨a, l', rfl⟩
     refine w_yes 2 43 true <| st_move (v := .slice _ _ _) rfl ?_
     obtain ⟨lb75, _, vs74, hA71, hR73, hC72⟩ := hl.at (i := 0) (x := a) (rfl)
     obtain rfl : vs74 = [S a] := hR73
     refine w_yes 2 43 true <| st_indexAddr T.u25 T.size9 (congrArg (fun z => Value.slice z _ _) hA71) rfl (by simp) (by (simp; try omega)) <| w_yes 2 43 true <| st_load1 (v := S _) T.one9 rfl (hC72.at (j := 0) rfl) <| w_yes 2 43 true <| st_seql rfl rfl <| pT rfl rfl <| aB rfl <| en <| x_cond rfl (fun h3 => ?_) (fun h3 => ?_)
     ·try simp only [nm, ne_eq] at h3
      obtain rfl : a = [33] := by assumption
      refine x_seq <| x_draw [(0, 0), (1, 0), (2, 0), (3, 0), (4, 1), (5, 1), (6, 0)] T.mixed rfl rfl rfl (fun W => W.heap[b3]? = w1.heap[b3]? ∧ True) ⟨rfl, trivial⟩ ?_
      have o78 := hb4
      have c77 := Chg.drew w1
      generalize World.drew w1 = w76 at c77 ⊢
      replace HC := HC.then c77
      replace hT := hT.tr0 c77
      replace hl := hl.tr0 c77
      replace hb4 := hb4.tr0 c77
      refine sq_q rfl (fun W hT => r_loadA (vs := [_, _, _]) T.agg24 rfl (Blk.cells (n := 3) (vs := [_, _, _]) (show Blk W b3 _ _ from hT.1.trans o78) rfl) rfl) <| sq_q rfl (fun W hT => r_move (v := .int _ _) rfl) <| sq_q rfl (fun W hT => r_move (v := .slice _ _ _) rfl) <| sq_q rfl (fun W hT => r_slfrom (i := 1) T.u25 T.size9 rfl ⟨_, rfl⟩ (by simp only [List.length_cons]; omega) hc) <| sq_call1 rfl (r_call (ags := [_, _, _]) rfl rfl T.ent7 rfl) (ih l' (by simp) (fun s hs => hb s (List.mem_cons_of_mem _ hs)) hT (sl_tail hl rfl hc) (by simp only [List.length_cons] at hc ⊢; omega)) ?_
      rintro _ w79 ⟨rfl, c80⟩
      replace HC := HC.then c80
      replace hT := hT.tr0 c80
      replace hl := hl.tr0 c80
      replace hb4 := hb4.tr0 c80
      refine ⟨_, fun _ h => h, ⟨(Eq.trans hb4 o78.symm), trivial⟩, ?_⟩
      refine sq_call1 rfl (r_call (ags := [_]) rfl rfl T.ent20 rfl) (Rturned_spec _ (test_in _ _ _) _) ?_
      rintro _ w81 ⟨rfl, c82⟩
      replace HC := HC.then c82
      replace hT := hT.tr0 c82
      replace hl := hl.tr0 c82
      replace hb4 := hb4.tr0 c82
      refine ⟨_, fun _ h => h, ⟨(Eq.trans hb4 o78.symm), trivial⟩, ?_⟩
      refine sq_q rfl (fun W hT => r_assign (v := .int _ _) rfl) ?_
      clear o78
      refine sq_nil <| then_n <| x_ret <| block_r <| then_r <| ret_tmp (v := .int _ _) rfl rfl ?_
      rw [test_turn (by simp only [List.length_cons] at *; omega) (by simp only [List.length_cons] at *; omega) (fun a' b' h => by subst h; simp at *)]
      exact ⟨rfl, HC⟩
     ·try simp only [nm, ne_eq] at h3
      have hnb : ¬ a = [33] := by first | assumption | simp_all
      refine sr rfl <| mI rfl <| Wp rfl <| st_eql rfl rfl <| aB rfl <| en <| x_cond rfl (fun h4 => ?_) (fun h4 => ?_)
      ·try simp only [nm, ne_eq] at h4
       obtain ⟨b, rfl⟩ : ∃ b, l' = [b] := by match l', (show l'.length = 1 by simp only [List.length_cons] at *; omega) with | [b], _ => exact ⟨b, rfl⟩
       refine x_seq ?_
       obtain ⟨lb87, _, vs86, hA83, hR85, hC84⟩ := hl.at (i := 0) (x := a) (rfl)
       obtain rfl : vs86 = [S a] := hR85
       obtain ⟨lb92, _, vs91, hA88, hR90, hC89⟩ := hl.at (i := 1) (x := b) (rfl)
       obtain rfl : vs91 = [S b] := hR90
       refine x_draw [(0, 0), (1, 0), (2, 0), (3, 0), (4, 0), (5, 0), (6, 0), (7, 0), (8, 1), (9, 0)] T.mixed rfl rfl rfl (fun W => W.heap[b3]? = w1.heap[b3]? ∧ W.heap[lb87]? = w1.heap[lb87]? ∧ W.heap[lb92]? = w1.heap[lb92]? ∧ True) ⟨rfl, rfl, rfl, trivial⟩ ?_
       have o95 := hb4
       have c94 := Chg.drew w1
       generalize World.drew w1 = w93 at c94 ⊢
       have ht_lb87 : lb87 < w93.heap.size ∧ w93.heap[lb87]? = w1.heap[lb87]? := ⟨Nat.lt_of_lt_of_le hC84.lt c94.size, c94.block lb87 hC84.lt (by simp)⟩
       have ht_lb92 : lb92 < w93.heap.size ∧ w93.heap[lb92]? = w1.heap[lb92]? := ⟨Nat.lt_of_lt_of_le hC89.lt c94.size, c94.block lb92 hC89.lt (by simp)⟩
       replace HC := HC.then c94
       replace hT := hT.tr0 c94
       replace hl := hl.tr0 c94
       replace hb4 := hb4.tr0 c94
       refine sq_q rfl (fun W hT => r_loadA (vs := [_, _, _]) T.agg24 rfl (Blk.cells (n := 3) (vs := [_, _, _]) (show Blk W b3 _ _ from hT.1.trans o95) rfl) rfl) <| sq_q rfl (fun W hT => r_move (v := .int _ _) rfl) <| sq_q rfl (fun W hT => r_move (v := .slice _ _ _) rfl) <| sq_q rfl (fun W hT => r_indexAddr T.u25 T.size9 (congrArg (fun z => Value.slice z _ _) hA83) rfl (by simp) (by (simp; try omega))) <| sq_q rfl (fun W hT => r_load1 (v := S _) T.one9 rfl (Cells.at (j := 0) (Cells.tr hC84 hT.2.1) rfl)) <| sq_q rfl (fun W hT => r_move (v := .slice _ _ _) rfl) <| sq_q rfl (fun W hT => r_indexAddr T.u25 T.size9 (congrArg (fun z => Value.slice z _ _) hA88) rfl (by simp) (by (simp; try omega))) <| sq_q rfl (fun W hT => r_load1 (v := S _) T.one9 rfl (Cells.at (j := 0) (Cells.tr hC89 hT.2.2.1) rfl)) <| sq_call1 rfl (r_call (ags := [_, _, _, _]) rfl rfl T.ent21 rfl) (Runary_spec hT hTl hF cwd a b (hb b (by simp))) ?_
       rintro _ w96 ⟨rfl, c97⟩
       replace HC := HC.then c97
       replace hT := hT.tr0 c97
       replace hl := hl.tr0 c97
       replace hb4 := hb4.tr0 c97
       replace ht_lb87 := And.intro (Nat.lt_of_lt_of_le ht_lb87.1 c97.size) ((c97.block lb87 ht_lb87.1 (by simp)).trans ht_lb87.2)
       replace ht_lb92 := And.intro (Nat.lt_of_lt_of_le ht_lb92.1 c97.size) ((c97.block lb92 ht_lb92.1 (by simp)).trans ht_lb92.2)
       refine ⟨_, fun _ h => h, ⟨(Eq.trans hb4 o95.symm), (by first | assumption | exact ht_lb87.2), (by first | assumption | exact ht_lb92.2), trivial⟩, ?_⟩
       refine sq_q rfl (fun W hT => r_assign (v := .int _ _) rfl) ?_
       clear o95
       refine sq_nil <| then_n <| x_ret <| block_r <| then_r <| ret_tmp (v := .int _ _) rfl rfl ?_
       rw [t2_un hnb]
       exact ⟨rfl, HC⟩
      ·try simp only [nm, ne_eq] at h4
       obtain ⟨b, e, d, rfl⟩ : ∃ b e d, l' = [b, e, d] := by match l', (show l'.length = 3 by simp only [List.length_cons] at *; omega) with | [b, e, d], _ => exact ⟨b, e, d, rfl⟩
       refine sr rfl <| mI rfl <| Wp rfl <| st_leq rfl rfl <| mB rfl <| w_split (d := 70) rfl (fun g98 => ?_) (fun g98 => ?_)
       ·try simp only [nm, ne_eq] at g98
        refine w_yes 2 70 true <| st_move (v := .slice _ _ _) rfl ?_
        obtain ⟨lb103, _, vs102, hA99, hR101, hC100⟩ := hl.at (i := 0) (x := a) (rfl)
        obtain rfl : vs102 = [S a] := hR101
        refine w_yes 2 70 true <| st_indexAddr T.u25 T.size9 (congrArg (fun z => Value.slice z _ _) hA99) rfl (by simp) (by (simp; try omega)) <| w_yes 2 70 true <| st_load1 (v := S _) T.one9 rfl (hC100.at (j := 0) rfl) <| w_yes 2 70 true <| st_seql rfl rfl <| pT rfl rfl <| mB rfl <| w_split (d := 76) rfl (fun g104 => ?_) (fun g104 => ?_)
        ·try simp only [nm, ne_eq] at g104
         refine w_yes 8 76 true <| st_move (v := .slice _ _ _) rfl <| w_yes 8 76 true <| st_move (v := .int _ _) rfl <| w_yes 8 76 true <| st_subn rfl rfl (by constructor <;> omega) ?_
         obtain ⟨lb109, _, vs108, hA105, hR107, hC106⟩ := hl.at (i := ((([a, b, e, d].length : Nat) : Int) - 1).toNat) (x := d) (rfl)
         obtain rfl : vs108 = [S d] := hR107
         refine w_yes 8 76 true <| st_indexAddr T.u25 T.size9 (congrArg (fun z => Value.slice z _ _) hA105) rfl (by (simp only [List.length_cons, List.length_nil]; omega)) (by (simp only [List.length_cons, List.length_nil]; omega)) <| w_yes 8 76 true <| st_load1 (v := S _) T.one9 rfl (hC106.at (j := 0) rfl) <| w_yes 8 76 true <| st_seql rfl rfl <| pT rfl rfl <| aB rfl <| en <| x_cond rfl (fun h5 => ?_) (fun h5 => ?_)
         ·try simp only [nm, ne_eq] at h5
          refine x_seq <| x_draw [(0, 0), (1, 0), (2, 0), (3, 0), (4, 0), (5, 0), (6, 1), (7, 0)] T.mixed rfl rfl rfl (fun W => W.heap[b3]? = w1.heap[b3]? ∧ True) ⟨rfl, trivial⟩ ?_
          have o112 := hb4
          have c111 := Chg.drew w1
          generalize World.drew w1 = w110 at c111 ⊢
          replace HC := HC.then c111
          replace hT := hT.tr0 c111
          replace hl := hl.tr0 c111
          replace hb4 := hb4.tr0 c111
          refine sq_q rfl (fun W hT => r_loadA (vs := [_, _, _]) T.agg24 rfl (Blk.cells (n := 3) (vs := [_, _, _]) (show Blk W b3 _ _ from hT.1.trans o112) rfl) rfl) <| sq_q rfl (fun W hT => r_move (v := .int _ _) rfl) <| sq_q rfl (fun W hT => r_move (v := .slice _ _ _) rfl) <| sq_q rfl (fun W hT => r_move (v := .int _ _) rfl) <| sq_q rfl (fun W hT => r_subn rfl rfl (by constructor <;> omega)) <| sq_q rfl (fun W hT => r_slice (lo := some _) (hi := some _) (i := 1) (j := 3) T.u25 T.size9 rfl ⟨_, rfl⟩ ⟨_, rfl⟩ (by omega) (by simp only [List.length_cons] at hc; omega)) <| sq_call1 rfl (r_call (ags := [_, _, _]) rfl rfl T.ent7 rfl) (ih [b, e] (by simp) (fun s hs => hb s (by simp at hs ⊢; first | (right; left; exact hs) | (rcases hs with h | h <;> simp [h]))) hT (Sl.take (sl_tail hl rfl hc) 2) (by simp only [List.length_cons] at hc ⊢; omega)) ?_
          rintro _ w113 ⟨rfl, c114⟩
          replace HC := HC.then c114
          replace hT := hT.tr0 c114
          replace hl := hl.tr0 c114
          replace hb4 := hb4.tr0 c114
          refine ⟨_, fun _ h => h, ⟨(Eq.trans hb4 o112.symm), trivial⟩, ?_⟩
          refine sq_q rfl (fun W hT => r_assign (v := .int _ _) rfl) ?_
          clear o112
          refine sq_nil <| then_n <| x_ret <| block_r <| then_r <| ret_tmp (v := .int _ _) rfl rfl ?_
          rw [t4_par hnb (by assumption) (by assumption)]
          exact ⟨rfl, HC⟩
         ·try simp only [nm, ne_eq] at h5
          refine x_skip <| block_n <| then_n <| sr rfl <| aI rfl <| en <| x_ret <| ret_tmp (v := .int _ _) rfl rfl ?_
          first | exact ⟨rfl, HC⟩ | (rw [test_five (by omega)]; exact ⟨rfl, HC⟩) | (rw [t3_no hbn hnb (by rintro ⟨h8, h9⟩; simp_all)]; exact ⟨rfl, HC⟩) | (rw [t4_no hnb (by rintro ⟨h8, h9⟩; simp_all)]; exact ⟨rfl, HC⟩)
        ·try simp only [nm, ne_eq] at g104
         iterate 6 refine w_no 8 76 true ?_
         refine pF rfl rfl <| aB rfl <| en <| x_cond (t := false) rfl (fun h5 => ?_) (fun h5 => ?_)
         · exact absurd h5 (by decide)
         refine x_skip <| block_n <| then_n <| sr rfl <| aI rfl <| en <| x_ret <| ret_tmp (v := .int _ _) rfl rfl ?_
         first | exact ⟨rfl, HC⟩ | (rw [test_five (by omega)]; exact ⟨rfl, HC⟩) | (rw [t3_no hbn hnb (by rintro ⟨h8, h9⟩; simp_all)]; exact ⟨rfl, HC⟩) | (rw [t4_no hnb (by rintro ⟨h8, h9⟩; simp_all)]; exact ⟨rfl, HC⟩)
       ·try simp only [nm, ne_eq] at g98
        exfalso; first | omega | (simp at g98; done) | (simp at g98; omega)
    ·try simp only [nm, ne_eq] at g70
     iterate 4 refine w_no 2 43 true ?_
     refine pF rfl rfl <| aB rfl <| en <| x_cond (t := false) rfl (fun h3 => ?_) (fun h3 => ?_)
     · exact absurd h3 (by decide)
     refine sr rfl <| mI rfl <| Wp rfl <| st_eql rfl rfl <| aB rfl <| en <| x_cond rfl (fun h4 => ?_) (fun h4 => ?_)
     ·try simp only [nm, ne_eq] at h4
      exfalso; first | omega | (simp at h4; done) | (simp at h4; omega)
     ·try simp only [nm, ne_eq] at h4
      refine sr rfl <| mI rfl <| Wp rfl <| st_leq rfl rfl <| mB rfl <| w_split (d := 70) rfl (fun g115 => ?_) (fun g115 => ?_)
      ·try simp only [nm, ne_eq] at g115
       exfalso; first | omega | (simp at g115; done) | (simp at g115; omega)
      ·try simp only [nm, ne_eq] at g115
       iterate 4 refine w_no 2 70 true ?_
       refine pF rfl rfl <| mB rfl ?_
       iterate 6 refine w_no 8 76 true ?_
       refine pF rfl rfl <| aB rfl <| en <| x_cond (t := false) rfl (fun h5 => ?_) (fun h5 => ?_)
       · exact absurd h5 (by decide)
       refine x_skip <| block_n <| then_n <| sr rfl <| aI rfl <| en <| x_ret <| ret_tmp (v := .int _ _) rfl rfl ?_
       first | exact ⟨rfl, HC⟩ | (rw [test_five (by omega)]; exact ⟨rfl, HC⟩) | (rw [t3_no hbn hnb (by rintro ⟨h8, h9⟩; simp_all)]; exact ⟨rfl, HC⟩) | (rw [t4_no hnb (by rintro ⟨h8, h9⟩; simp_all)]; exact ⟨rfl, HC⟩)

theorem rtest_all {Z : Tre} {An : Option Addr} {capn : Nat} {mx my cwd : Int} (hTl : Z.length ≤ 1000000000) (hF : FitT Z) : ∀ (n : Nat) (l : List Bytes), l.length < n → (∀ s, s ∈ l → s.length ≤ 140737488351232) → ∀ {D Dl : Nat → Prop} {w : World} {A : Option Addr} {c : Nat}, Sl inE w D An Z → Sl sE w Dl A l → l.length ≤ c → CallR Tryz.prog 7 #[.agg ⟨[.slice An Z.length capn, .int .i64 mx, .int .i64 my]⟩, .int .i64 cwd, .slice A l.length c] w fun v w' => v = .int .i64 (testV Z cwd l) ∧ Chg [] w w'
  | n + 1, l, hn, hb, _, _, _, _, _, hT, hl, hc => rtest_step hT hTl hF hl hc hb (fun l2 h2 hb2 _ _ _ _ _ hT2 hl2 hc2 => rtest_all hTl hF n l2 (by omega) hb2 hT2 hl2 hc2)
/-- What [ tells. -/
def brkV (Z : Tre) (cwd : Int) (l : List Bytes) : Int := if l.getLast? = some [93] then testV Z cwd l.dropLast else 2
theorem brk_nil {Z : Tre} {cwd : Int} : brkV Z cwd [] = 2 := rfl
theorem brk_no {Z : Tre} {cwd : Int} {l : List Bytes} {x : Bytes} (h : ¬ x = [93]) : brkV Z cwd (l ++ [x]) = 2 := by unfold brkV; rw [if_neg (by simp [h])]
theorem brk_yes {Z : Tre} {cwd : Int} {l : List Bytes} : brkV Z cwd (l ++ [[93]]) = testV Z cwd l := by unfold brkV; rw [if_pos (by simp)]; simp
theorem last_at {l : List Bytes} {x : Bytes} : (l ++ [x])[((((l ++ [x]).length : Nat) : Int) - 1).toNat]? = some x := by
  rw [show ((((l ++ [x]).length : Nat) : Int) - 1).toNat = l.length by simp]; simp
theorem len_1 {l : List Bytes} {x : Bytes} : (((l ++ [x]).length : Nat) : Int) - 1 = ((l.length : Nat) : Int) := by simp

theorem RBracket_spec {Z : Tre} {An : Option Addr} {capn : Nat} {mx my : Int} {cwd : Int} {D : Nat → Prop} {w : World} (hT : Sl inE w D An Z) (hTl : Z.length ≤ 1000000000) (hF : FitT Z) {A : Option Addr} {c : Nat} {Dl : Nat → Prop} {l : List Bytes} (hl : Sl sE w Dl A l) (hc : l.length ≤ c) (hll : l.length ≤ 1000000) (hb : (∀ s, s ∈ l → s.length ≤ 140737488351232)) : CallR Tryz.prog 9 #[.agg ⟨[.slice An Z.length capn, .int .i64 mx, .int .i64 my]⟩, .int .i64 cwd, .slice A l.length c] w fun v w' => v = .int .i64 (brkV Z cwd l) ∧ Chg [] w w' := by
 replace hT := hT.mono (D' := fun k => k < w.heap.size) (fun k hk _ => hk)
 refine callR_of_wp (args := [_, _, _]) Tryz.func9 rfl (Nat.le_of_ble_eq_true rfl) ?_
 have HC : Chg [] w w := .refl _
 refine sr rfl <| Wp rfl <| st_box (v := .agg ⟨[.slice _ _ _, .int _ _, .int _ _]⟩) (vs := [_, _, _]) rfl rfl ?_
 intro b3 w1 e2 c3 hb4
 have ge_b3 : w.heap.size ≤ b3 := by rw [e2]; exact HC.size
 have nf_hl_b3 : l = [] ∨ b3 ∉ ob (A) := hl.fresh (by rw [e2]; exact Nat.le_refl _)
 replace HC := HC.then c3
 replace hT := hT.tr0 c3
 replace hl := hl.tr0 c3
 clear e2
 refine aI rfl <| en <| sr rfl <| mL rfl <| Wp rfl <| st_len (ct := #[25]) (by rw [show ((#[25] : Array TypeId)[0]?).bind Tryz.prog.underlying = some (.slice 9) from T.u25]; rfl) rfl <| aI rfl <| en <| x_seq <| sr rfl <| mI rfl <| Wp rfl <| st_eql rfl rfl <| mB rfl <| w_split (d := 12) rfl (fun g5 => ?_) (fun g5 => ?_)
 ·try simp only [nm, ne_eq] at g5
  obtain rfl : l = [] := List.length_eq_zero_iff.1 (by omega)
  iterate 6 refine w_no 2 12 false ?_
  refine pT rfl rfl <| en <| x_cond (t := true) rfl (fun h0 => ?_) (fun h0 => ?_)
  rotate_left
  · exact absurd h0 (by decide)
  refine sr rfl <| aI rfl <| en <| x_ret <| then_r <| ret_tmp (v := .int _ _) rfl rfl ?_
  rw [brk_nil]
  exact ⟨rfl, HC⟩
 ·try simp only [nm, ne_eq] at g5
  obtain ⟨l', x, rfl⟩ : ∃ l' x, l = l' ++ [x] := by have h9 : l ≠ [] := (by rintro rfl; simp at *); exact ⟨l.dropLast, l.getLast h9, (List.dropLast_concat_getLast h9).symm⟩
  refine w_yes 2 12 false <| st_move (v := .slice _ _ _) rfl <| w_yes 2 12 false <| st_move (v := .int _ _) rfl <| w_yes 2 12 false <| st_subn rfl rfl (by constructor <;> omega) ?_
  obtain ⟨lb10, _, vs9, hA6, hR8, hC7⟩ := hl.at (i := ((((l' ++ [x]).length : Nat) : Int) - 1).toNat) (x := x) (last_at)
  obtain rfl : vs9 = [S x] := hR8
  refine w_yes 2 12 false <| st_indexAddr T.u25 T.size9 (congrArg (fun z => Value.slice z _ _) hA6) rfl (by omega) (by omega) <| w_yes 2 12 false <| st_load1 (v := S _) T.one9 rfl (hC7.at (j := 0) rfl) <| w_yes 2 12 false <| st_sneq rfl rfl <| pF rfl rfl <| en <| x_cond rfl (fun h0 => ?_) (fun h0 => ?_)
  ·try simp only [nm, ne_eq] at h0
   refine sr rfl <| aI rfl <| en <| x_ret <| then_r <| ret_tmp (v := .int _ _) rfl rfl ?_
   rw [brk_no (by assumption)]
   exact ⟨rfl, HC⟩
  ·try simp only [nm, ne_eq] at h0
   obtain rfl : x = [93] := by first | assumption | simp_all
   obtain ⟨bl, ol, rfl⟩ : ∃ b o, A = some ⟨b, o, none⟩ := by rcases hl with h | ⟨b, o, h, _⟩; (simp at h); exact ⟨b, o, h⟩
   have hc9 : l'.length < c := by rw [List.length_append, List.length_cons, List.length_nil] at hc; omega
   refine x_skip <| then_n <| x_seq <| x_draw [(0, 0), (1, 0), (2, 0), (3, 0), (4, 0), (5, 0), (6, 1), (7, 0)] T.mixed rfl rfl rfl (fun W => W.heap[b3]? = w1.heap[b3]? ∧ True) ⟨rfl, trivial⟩ ?_
   have o13 := hb4
   have c12 := Chg.drew w1
   generalize World.drew w1 = w11 at c12 ⊢
   replace HC := HC.then c12
   replace hT := hT.tr0 c12
   replace hl := hl.tr0 c12
   replace hb4 := hb4.tr0 c12
   refine sq_q rfl (fun W hT => r_loadA (vs := [_, _, _]) T.agg24 rfl (Blk.cells (n := 3) (vs := [_, _, _]) (show Blk W b3 _ _ from hT.1.trans o13) rfl) rfl) <| sq_q rfl (fun W hT => r_move (v := .int _ _) rfl) <| sq_q rfl (fun W hT => r_move (v := .slice _ _ _) rfl) <| sq_q rfl (fun W hT => r_move (v := .int _ _) rfl) <| sq_q rfl (fun W hT => r_subn rfl rfl (by constructor <;> omega)) <| sq_q rfl (fun W hT => r_sliceTo (j := l'.length) T.u25 T.size9 rfl ⟨.i64, congrArg (Value.int .i64) len_1⟩ (by omega)) <| sq_call1 rfl (r_call (ags := [_, _, _]) rfl rfl T.ent7 rfl) (rtest_all hTl hF _ l' (Nat.lt_succ_self _) (fun s hs => hb s (List.mem_append_left _ hs)) hT (sl_pre hl) (by omega)) ?_
   rintro _ w14 ⟨rfl, c15⟩
   replace HC := HC.then c15
   replace hT := hT.tr0 c15
   replace hl := hl.tr0 c15
   replace hb4 := hb4.tr0 c15
   refine ⟨_, fun _ h => h, ⟨(Eq.trans hb4 o13.symm), trivial⟩, ?_⟩
   refine sq_q rfl (fun W hT => r_assign (v := .int _ _) rfl) ?_
   clear o13
   refine sq_nil <| then_n <| x_ret <| ret_tmp (v := .int _ _) rfl rfl ?_
   rw [brk_yes]
   exact ⟨rfl, HC⟩

theorem Bracket_spec {Z : Tre} {An : Option Addr} {capn : Nat} {mx my : Int} {cwd : Int} {D : Nat → Prop} {w : World} (hT : Sl inE w D An Z) (hTl : Z.length ≤ 1000000000) (hF : FitT Z) {A : Option Addr} {c : Nat} {Dl : Nat → Prop} {l : List Bytes} (hl : Sl sE w Dl A l) (hc : l.length ≤ c) (hll : l.length ≤ 1000000) (hb : (∀ s, s ∈ l → s.length ≤ 140737488351232)) (hmx : MaxT w) (ht : Tab w) : CallR Tryz.prog 8 #[.agg ⟨[.slice An Z.length capn, .int .i64 mx, .int .i64 my]⟩, .int .i64 cwd, .slice A l.length c] w fun v w' => v = .int .i64 (brkV Z cwd l) ∧ Chg [] w w' := by
 replace hT := hT.mono (D' := fun k => k < w.heap.size) (fun k hk _ => hk)
 refine callR_of_wp (args := [_, _, _]) Tryz.func8 rfl (Nat.le_of_ble_eq_true rfl) ?_
 have HC : Chg [] w w := .refl _
 have hm1 := hmx.lt
 have ht1 := ht.lt
 refine sr rfl <| Wp rfl <| st_box (v := .agg ⟨[.slice _ _ _, .int _ _, .int _ _]⟩) (vs := [_, _, _]) rfl rfl ?_
 intro b3 w1 e2 c3 hb4
 have ge_b3 : w.heap.size ≤ b3 := by rw [e2]; exact HC.size
 have nf_hl_b3 : l = [] ∨ b3 ∉ ob (A) := hl.fresh (by rw [e2]; exact Nat.le_refl _)
 replace HC := HC.then c3
 replace hT := hT.tr0 c3
 replace hl := hl.tr0 c3
 replace hmx := hmx.tr0 c3
 replace ht := ht.tr0 c3
 clear e2
 refine aI rfl <| en <| sr rfl <| mL rfl <| Wp rfl <| st_len (ct := #[25]) (by rw [show ((#[25] : Array TypeId)[0]?).bind Tryz.prog.underlying = some (.slice 9) from T.u25]; rfl) rfl <| Wp rfl <| st_subn rfl rfl (by constructor <;> omega) <| aI rfl <| en <| x_seq <| sr rfl <| mI rfl <| Wp rfl <| st_lss rfl rfl <| mB rfl <| w_split (d := 13) rfl (fun g5 => ?_) (fun g5 => ?_)
 ·try simp only [nm, ne_eq] at g5
  obtain rfl : l = [] := List.length_eq_zero_iff.1 (by omega)
  iterate 5 refine w_no 2 13 false ?_
  refine pT rfl rfl <| en <| x_cond (t := true) rfl (fun h0 => ?_) (fun h0 => ?_)
  rotate_left
  · exact absurd h0 (by decide)
  refine sr rfl <| aI rfl <| en <| x_ret <| then_r <| ret_tmp (v := .int _ _) rfl rfl ?_
  rw [brk_nil]
  exact ⟨rfl, HC⟩
 ·try simp only [nm, ne_eq] at g5
  obtain ⟨l', x, rfl⟩ : ∃ l' x, l = l' ++ [x] := by have h9 : l ≠ [] := (by rintro rfl; simp at *); exact ⟨l.dropLast, l.getLast h9, (List.dropLast_concat_getLast h9).symm⟩
  refine w_yes 2 13 false <| st_move (v := .slice _ _ _) rfl <| w_yes 2 13 false <| st_move (v := .int _ _) rfl ?_
  obtain ⟨lb10, _, vs9, hA6, hR8, hC7⟩ := hl.at (i := ((((l' ++ [x]).length : Nat) : Int) - 1).toNat) (x := x) (last_at)
  obtain rfl : vs9 = [S x] := hR8
  refine w_yes 2 13 false <| st_indexAddr T.u25 T.size9 (congrArg (fun z => Value.slice z _ _) hA6) rfl (by omega) (by omega) <| w_yes 2 13 false <| st_load1 (v := S _) T.one9 rfl (hC7.at (j := 0) rfl) <| w_yes 2 13 false <| st_sneq rfl rfl <| pF rfl rfl <| en <| x_cond rfl (fun h0 => ?_) (fun h0 => ?_)
  ·try simp only [nm, ne_eq] at h0
   refine sr rfl <| aI rfl <| en <| x_ret <| then_r <| ret_tmp (v := .int _ _) rfl rfl ?_
   rw [brk_no (by assumption)]
   exact ⟨rfl, HC⟩
  ·try simp only [nm, ne_eq] at h0
   obtain rfl : x = [93] := by first | assumption | simp_all
   obtain ⟨bl, ol, rfl⟩ : ∃ b o, A = some ⟨b, o, none⟩ := by rcases hl with h | ⟨b, o, h, _⟩; (simp at h); exact ⟨b, o, h⟩
   have hc9 : l'.length < c := by rw [List.length_append, List.length_cons, List.length_nil] at hc; omega
   refine x_skip <| then_n <| x_seq <| x_draw [(0, 0), (1, 0), (2, 0), (3, 0), (4, 0), (5, 1), (6, 0)] T.mixed rfl rfl rfl (fun W => W.heap[b3]? = w1.heap[b3]? ∧ True) ⟨rfl, trivial⟩ ?_
   have o13 := hb4
   have c12 := Chg.drew w1
   generalize World.drew w1 = w11 at c12 ⊢
   replace HC := HC.then c12
   replace hT := hT.tr0 c12
   replace hl := hl.tr0 c12
   replace hmx := hmx.tr0 c12
   replace ht := ht.tr0 c12
   replace hb4 := hb4.tr0 c12
   refine sq_q rfl (fun W hT => r_loadA (vs := [_, _, _]) T.agg24 rfl (Blk.cells (n := 3) (vs := [_, _, _]) (show Blk W b3 _ _ from hT.1.trans o13) rfl) rfl) <| sq_q rfl (fun W hT => r_move (v := .int _ _) rfl) <| sq_q rfl (fun W hT => r_move (v := .slice _ _ _) rfl) <| sq_q rfl (fun W hT => r_move (v := .int _ _) rfl) <| sq_q rfl (fun W hT => r_sliceTo (j := l'.length) T.u25 T.size9 rfl ⟨.i64, congrArg (Value.int .i64) len_1⟩ (by omega)) <| sq_call1 rfl (r_call (ags := [_, _, _]) rfl rfl T.ent6 rfl) (test_spec hT hTl hF (sl_pre hl) (by omega) hmx ht (fun s hs => by have := hb s (List.mem_append_left _ hs); omega)) ?_
   rintro _ w14 ⟨rfl, c15⟩
   replace HC := HC.then c15
   replace hT := hT.tr0 c15
   replace hl := hl.tr0 c15
   replace hmx := hmx.tr0 c15
   replace ht := ht.tr0 c15
   replace hb4 := hb4.tr0 c15
   refine ⟨_, fun _ h => h, ⟨(Eq.trans hb4 o13.symm), trivial⟩, ?_⟩
   refine sq_q rfl (fun W hT => r_assign (v := .int _ _) rfl) ?_
   clear o13
   refine sq_nil <| then_n <| x_ret <| ret_tmp (v := .int _ _) rfl rfl ?_
   rw [brk_yes]
   exact ⟨rfl, HC⟩

set_option maxHeartbeats 1000000 in
theorem TestTells_spec {Z : Tre} {An : Option Addr} {capn : Nat} {mx my : Int} {D : Nat → Prop} {w : World} (hT : Sl inE w D An Z) (hTl : Z.length ≤ 9223372036854775807) (hD : ∀ x, x ∈ Z → x.data.length ≤ 140737488351232 ∧ ∀ p, p ∈ x.kids → p.1.length ≤ 140737488351232) (cwd : Int) {A : Option Addr} {c : Nat} {Dl : Nat → Prop} {l : List Bytes} (hl : Sl sE w Dl A l) (hc : l.length ≤ c) (hb : (∀ s, s ∈ l → s.length ≤ 140737488351232)) (hll : l.length ≤ 1000000000000000000) (hmx : MaxT w) (ht : Tab w) : CallR Tryz.prog 3 #[.agg ⟨[.slice An Z.length capn, .int .i64 mx, .int .i64 my]⟩, .int .i64 cwd, .slice A l.length c] w fun v w' => v = .bool true ∧ Chg [] w w' := by
 replace hT := hT.mono (D' := fun k => k < w.heap.size) (fun k hk _ => hk)
 have hm1 := hmx.lt
 have ht1 := ht.lt
 replace hl := hl.mono (D' := fun k => k < w.heap.size) (fun k hk _ => hk)
 have hb5 : ∀ s, s ∈ l → s.length ≤ 140737488355328 := fun s hs => by have := hb s hs; omega
 refine callR_of_wp (args := [_, _, _]) Tryz.func3 rfl (Nat.le_of_ble_eq_true rfl) ?_
 have HC : Chg [] w w := .refl _
 refine sr rfl <| Wp rfl <| st_box (v := .agg ⟨[.slice _ _ _, .int _ _, .int _ _]⟩) (vs := [_, _, _]) rfl rfl ?_
 intro b3 w1 e2 c3 hb4
 have ge_b3 : w.heap.size ≤ b3 := by rw [e2]; exact HC.size
 replace HC := HC.then c3
 replace hT := hT.tr0 c3
 replace hl := hl.tr0 c3
 replace hmx := hmx.tr0 c3
 replace ht := ht.tr0 c3
 clear e2
 refine aB rfl <| en <| x_seq <| sr rfl <| Wp rfl <| st_loadA (vs := [_, _, _]) T.agg24 rfl (hb4.cells (n := 3) (vs := [_, _, _]) rfl) rfl <| mL rfl <| Wp rfl <| st_call (ags := [_, _]) rfl rfl T.ent4 rfl (good_spec hT hTl hD hl hb5 hll) ?_
 rintro _ w5 ⟨⟨bg, rfl, hgp⟩, c6⟩
 replace HC := HC.then c6
 replace hT := hT.tr0 c6
 replace hl := hl.tr0 c6
 replace hmx := hmx.tr0 c6
 replace ht := ht.tr0 c6
 replace hb4 := hb4.tr0 c6
 refine Wp rfl <| st_not rfl <| en <| x_cond rfl (fun h0 => ?_) (fun h0 => ?_)
 ·try simp only [nm, ne_eq] at h0
  refine sr rfl <| Wp rfl <| st_call (ags := []) rfl rfl T.ent5 rfl (awake24_spec hmx ht) ?_
  rintro _ w7 ⟨rfl, c8⟩
  replace HC := HC.then c8
  replace hT := hT.tr0 c8
  replace hl := hl.tr0 c8
  replace hmx := hmx.tr0 c8
  replace ht := ht.tr0 c8
  replace hb4 := hb4.tr0 c8
  refine aB rfl <| en <| x_ret <| then_r <| ret_tmp (v := .bool _) rfl rfl ?_
  exact ⟨rfl, HC⟩
 ·try simp only [nm, ne_eq] at h0
  obtain ⟨hF, hl20⟩ := hgp (by simpa using h0)
  replace hTl : Z.length ≤ 1000000000 := Nat.le_trans hF.few (by decide)
  refine x_skip <| then_n <| x_seq <| x_draw [(0, 0), (1, 0), (2, 0), (4, 0), (5, 0), (6, 0), (3, 1), (7, 1), (8, 0), (9, 0), (10, 0), (11, 0), (12, 0), (14, 0), (15, 0), (16, 0), (13, 1), (17, 1), (18, 0), (19, 0), (20, 0), (21, 1), (22, 0), (23, 0)] T.mixed rfl rfl rfl (fun W => W.heap[b3]? = w5.heap[b3]? ∧ True) ⟨rfl, trivial⟩ ?_
  have o11 := hb4
  have c10 := Chg.drew w5
  generalize World.drew w5 = w9 at c10 ⊢
  replace HC := HC.then c10
  replace hT := hT.tr0 c10
  replace hl := hl.tr0 c10
  replace hmx := hmx.tr0 c10
  replace ht := ht.tr0 c10
  replace hb4 := hb4.tr0 c10
  refine sq_q rfl (fun W hT => r_loadA (vs := [_, _, _]) T.agg24 rfl (Blk.cells (n := 3) (vs := [_, _, _]) (show Blk W b3 _ _ from hT.1.trans o11) rfl) rfl) <| sq_q rfl (fun W hT => r_move (v := .int _ _) rfl) <| sq_q rfl (fun W hT => r_move (v := .slice _ _ _) rfl) <| sq_q rfl (fun W hT => r_loadA (vs := [_, _, _]) T.agg24 rfl (Blk.cells (n := 3) (vs := [_, _, _]) (show Blk W b3 _ _ from hT.1.trans o11) rfl) rfl) <| sq_q rfl (fun W hT => r_move (v := .int _ _) rfl) <| sq_q rfl (fun W hT => r_move (v := .slice _ _ _) rfl) <| sq_call1 rfl (r_call (ags := [_, _, _]) rfl rfl T.ent6 rfl) (test_spec hT hTl hF hl hc hmx ht hb5) ?_
  rintro _ w12 ⟨rfl, c13⟩
  replace HC := HC.then c13
  replace hT := hT.tr0 c13
  replace hl := hl.tr0 c13
  replace hmx := hmx.tr0 c13
  replace ht := ht.tr0 c13
  replace hb4 := hb4.tr0 c13
  refine ⟨_, fun _ h => h, ⟨(Eq.trans hb4 o11.symm), trivial⟩, ?_⟩
  refine sq_call1 rfl (r_call (ags := [_, _, _]) rfl rfl T.ent7 rfl) (rtest_all hTl hF _ l (Nat.lt_succ_self _) hb hT hl hc) ?_
  rintro _ w14 ⟨rfl, c15⟩
  replace HC := HC.then c15
  replace hT := hT.tr0 c15
  replace hl := hl.tr0 c15
  replace hmx := hmx.tr0 c15
  replace ht := ht.tr0 c15
  replace hb4 := hb4.tr0 c15
  refine ⟨_, fun _ h => h, ⟨(Eq.trans hb4 o11.symm), trivial⟩, ?_⟩
  refine sq_q rfl (fun W hT => r_eql rfl rfl) <| sq_q rfl (fun W hT => r_move (v := .bool _) rfl) <| sq_split (d := 21) rfl (fun g16 => ?_) (fun g16 => ?_)
  ·try simp only [nm, ne_eq] at g16
   refine sq_q rfl (fun W hT => r_loadA (vs := [_, _, _]) T.agg24 rfl (Blk.cells (n := 3) (vs := [_, _, _]) (show Blk W b3 _ _ from hT.1.trans o11) rfl) rfl) <| sq_q rfl (fun W hT => r_move (v := .int _ _) rfl) <| sq_q rfl (fun W hT => r_move (v := .slice _ _ _) rfl) <| sq_q rfl (fun W hT => r_loadA (vs := [_, _, _]) T.agg24 rfl (Blk.cells (n := 3) (vs := [_, _, _]) (show Blk W b3 _ _ from hT.1.trans o11) rfl) rfl) <| sq_q rfl (fun W hT => r_move (v := .int _ _) rfl) <| sq_q rfl (fun W hT => r_move (v := .slice _ _ _) rfl) <| sq_call1 rfl (r_call (ags := [_, _, _]) rfl rfl T.ent8 rfl) (Bracket_spec hT hTl hF hl hc (by omega) hb hmx ht) ?_
   rintro _ w17 ⟨rfl, c18⟩
   replace HC := HC.then c18
   replace hT := hT.tr0 c18
   replace hl := hl.tr0 c18
   replace hmx := hmx.tr0 c18
   replace ht := ht.tr0 c18
   replace hb4 := hb4.tr0 c18
   refine ⟨_, fun _ h => h, ⟨(Eq.trans hb4 o11.symm), trivial⟩, ?_⟩
   refine sq_call1 rfl (r_call (ags := [_, _, _]) rfl rfl T.ent9 rfl) (RBracket_spec hT hTl hF hl hc (by omega) hb) ?_
   rintro _ w19 ⟨rfl, c20⟩
   replace HC := HC.then c20
   replace hT := hT.tr0 c20
   replace hl := hl.tr0 c20
   replace hmx := hmx.tr0 c20
   replace ht := ht.tr0 c20
   replace hb4 := hb4.tr0 c20
   refine ⟨_, fun _ h => h, ⟨(Eq.trans hb4 o11.symm), trivial⟩, ?_⟩
   refine sq_q rfl (fun W hT => r_eql rfl rfl) <| sq_q rfl (fun W hT => r_pick (b := true) (v := .bool _) rfl rfl) <| sq_q rfl (fun W hT => r_move (v := .bool _) rfl) <| sq_split (d := 32) rfl (fun g21 => ?_) (fun g21 => ?_)
   ·try simp only [nm, ne_eq] at g21
    refine sq_call1 rfl (r_call (ags := []) rfl rfl T.ent5 rfl) (awake24_spec hmx ht) ?_
    rintro _ w22 ⟨rfl, c23⟩
    replace HC := HC.then c23
    replace hT := hT.tr0 c23
    replace hl := hl.tr0 c23
    replace hmx := hmx.tr0 c23
    replace ht := ht.tr0 c23
    replace hb4 := hb4.tr0 c23
    refine ⟨_, fun _ h => h, ⟨(Eq.trans hb4 o11.symm), trivial⟩, ?_⟩
    refine sq_q rfl (fun W hT => r_pick (b := true) (v := .bool _) rfl rfl) <| sq_q rfl (fun W hT => r_assign (v := .bool _) rfl) ?_
    clear o11
    refine sq_nil <| then_n <| x_ret <| ret_tmp (v := .bool _) rfl rfl ?_
    exact ⟨rfl, HC⟩
   ·try simp only [nm, ne_eq] at g21
    first | exact absurd rfl g21 | exact absurd trivial g21 | (simp at g21; done)
  ·try simp only [nm, ne_eq] at g16
   first | exact absurd rfl g16 | exact absurd trivial g16 | (simp at g16; done)

end Go.Proofs.YtpelmhoocepenaaGreatDoor.K
