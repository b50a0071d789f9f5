import Derived.Test.YtiiahnpgomdfmaaDoorQf
set_option linter.unusedVariables false
set_option linter.unusedSimpArgs false
set_option autoImplicit false
set_option maxRecDepth 20000
namespace Go.Proofs.YtiiahnpgomdfmaaDoor.K
open Go Go.Proofs Go.RowKit

set_option maxHeartbeats 1600000 in
theorem radd_spec {l : List Prt} {A : Option Addr} {cap : Nat} {D : Nat → Prop} {w : World} (x : Prt) (ho : Own prtE 33 w D A cap l) (hfr : ∀ k, w.heap.size ≤ k → D k) (hl : l.length ≤ 1000000) (hz : ∀ z, l.getLast? = some z → z.text.length + x.text.length ≤ 4294967281) : CallR Tryd.prog 20 #[.slice A l.length cap, .agg ⟨prtC x⟩] w fun v w' => ∃ A' cap', v = .slice A' (addP l x).length cap' ∧ Own prtE 33 w' D A' cap' (addP l x) ∧ Chg (ob A) w w' ∧ ∀ g, g ∈ ob A' → g ∈ ob A ∨ w.heap.size ≤ g := by
 refine callR_of_wp (args := [_, _]) Tryd.func20 rfl (Nat.le_of_ble_eq_true rfl) ?_
 have HC : Chg (ob A) w w := .refl _
 refine sr rfl <| Wp rfl <| st_box (v := .agg ⟨[.int _ _, S _, S _, S _, S _, .bool _]⟩) (vs := [_, _, _, _, _, _]) rfl rfl ?_
 intro b3 w1 e2 c3 hb4
 have ge_b3 : w.heap.size ≤ b3 := by rw [e2]; exact HC.size
 have nao_b3 : b3 ∉ ob A := ho.fresh (by rw [e2]; exact Nat.le_refl _)
 have nAo_b3 := nao_b3
 have na_ob3 := nao_b3
 replace HC := HC.then c3
 replace ho := ho.tr0 c3
 clear e2
 refine aL rfl <| en <| sr rfl <| mL rfl <| Wp rfl <| st_len (ct := #[23]) (by rw [show ((#[23] : Array TypeId)[0]?).bind Tryd.prog.underlying = some (.slice 33) from T.u23]; rfl) rfl <| aI rfl <| en <| x_seq <| x_seq ?_
 rcases List.eq_nil_or_concat l with hln | ⟨l0, z, hlz⟩
 ·refine x_draw [(0, 0), (1, 0), (2, 0), (3, 0), (4, 0), (5, 0), (6, 0), (7, 0), (8, 0), (9, 0), (10, 0), (11, 0), (12, 0), (13, 0), (14, 0), (15, 0), (16, 0), (17, 0), (18, 0), (19, 0), (20, 0), (21, 0), (22, 0), (23, 0), (24, 0), (25, 0), (26, 0)] T.mixed rfl rfl rfl (fun W => W.heap[b3]? = w1.heap[b3]? ∧ True) ⟨rfl, trivial⟩ ?_
  have o7 := hb4
  have c6 := Chg.drew w1
  generalize World.drew w1 = w5 at c6 ⊢
  replace HC := HC.then c6
  replace ho := ho.tr0 c6
  replace hb4 := hb4.tr0 c6
  refine sq_q rfl (fun W hT => r_move (v := .int _ _) rfl) <| sq_q rfl (fun W hT => r_gtr rfl rfl) <| sq_q rfl (fun W hT => r_move (v := .bool _) rfl) <| sq_split (d := 10) rfl (fun g8 => ?_) (fun g8 => ?_)
  ·try simp only [nm, ne_eq] at g8
   exfalso; rw [hln] at g8; simp at g8
  ·try simp only [nm, ne_eq] at g8
   refine sq_no rfl rfl <| sq_no rfl rfl <| sq_no rfl rfl <| sq_q rfl (fun W hT => r_pick (b := false) (v := .bool _) rfl rfl) <| sq_q rfl (fun W hT => r_move (v := .bool _) rfl) <| sq_no rfl rfl <| sq_no rfl rfl <| sq_no rfl rfl <| sq_no rfl rfl <| sq_no rfl rfl <| sq_no rfl rfl <| sq_no rfl rfl <| sq_q rfl (fun W hT => r_pick (b := false) (v := .bool _) rfl rfl) <| sq_q rfl (fun W hT => r_move (v := .bool _) rfl) <| sq_no rfl rfl <| sq_no rfl rfl <| sq_no rfl rfl <| sq_no rfl rfl <| sq_no rfl rfl <| sq_no rfl rfl <| sq_no rfl rfl <| sq_no rfl rfl <| sq_no rfl rfl <| sq_q rfl (fun W hT => r_pick (b := false) (v := .bool _) rfl rfl) ?_
   clear o7
   refine sq_nil <| then_n <| x_cond (t := false) rfl (fun h0 => ?_) (fun h0 => ?_)
   · exact absurd h0 (by decide)
   have hadd : addP l x = l ++ [x] := addP_new (by rw [hln]; first | (intro z9 hz9; cases hz9; done) | (intro z9 hz9; rw [List.getLast?_append] at hz9; cases hz9; rintro ⟨h7, h8, h9⟩; simp_all))
   refine x_skip <| then_n <| sr rfl <| mL rfl <| Wp rfl <| st_loadA (vs := [_, _, _, _, _, _]) T.agg33 rfl (hb4.cells (n := 6) (vs := [_, _, _, _, _, _]) rfl) rfl <| Wp rfl <| st_lit (ps := [(0, .tmp 51)]) (vs := [.int _ _, S _, S _, S _, S _, .bool _]) T.lit23 (by decide) rfl (by simp only [List.forall_mem_cons, List.not_mem_nil, false_imp_iff, implies_true, and_true]; exact rfl) rfl ?_
   intro b9 w10 e11 c12 hb13
   have ge_b9 : w.heap.size ≤ b9 := by rw [e11]; exact HC.size
   have ne_b3_b9 : b3 ≠ b9 := by rw [e11]; exact hb4.ne_size
   have nao_b9 : b9 ∉ ob A := ho.fresh (by rw [e11]; exact Nat.le_refl _)
   have nAo_b9 := nao_b9
   have na_ob9 := nao_b9
   replace HC := HC.then c12
   replace ho := ho.tr0 c12
   replace hb4 := hb4.tr0 c12
   clear e11
   have hszA := HC.size
   refine Wp rfl <| st_append2 (c := prtE) (D2 := fun _ => False) (xs := l) (ys := [x]) T.slice23 rfl rfl ho rfl rfl (one_elem rfl (hb13.cells (n := 6) rfl)) (fun _ _ h => h.elim) (fun k hk => (hfr k (Nat.le_trans HC.size hk))) (by simp only [List.length_append, List.length_cons, List.length_nil]; omega) (by simp only [List.length_append, List.length_cons, List.length_nil]; omega) ?_
   intro A14 cap15 w16 ho17 c18 hg19
   replace HC := HC.trans c18 (fun k hk => .inl hk)
   replace hb4 := hb4.tr c18 (fun hx => by first | (have h1 := ho.inD _ hx; omega) | exact na_ob3 hx | exact hav _ hx (by simp))
   replace hb13 := hb13.tr c18 (fun hx => by first | (have h1 := ho.inD _ hx; omega) | exact na_ob9 hx | exact hav _ hx (by simp))
   refine aL rfl <| en <| x_ret <| ret_tmp (v := .slice _ _ _) rfl rfl ?_
   rw [hadd]
   exact ⟨_, _, rfl, ho17, HC, fun g hg => (hg19 g hg).imp id (fun h => Nat.le_trans hszA h)⟩
 ·rw [List.concat_eq_append] at hlz
  have hll : l.length = l0.length + 1 := by rw [hlz]; simp
  have hsub : IntKind.i64.wrap ((l.length : Int) - 1) = ((l0.length : Nat) : Int) := by rw [wrap64_id (by omega) (by omega)]; omega
  have hzl := hz z (by rw [hlz]; simp)
  have hslo := (ho.flat (D' := fun k => k ∈ ob A) flat_flat (fun k hk _ => hk)).sl
  obtain ⟨lb24, _, vs23, hA20, hR22, hC21⟩ := hslo.at (i := l0.length) (x := z) (by rw [hlz]; simp)
  obtain rfl : vs23 = [.int .i64 z.kind, S z.text, S z.name, S z.op, S z.word, .bool z.quoted] := hR22
  refine x_draw [(0, 0), (1, 0), (2, 0), (3, 0), (4, 0), (5, 0), (6, 0), (7, 0), (8, 0), (9, 0), (10, 0), (11, 0), (12, 0), (13, 0), (14, 0), (15, 0), (16, 0), (17, 0), (18, 0), (19, 0), (20, 0), (21, 0), (22, 0), (23, 0), (24, 0), (25, 0), (26, 0)] T.mixed rfl rfl rfl (fun W => W.heap[b3]? = w1.heap[b3]? ∧ W.heap[lb24]? = w1.heap[lb24]? ∧ W.heap[lb24]? = w1.heap[lb24]? ∧ True) ⟨rfl, rfl, rfl, trivial⟩ ?_
  have o27 := hb4
  have c26 := Chg.drew w1
  generalize World.drew w1 = w25 at c26 ⊢
  have ht_lb24 : lb24 < w25.heap.size ∧ w25.heap[lb24]? = w1.heap[lb24]? := ⟨Nat.lt_of_lt_of_le hC21.lt c26.size, c26.block lb24 hC21.lt (by simp)⟩
  have ht_lb24 : lb24 < w25.heap.size ∧ w25.heap[lb24]? = w1.heap[lb24]? := ⟨Nat.lt_of_lt_of_le hC21.lt c26.size, c26.block lb24 hC21.lt (by simp)⟩
  replace HC := HC.then c26
  replace ho := ho.tr0 c26
  replace hb4 := hb4.tr0 c26
  replace hslo := hslo.tr0 c26
  refine sq_q rfl (fun W hT => r_move (v := .int _ _) rfl) <| sq_q rfl (fun W hT => r_gtr rfl rfl) <| sq_q rfl (fun W hT => r_move (v := .bool _) rfl) <| sq_split (d := 10) rfl (fun g28 => ?_) (fun g28 => ?_)
  ·try simp only [nm, ne_eq] at g28
   refine sq_q rfl (fun W hT => r_fieldAddr T.fld33_0 rfl) <| sq_q rfl (fun W hT => r_load1 (v := .int _ _) T.one3 rfl (Blk.cell (show Blk W b3 _ _ from hT.1.trans o27) rfl)) <| sq_q rfl (fun W hT => r_eql rfl rfl) <| sq_q rfl (fun W hT => r_pick (b := true) (v := .bool _) rfl rfl) <| sq_q rfl (fun W hT => r_move (v := .bool _) rfl) <| sq_split (d := 15) rfl (fun g29 => ?_) (fun g29 => ?_)
   ·try simp only [nm, ne_eq] at g29
    refine sq_q rfl (fun W hT => r_move (v := .slice _ _ _) rfl) <| sq_q rfl (fun W hT => r_move (v := .int _ _) rfl) <| sq_q rfl (fun W hT => r_subk (a := (l.length : Int)) (b := 1) (c := ((l0.length : Nat) : Int)) rfl rfl hsub) <| sq_q rfl (fun W hT => r_indexAddr T.u23 T.size33 (congrArg (fun z => Value.slice z _ _) hA20) rfl (by omega) (by omega)) <| sq_q rfl (fun W hT => r_fieldAddr T.fld33_0 rfl) <| sq_q rfl (fun W hT => r_load1 (v := .int _ _) T.one3 rfl (Cells.at (j := 0) (Cells.tr hC21 hT.2.2.1) rfl)) <| sq_q rfl (fun W hT => r_eql rfl rfl) <| sq_q rfl (fun W hT => r_pick (b := true) (v := .bool _) rfl rfl) <| sq_q rfl (fun W hT => r_move (v := .bool _) rfl) <| sq_split (d := 24) rfl (fun g30 => ?_) (fun g30 => ?_)
    ·try simp only [nm, ne_eq] at g30
     refine sq_q rfl (fun W hT => r_move (v := .slice _ _ _) rfl) <| sq_q rfl (fun W hT => r_move (v := .int _ _) rfl) <| sq_q rfl (fun W hT => r_subk (a := (l.length : Int)) (b := 1) (c := ((l0.length : Nat) : Int)) rfl rfl hsub) <| sq_q rfl (fun W hT => r_indexAddr T.u23 T.size33 (congrArg (fun z => Value.slice z _ _) hA20) rfl (by omega) (by omega)) <| sq_q rfl (fun W hT => r_fieldAddr T.fld33_5 rfl) <| sq_q rfl (fun W hT => r_load1 (v := .bool _) T.one4 rfl (Cells.at (j := 5) (Cells.tr hC21 hT.2.2.1) rfl)) <| sq_q rfl (fun W hT => r_fieldAddr T.fld33_5 rfl) <| sq_q rfl (fun W hT => r_load1 (v := .bool _) T.one4 rfl (Blk.cell (show Blk W b3 _ _ from hT.1.trans o27) rfl)) <| sq_q rfl (fun W hT => r_beql T.u4 rfl rfl) <| sq_q rfl (fun W hT => r_pick (b := true) (v := .bool _) rfl rfl) ?_
     clear o27
     refine sq_nil <| then_n <| x_cond rfl (fun h0 => ?_) (fun h0 => ?_)
     ·try simp only [nm, ne_eq] at h0
      obtain ⟨a1, hA1⟩ : ∃ a, A = some a := by rcases ho.form with ⟨_, _, h⟩ | ⟨g, h, _⟩; (rw [h] at hll; simp at hll); exact ⟨_, h⟩
      have hoz := ho
      rw [hA1] at hoz
      obtain ⟨ga, rest9, hge, hA, hln0, hle9, hcap9, hDg⟩ := Own.raw (h := hoz)
      subst hge
      have hln9 : (flatC prtC l ++ rest9).length = cap * 6 := hln0
      replace hA : Blk w25 ga (flatC prtC l ++ rest9) 33 := hA
      have nga_b3 : ga ≠ b3 := fun e => nao_b3 (by rw [hA1, e]; simp [ob])
      have hmrg := addP_snoc (l0 := l0) (z := z) (p := x) ⟨by first | assumption | simp_all, by first | assumption | simp_all, by first | assumption | simp_all⟩
      refine x_seq ?_
      obtain ⟨lb35, _, vs34, hA31, hR33, hC32⟩ := hslo.at (i := l0.length) (x := z) (by rw [hlz]; simp)
      obtain rfl : vs34 = [.int .i64 z.kind, S z.text, S z.name, S z.op, S z.word, .bool z.quoted] := hR33
      refine x_draw [(0, 0), (1, 0), (2, 0), (3, 0), (4, 0), (5, 0), (6, 0), (7, 0), (8, 0), (9, 0), (10, 0), (11, 0), (12, 0), (13, 0), (14, 2)] T.mixed rfl rfl rfl (fun W => W.heap[b3]? = w25.heap[b3]? ∧ W.heap[ga]? = w25.heap[ga]? ∧ W.heap[lb35]? = w25.heap[lb35]? ∧ True) ⟨rfl, rfl, rfl, trivial⟩ ?_
      have o38 := hb4
      have o39 := hA
      have c37 := Chg.drew w25
      generalize World.drew w25 = w36 at c37 ⊢
      have ht_lb35 : lb35 < w36.heap.size ∧ w36.heap[lb35]? = w25.heap[lb35]? := ⟨Nat.lt_of_lt_of_le hC32.lt c37.size, c37.block lb35 hC32.lt (by simp)⟩
      replace HC := HC.then c37
      replace hb4 := hb4.tr0 c37
      replace hslo := hslo.tr0 c37
      replace hA := hA.tr0 c37
      refine sq_q rfl (fun W hT => r_move (v := .slice _ _ _) rfl) <| sq_q rfl (fun W hT => r_move (v := .int _ _) rfl) <| sq_q rfl (fun W hT => r_subk rfl rfl (by exact hsub)) <| sq_q rfl (fun W hT => r_move (v := .slice _ _ _) rfl) <| sq_q rfl (fun W hT => r_move (v := .int _ _) rfl) <| sq_q rfl (fun W hT => r_subk rfl rfl (by exact hsub)) <| sq_q rfl (fun W hT => r_indexAddr T.u23 T.size33 (congrArg (fun z => Value.slice z _ _) hA31) rfl (by omega) (by omega)) <| sq_q rfl (fun W hT => r_fieldAddr T.fld33_1 rfl) <| sq_q rfl (fun W hT => r_load1 (v := S _) T.one9 rfl (Cells.at (j := 1) (Cells.tr hC32 hT.2.2.1) rfl)) <| sq_q rfl (fun W hT => r_fieldAddr T.fld33_1 rfl) <| sq_q rfl (fun W hT => r_load1 (v := S _) T.one9 rfl (Blk.cell (show Blk W b3 _ _ from hT.1.trans o38) rfl)) <| sq_q rfl (fun W hT => r_sadd rfl rfl (by omega)) <| sq_q rfl (fun W hT => r_indexAddr (b := ga) (o := 0) (i := (l0.length : Int)) T.u23 T.size33 (show Value.slice A l.length cap = _ by rw [hA1]) rfl (by omega) (by omega)) <| sq_q rfl (fun W hT => r_fieldAddr T.fld33_1 rfl) <| sq_store2 rfl T.size9 (v := S _) rfl rfl rfl hA rfl (by show 0 + l0.length * 6 + 1 + 1 ≤ (flatC prtC l ++ rest9).length; rw [hln9]; omega) (by simp [Value.oneCell', S]) rfl ?_
      intro w40 c41 hb42
      replace hb42 : Blk w40 ga (flatC prtC (l0 ++ [{ z with text := z.text ++ x.text }]) ++ rest9) 33 := by rw [← set_text, ← hlz]; exact hb42
      clear hA
      replace HC := HC.trans c41 (fun k hx => .inl (by rw [List.mem_singleton.1 hx, hA1]; simp [ob]))
      clear o38
      clear o39
      refine sq_nil <| then_n <| sr rfl <| mL rfl <| aL rfl <| en <| x_ret <| then_r <| ret_tmp (v := .slice _ _ _) rfl rfl ?_
      have hlq : (addP (l0 ++ [z]) x).length = l.length := by rw [hmrg, hll]; simp
      rw [hlz] at *
      skip
      exact ⟨A, cap, by rw [hlz, hmrg] ; simp, by rw [hmrg, hA1]; exact Own.of_raw hb42 (by rw [← hln9]; simp only [List.length_append, flatC_len (sz := 6) (f := prtC) (fun _ => rfl), List.length_cons, List.length_nil]) (by simpa using hle9) hcap9 hDg, HC, fun g hg => .inl hg⟩
     ·try simp only [nm, ne_eq] at h0
      have hadd : addP l x = l ++ [x] := addP_new (by rw [hlz]; first | (intro z9 hz9; cases hz9; done) | (intro z9 hz9; rw [List.getLast?_append] at hz9; cases hz9; rintro ⟨h7, h8, h9⟩; simp_all))
      refine x_skip <| then_n <| sr rfl <| mL rfl <| Wp rfl <| st_loadA (vs := [_, _, _, _, _, _]) T.agg33 rfl (hb4.cells (n := 6) (vs := [_, _, _, _, _, _]) rfl) rfl <| Wp rfl <| st_lit (ps := [(0, .tmp 51)]) (vs := [.int _ _, S _, S _, S _, S _, .bool _]) T.lit23 (by decide) rfl (by simp only [List.forall_mem_cons, List.not_mem_nil, false_imp_iff, implies_true, and_true]; exact rfl) rfl ?_
      intro b43 w44 e45 c46 hb47
      have ge_b43 : w.heap.size ≤ b43 := by rw [e45]; exact HC.size
      have ne_b3_b43 : b3 ≠ b43 := by rw [e45]; exact hb4.ne_size
      have nao_b43 : b43 ∉ ob A := ho.fresh (by rw [e45]; exact Nat.le_refl _)
      have nAo_b43 := nao_b43
      have na_ob43 := nao_b43
      replace HC := HC.then c46
      replace ho := ho.tr0 c46
      replace hb4 := hb4.tr0 c46
      clear e45
      have hszA := HC.size
      refine Wp rfl <| st_append2 (c := prtE) (D2 := fun _ => False) (xs := l) (ys := [x]) T.slice23 rfl rfl ho rfl rfl (one_elem rfl (hb47.cells (n := 6) rfl)) (fun _ _ h => h.elim) (fun k hk => (hfr k (Nat.le_trans HC.size hk))) (by simp only [List.length_append, List.length_cons, List.length_nil]; omega) (by simp only [List.length_append, List.length_cons, List.length_nil]; omega) ?_
      intro A48 cap49 w50 ho51 c52 hg53
      replace HC := HC.trans c52 (fun k hk => .inl hk)
      replace hb4 := hb4.tr c52 (fun hx => by first | (have h1 := ho.inD _ hx; omega) | exact na_ob3 hx | exact hav _ hx (by simp))
      replace hb47 := hb47.tr c52 (fun hx => by first | (have h1 := ho.inD _ hx; omega) | exact na_ob43 hx | exact hav _ hx (by simp))
      refine aL rfl <| en <| x_ret <| ret_tmp (v := .slice _ _ _) rfl rfl ?_
      rw [hadd]
      exact ⟨_, _, rfl, ho51, HC, fun g hg => (hg53 g hg).imp id (fun h => Nat.le_trans hszA h)⟩
    ·try simp only [nm, ne_eq] at g30
     refine sq_no rfl rfl <| sq_no rfl rfl <| sq_no rfl rfl <| sq_no rfl rfl <| sq_no rfl rfl <| sq_no rfl rfl <| sq_no rfl rfl <| sq_no rfl rfl <| sq_no rfl rfl <| sq_q rfl (fun W hT => r_pick (b := false) (v := .bool _) rfl rfl) ?_
     clear o27
     refine sq_nil <| then_n <| x_cond (t := false) rfl (fun h0 => ?_) (fun h0 => ?_)
     · exact absurd h0 (by decide)
     have hadd : addP l x = l ++ [x] := addP_new (by rw [hlz]; first | (intro z9 hz9; cases hz9; done) | (intro z9 hz9; rw [List.getLast?_append] at hz9; cases hz9; rintro ⟨h7, h8, h9⟩; simp_all))
     refine x_skip <| then_n <| sr rfl <| mL rfl <| Wp rfl <| st_loadA (vs := [_, _, _, _, _, _]) T.agg33 rfl (hb4.cells (n := 6) (vs := [_, _, _, _, _, _]) rfl) rfl <| Wp rfl <| st_lit (ps := [(0, .tmp 51)]) (vs := [.int _ _, S _, S _, S _, S _, .bool _]) T.lit23 (by decide) rfl (by simp only [List.forall_mem_cons, List.not_mem_nil, false_imp_iff, implies_true, and_true]; exact rfl) rfl ?_
     intro b54 w55 e56 c57 hb58
     have ge_b54 : w.heap.size ≤ b54 := by rw [e56]; exact HC.size
     have ne_b3_b54 : b3 ≠ b54 := by rw [e56]; exact hb4.ne_size
     have nao_b54 : b54 ∉ ob A := ho.fresh (by rw [e56]; exact Nat.le_refl _)
     have nAo_b54 := nao_b54
     have na_ob54 := nao_b54
     replace HC := HC.then c57
     replace ho := ho.tr0 c57
     replace hb4 := hb4.tr0 c57
     clear e56
     have hszA := HC.size
     refine Wp rfl <| st_append2 (c := prtE) (D2 := fun _ => False) (xs := l) (ys := [x]) T.slice23 rfl rfl ho rfl rfl (one_elem rfl (hb58.cells (n := 6) rfl)) (fun _ _ h => h.elim) (fun k hk => (hfr k (Nat.le_trans HC.size hk))) (by simp only [List.length_append, List.length_cons, List.length_nil]; omega) (by simp only [List.length_append, List.length_cons, List.length_nil]; omega) ?_
     intro A59 cap60 w61 ho62 c63 hg64
     replace HC := HC.trans c63 (fun k hk => .inl hk)
     replace hb4 := hb4.tr c63 (fun hx => by first | (have h1 := ho.inD _ hx; omega) | exact na_ob3 hx | exact hav _ hx (by simp))
     replace hb58 := hb58.tr c63 (fun hx => by first | (have h1 := ho.inD _ hx; omega) | exact na_ob54 hx | exact hav _ hx (by simp))
     refine aL rfl <| en <| x_ret <| ret_tmp (v := .slice _ _ _) rfl rfl ?_
     rw [hadd]
     exact ⟨_, _, rfl, ho62, HC, fun g hg => (hg64 g hg).imp id (fun h => Nat.le_trans hszA h)⟩
   ·try simp only [nm, ne_eq] at g29
    refine sq_no rfl rfl <| sq_no rfl rfl <| sq_no rfl rfl <| sq_no rfl rfl <| sq_no rfl rfl <| sq_no rfl rfl <| sq_no rfl rfl <| sq_q rfl (fun W hT => r_pick (b := false) (v := .bool _) rfl rfl) <| sq_q rfl (fun W hT => r_move (v := .bool _) rfl) <| sq_no rfl rfl <| sq_no rfl rfl <| sq_no rfl rfl <| sq_no rfl rfl <| sq_no rfl rfl <| sq_no rfl rfl <| sq_no rfl rfl <| sq_no rfl rfl <| sq_no rfl rfl <| sq_q rfl (fun W hT => r_pick (b := false) (v := .bool _) rfl rfl) ?_
    clear o27
    refine sq_nil <| then_n <| x_cond (t := false) rfl (fun h0 => ?_) (fun h0 => ?_)
    · exact absurd h0 (by decide)
    have hadd : addP l x = l ++ [x] := addP_new (by rw [hlz]; first | (intro z9 hz9; cases hz9; done) | (intro z9 hz9; rw [List.getLast?_append] at hz9; cases hz9; rintro ⟨h7, h8, h9⟩; simp_all))
    refine x_skip <| then_n <| sr rfl <| mL rfl <| Wp rfl <| st_loadA (vs := [_, _, _, _, _, _]) T.agg33 rfl (hb4.cells (n := 6) (vs := [_, _, _, _, _, _]) rfl) rfl <| Wp rfl <| st_lit (ps := [(0, .tmp 51)]) (vs := [.int _ _, S _, S _, S _, S _, .bool _]) T.lit23 (by decide) rfl (by simp only [List.forall_mem_cons, List.not_mem_nil, false_imp_iff, implies_true, and_true]; exact rfl) rfl ?_
    intro b65 w66 e67 c68 hb69
    have ge_b65 : w.heap.size ≤ b65 := by rw [e67]; exact HC.size
    have ne_b3_b65 : b3 ≠ b65 := by rw [e67]; exact hb4.ne_size
    have nao_b65 : b65 ∉ ob A := ho.fresh (by rw [e67]; exact Nat.le_refl _)
    have nAo_b65 := nao_b65
    have na_ob65 := nao_b65
    replace HC := HC.then c68
    replace ho := ho.tr0 c68
    replace hb4 := hb4.tr0 c68
    clear e67
    have hszA := HC.size
    refine Wp rfl <| st_append2 (c := prtE) (D2 := fun _ => False) (xs := l) (ys := [x]) T.slice23 rfl rfl ho rfl rfl (one_elem rfl (hb69.cells (n := 6) rfl)) (fun _ _ h => h.elim) (fun k hk => (hfr k (Nat.le_trans HC.size hk))) (by simp only [List.length_append, List.length_cons, List.length_nil]; omega) (by simp only [List.length_append, List.length_cons, List.length_nil]; omega) ?_
    intro A70 cap71 w72 ho73 c74 hg75
    replace HC := HC.trans c74 (fun k hk => .inl hk)
    replace hb4 := hb4.tr c74 (fun hx => by first | (have h1 := ho.inD _ hx; omega) | exact na_ob3 hx | exact hav _ hx (by simp))
    replace hb69 := hb69.tr c74 (fun hx => by first | (have h1 := ho.inD _ hx; omega) | exact na_ob65 hx | exact hav _ hx (by simp))
    refine aL rfl <| en <| x_ret <| ret_tmp (v := .slice _ _ _) rfl rfl ?_
    rw [hadd]
    exact ⟨_, _, rfl, ho73, HC, fun g hg => (hg75 g hg).imp id (fun h => Nat.le_trans hszA h)⟩
  ·try simp only [nm, ne_eq] at g28
   exfalso; omega

end Go.Proofs.YtiiahnpgomdfmaaDoor.K
set_option linter.unusedVariables false
set_option linter.unusedSimpArgs false
set_option autoImplicit false
set_option maxRecDepth 20000
namespace Go.Proofs.YtiiahnpgomdfmaaDoor.K
open Go Go.Proofs Go.RowKit

/-- Behind i of a round's parts. -/
def fI (pre : List (Prt × Int)) (l : List Prt) (i : Nat) : List Prt := (l.take i).foldl addP (foldL pre)
theorem fI_succ {pre : List (Prt × Int)} {l : List Prt} {i : Nat} {x : Prt} (hx : l[i]? = some x) : fI pre l (i + 1) = addP (fI pre l i) x := by
  unfold fI; rw [List.take_add_one, hx]; simp
theorem fI_end {pre : List (Prt × Int)} {l : List Prt} {i : Nat} (hi : l.length ≤ i) : fI pre l i = foldL (pre ++ l.map (·, 0)) := by
  unfold fI foldL; rw [List.take_of_length_le hi, List.map_append, List.foldl_append, List.map_map]
  congr 1; simp [Function.comp_def]
theorem fI_bound {pre : List (Prt × Int)} {l : List Prt} {i : Nat} {x : Prt} (hx : l[i]? = some x) : tl (fI pre l i) + x.text.length ≤ tlY pre + tl l ∧ (fI pre l i).length ≤ pre.length + i := by
  have h1 := foldl_tl ((l.take i).map (·, 0)) (foldL pre)
  have h2 := foldL_tl pre
  rw [List.map_map, show (l.take i).map (Prod.fst ∘ fun p => (p, (0 : Int))) = l.take i from by simp [Function.comp_def], tlY_map, List.length_map] at h1
  have h3 : tl l = tl (l.take i) + tl (l.drop i) := by rw [← tl_app, List.take_append_drop]
  have h4 : l.drop i = x :: l.drop (i + 1) := by
    obtain ⟨q, rfl⟩ := List.getElem?_eq_some_iff.1 hx
    exact List.drop_eq_getElem_cons q
  rw [h4] at h3
  have h5 : tl (x :: l.drop (i + 1)) = x.text.length + tl (l.drop (i + 1)) := rfl
  have h6 : (l.take i).length ≤ i := by rw [List.length_take]; omega
  unfold fI
  exact ⟨by rw [h1.1]; omega, by omega⟩
theorem tl_mem : ∀ {l : List Prt} {z : Prt}, z ∈ l → z.text.length ≤ tl l
  | p :: l, z, h => by
    show _ ≤ p.text.length + tl l
    rcases List.mem_cons.1 h with rfl | h
    · omega
    · have := tl_mem h; omega

theorem RParse_gen (m : Int) (pq : Bytes → List Prt × Int) (s : Bytes) (w : World) (hs : s.length ≤ 100000) (hPl : ∀ s', (pq s').1.length ≤ s'.length ∧ tl (pq s').1 ≤ s'.length)
    (hP : m = 0 → ∀ (s' : Bytes) (W : World), s'.length < s.length → CallR Tryd.prog 10 #[S s', .int .i64 1] W fun v W' => ∃ A cap, v = .tuple ⟨[.slice A (pq s').1.length cap, .int .i64 (pq s').2]⟩ ∧ Sl prtE W' (fun k => W.heap.size ≤ k) A (pq s').1 ∧ Chg [] W W') :
    CallR Tryd.prog 10 #[S s, .int .i64 m] w fun v w' => ParsedT w w' (parsG pq m s) v := by
 refine callR_of_wp (args := [_, _]) Tryd.func10 rfl (Nat.le_of_ble_eq_true rfl) ?_
 have HC : Chg [] w w := .refl _
 have ho : Own prtE 33 w (fun k => w.heap.size ≤ k) none 0 (foldL []) := Own.nil
 have hLs := partsY_sum (m := m) hPl s.length s
 refine sr rfl <| aL rfl <| aI rfl <| en <| x_seq <| sr rfl <| mI rfl <| Wp rfl <| st_lss rfl rfl <| mB rfl <| w_split (d := 13) rfl (fun g1 => ?_) (fun g1 => ?_)
 ·try simp only [nm, ne_eq] at g1
  refine w_no 2 13 false <| w_no 2 13 false <| pT rfl rfl <| en <| x_cond (t := true) rfl (fun h0 => ?_) (fun h0 => ?_)
  rotate_left
  · exact absurd h0 (by decide)
  refine sr rfl <| aL rfl <| aI rfl <| en <| x_ret <| then_r <| ret_tmp2 (v := .slice _ _ _) (v2 := .int _ _) rfl rfl rfl ?_
  rw [show parsG pq m s = ([], 22) by rw [parsG, if_pos (by omega)]]
  exact ⟨none, 0, rfl, .nil, HC⟩
 ·try simp only [nm, ne_eq] at g1
  refine w_yes 2 13 false <| st_move (v := .int _ _) rfl <| w_yes 2 13 false <| st_gtr rfl rfl <| pF rfl rfl <| en <| x_cond rfl (fun h0 => ?_) (fun h0 => ?_)
  ·try simp only [nm, ne_eq] at h0
   refine sr rfl <| aL rfl <| aI rfl <| en <| x_ret <| then_r <| ret_tmp2 (v := .slice _ _ _) (v2 := .int _ _) rfl rfl rfl ?_
   rw [show parsG pq m s = ([], 22) by rw [parsG, if_pos (by omega)]]
   exact ⟨none, 0, rfl, .nil, HC⟩
  ·try simp only [nm, ne_eq] at h0
   have hm2 : ¬ (m < 0 ∨ 2 < m) := by omega
   refine x_skip <| then_n <| sr rfl <| aL rfl <| en <| x_seq <| x_block <| x_loop (ι := Nat × Bytes × List (Prt × Int) × Option Addr × Nat) [0, 4, 5, 6, 7, 8, 9, 10, 17, 18, 19, 20, 21, 22, 23, 24, 25, 26, 27, 28, 29, 30, 31, 32, 33, 34, 35, 36, 37, 38, 39, 40, 41, 42, 43] (fun ⟨k, s1, pre, A, cap⟩ => [(0, S s1), (6, .slice A (foldL pre).length cap)]) (fun ⟨k, s1, pre, A, cap⟩ W => (s1.length ≤ k ∧ s1.length ≤ s.length ∧ partsY pq m s.length s = pre ++ partsY pq m k s1 ∧ (∀ u, u ∈ pre → u.2 = 0)) ∧ (Chg [] w W) ∧ (Own prtE 33 W (fun k => w.heap.size ≤ k) A cap (foldL pre))) (fun ⟨k, s1, pre, A, cap⟩ => s1.length) (s.length, s, [], none, 0) ?_ ?_ ?_
   · exact ⟨rfl, rfl, trivial⟩
   ·refine ⟨?_, HC, ho⟩
    exact ⟨Nat.le_refl _, Nat.le_refl _, rfl, fun _ h => by cases h⟩
   intro ⟨k, s1, pre, A, cap⟩ G3 w2 ⟨⟨hk, hk2, hL, hz⟩, HC, ho⟩
   change wp _ _ _ _ _ (upds (over _ _ G3) [(0, S s1), (6, .slice A (foldL pre).length cap)]) _ _
   refine x_seq <| sr rfl <| mS rfl <| Wp rfl <| st_sneq rfl rfl <| en <| x_cond rfl (fun h1 => ?_) (fun h1 => ?_)
   ·try simp only [nm, ne_eq] at h1
    have hw : s1 ≠ [] := by first | assumption | simp_all
    obtain ⟨k, rfl⟩ : ∃ k', k = k' + 1 := ⟨k - 1, by have := List.length_pos_iff.2 hw; omega⟩
    have hwp := List.length_pos_iff.2 hw
    refine x_skip <| then_n <| x_block <| sr rfl <| mS rfl <| mI rfl ?_
    have hoX : ∀ N, Own prtE 33 w2 (fun k => w.heap.size ≤ k ∧ ¬ (w2.heap.size ≤ k ∧ k < N)) A cap (foldL pre) := fun N => ho.mono (fun k hk hD => ⟨hD, fun h => absurd h.1 (Nat.not_le.2 hk)⟩)
    have szw1 := HC.size
    refine Wp rfl <| st_call (ags := [_, _]) rfl rfl T.ent19 rfl (rnext_spec m pq s1 _ (by omega) hw (fun hm s' W hl => hP hm s' W (by omega))) ?_
    rintro _ w4 ⟨l, A9, cap9, rfl, hle, hs9, c5⟩
    replace hs9 := hs9.mono (D' := fun k => w2.heap.size ≤ k ∧ k < w4.heap.size) (fun k hk h => ⟨h, hk⟩)
    have sz2 : w4.heap.size ≤ w4.heap.size := Nat.le_refl _
    replace HC := HC.then c5
    replace ho := ho.tr0 c5
    replace ho := (hoX w4.heap.size).tr0 c5
    refine mv (v := .tuple ⟨[_, _, _]⟩) rfl <| Wp rfl <| st_extract (vs := [_, _, _]) (v := .slice _ _ _) rfl rfl <| Wp rfl <| st_extract (vs := [_, _, _]) (v := .int _ _) rfl rfl <| Wp rfl <| st_extract (vs := [_, _, _]) (v := .int _ _) rfl rfl <| aL rfl <| aI rfl <| aI rfl <| en <| x_seq <| sr rfl <| mI rfl <| Wp rfl <| st_neq rfl rfl <| en <| x_cond rfl (fun h2 => ?_) (fun h2 => ?_)
    ·try simp only [nm, ne_eq] at h2
     refine sr rfl <| mI rfl <| aL rfl <| aI rfl <| en <| x_ret <| then_r <| block_r <| then_r <| block_r <| then_r <| ret_tmp2 (v := .slice _ _ _) (v2 := .int _ _) rfl rfl rfl ?_
     rw [show parsG pq m s = ([], (nextP pq m s1).2.2) by rw [parsG, if_neg hm2, hL, partsY_succ hw, if_pos (by assumption)]; exact foldY_err hz (by assumption)]
     exact ⟨none, 0, rfl, .nil, HC⟩
    ·try simp only [nm, ne_eq] at h2
     have he0 : (nextP pq m s1).2.2 = 0 := by first | assumption | simp_all
     have hlr := hle he0
     have hnl := nextP_le hw he0
     have hb1 : tlY pre + tl l ≤ s.length ∧ pre.length + l.length ≤ s.length + 1 := by have h8 := hLs.1; have h9 := hLs.2.1; rw [hL, partsY_succ hw, if_neg (by rw [he0]; simp)] at h8 h9; rw [tlY_app, tlY_app, tlY_map] at h8; simp only [List.length_append, List.length_map] at h9; rw [hlr]; omega
     refine x_skip <| then_n <| x_seq <| sr rfl <| aI rfl <| en <| x_block <| x_loop (ι := Nat × Option Addr × Nat) [6, 10, 29, 30, 31, 32, 33, 34, 35, 36, 37, 38, 39, 40] (fun ⟨i, A2, cap2⟩ => [(10, .int .i64 (i : Int)), (6, .slice A2 (fI pre l i).length cap2)]) (fun ⟨i, A2, cap2⟩ W => (i ≤ l.length) ∧ (Chg [] w W) ∧ (Own prtE 33 W (fun k => w.heap.size ≤ k ∧ ¬ (w2.heap.size ≤ k ∧ k < w4.heap.size)) A2 cap2 (fI pre l i)) ∧ (Sl prtE W (fun k => w2.heap.size ≤ k ∧ k < w4.heap.size) A9 l) ∧ (w4.heap.size ≤ W.heap.size)) (fun ⟨i, A2, cap2⟩ => l.length - i) (0, A, cap) ?_ ?_ ?_
     · exact ⟨rfl, rfl, trivial⟩
     ·refine ⟨?_, HC, ho, hs9, sz2⟩
      exact Nat.zero_le _
     intro ⟨i, A2, cap2⟩ G7 w6 ⟨hi, HC, ho, hs9, sz2⟩
     change wp _ _ _ _ _ (upds (over _ _ G7) [(10, .int .i64 (i : Int)), (6, .slice A2 (fI pre l i).length cap2)]) _ _
     refine x_seq <| sr rfl <| mI rfl <| mL rfl <| Wp rfl <| st_len (ct := #[23]) (by rw [show ((#[23] : Array TypeId)[0]?).bind Tryd.prog.underlying = some (.slice 33) from T.u23]; rfl) rfl <| Wp rfl <| st_lss rfl rfl <| en <| x_cond rfl (fun h3 => ?_) (fun h3 => ?_)
     ·try simp only [nm, ne_eq] at h3
      refine x_skip <| then_n <| x_seq <| x_block <| x_region rfl <| mL rfl <| mL rfl <| mI rfl ?_
      obtain ⟨x, hx8⟩ : ∃ zz, l[i]? = some zz := ⟨_, List.getElem?_eq_getElem (by omega)⟩
      obtain ⟨lb13, _, vs12, hA9, hR11, hC10⟩ := hs9.at hx8
      obtain rfl : vs12 = [.int .i64 x.kind, S x.text, S x.name, S x.op, S x.word, .bool x.quoted] := hR11
      refine Wp rfl <| st_indexAddr T.u23 T.size33 (congrArg (fun z => Value.slice z _ _) hA9) rfl (by omega) (by omega) <| Wp rfl <| st_loadA (vs := [_, _, _, _, _, _]) T.agg33 rfl hC10 rfl ?_
      have hfb := fI_bound (pre := pre) hx8
      have szH := HC.size
      refine Wp rfl <| st_call (ags := [_, _]) rfl rfl T.ent20 rfl (radd_spec x ho (fun k hk => ⟨by omega, by have := sz2; omega⟩) (by omega) (fun z hz9 => by have := tl_mem (List.mem_of_mem_getLast? hz9); omega)) ?_
      rintro _ w14 ⟨A3, cap3, rfl, ho3, c15, hg3⟩
      replace HC := HC.trans c15 (fun k hk => .inr ((ho.inD k hk).1))
      replace hs9 := hs9.tr c15 (fun k hk hD => (ho.inD k hk).2 hD)
      replace sz2 := Nat.le_trans sz2 c15.size
      refine aL rfl <| wops_nil <| block_n <| then_n <| x_region rfl <| mI rfl <| Wp rfl <| st_addn rfl rfl (by constructor <;> omega) <| aI rfl <| en <| ⟨(i + 1, A3, cap3), ?_, ?_, rfl, ⟨rfl, (congrArg (fun z : List Prt => Value.slice A3 z.length cap3) (fI_succ hx8).symm), trivial⟩, ?_⟩
      ·refine ⟨?_, HC, (by rw [fI_succ hx8]; exact ho3), hs9, sz2⟩
       exact (by omega)
      ·show l.length - (i + 1) < l.length - i; omega
      repeat (first | exact agree_upds agree_over rfl | refine agree_upd ?_ rfl | refine agree_upds ?_ rfl | refine agree_over_sub ?_ rfl)
     ·try simp only [nm, ne_eq] at h3
      have hfe := fI_end (pre := pre) (l := l) (i := i) (by omega)
      have hoE : Own prtE 33 w6 (fun k => w.heap.size ≤ k) A2 cap2 (foldL (pre ++ (nextP pq m s1).1.map (·, 0))) := by rw [← hlr, ← hfe]; exact ho.mono (fun k _ h => h.1)
      refine x_exit <| then_x <| then_x <| block_x <| then_n <| x_region rfl <| mS rfl <| mI rfl <| Wp rfl <| st_sslo (i := (nextP pq m s1).2.1) T.u9 rfl ⟨_, rfl⟩ (by omega) <| aS rfl <| wops_nil <| block_n <| then_n <| ⟨(k, s1.drop (nextP pq m s1).2.1, pre ++ (nextP pq m s1).1.map (·, 0), A2, cap2), ?_, ?_, rfl, ⟨rfl, (by rw [← hlr]; exact congrArg (fun z : List Prt => Value.slice A2 z.length cap2) hfe), trivial⟩, ?_⟩
      ·refine ⟨?_, HC, hoE⟩
       exact ⟨by simp only [List.length_drop]; omega, by simp only [List.length_drop]; omega, by rw [hL, partsY_succ hw, if_neg (by rw [he0]; simp), List.append_assoc], fun u hu => (List.mem_append.1 hu).elim (hz u) (fun h => by obtain ⟨q, _, rfl⟩ := List.mem_map.1 h; rfl)⟩
      ·show (s1.drop (nextP pq m s1).2.1).length < s1.length; simp only [List.length_drop]; omega
      repeat (first | exact agree_upds agree_over rfl | refine agree_upd ?_ rfl | refine agree_upds ?_ rfl | refine agree_over_sub ?_ rfl)
   ·try simp only [nm, ne_eq] at h1
    have hw : s1 = [] := by first | assumption | simp_all
    have hLe : partsY pq m s.length s = pre := by rw [hL, hw]; cases k <;> simp [partsY]
    refine x_exit <| then_x <| then_x <| block_x <| then_n <| sr rfl <| mL rfl <| aL rfl <| aI rfl <| en <| x_ret <| ret_tmp2 (v := .slice _ _ _) (v2 := .int _ _) rfl rfl rfl ?_
    rw [show parsG pq m s = (foldL pre, 0) by rw [parsG, if_neg hm2, hLe]; exact foldY_all hz]
    exact ⟨A, cap, rfl, ho.sl, HC⟩

theorem RParseQ_spec (s : Bytes) (w : World) (hs : s.length ≤ 100000) : CallR Tryd.prog 10 #[S s, .int .i64 1] w fun v w' => ParsedT w w' (parsQ 1 s) v :=
  RParse_gen 1 (fun _ => ([], 0)) s w hs (fun _ => ⟨Nat.zero_le _, Nat.zero_le _⟩) (fun h => absurd h (by decide))
theorem RParse_spec (m : Int) (s : Bytes) (w : World) (hs : s.length ≤ 100000) : CallR Tryd.prog 10 #[S s, .int .i64 m] w fun v w' => ParsedT w w' (parsV m s) v :=
  RParse_gen m (parsQ 1) s w hs parsQ_sum fun _ s' W hl => RParseQ_spec s' W (by omega)

end Go.Proofs.YtiiahnpgomdfmaaDoor.K
set_option linter.unusedVariables false
set_option linter.unusedSimpArgs false
set_option autoImplicit false
set_option maxRecDepth 20000
namespace Go.Proofs.YtiiahnpgomdfmaaDoor.K
open Go Go.Proofs Go.RowKit

theorem PartReads_spec (s : Bytes) (m : Int) (w : World) (hs : s.length ≤ 140737488351232) (ht : Tab w) : CallR Tryd.prog 3 #[S s, .int .i64 m] w fun v w' => v = .bool true ∧ Chg [] w w' := by
 refine callR_of_wp (args := [_, _]) Tryd.func3 rfl (Nat.le_of_ble_eq_true rfl) ?_
 have HC : Chg [] w w := .refl _
 have ht1 := ht.lt
 refine sr rfl <| aB rfl <| en <| x_seq <| sr rfl <| mS rfl <| Wp rfl <| st_slen (ct := #[9]) T.u9 rfl <| Wp rfl <| st_gtr rfl rfl <| en <| x_cond rfl (fun h0 => ?_) (fun h0 => ?_)
 ·try simp only [nm, ne_eq] at h0
  refine sr rfl <| Wp rfl <| st_call (ags := []) rfl rfl T.ent8 rfl (awake_spec _ ht) ?_
  rintro _ w1 ⟨rfl, c2⟩
  replace HC := HC.then c2
  replace ht := ht.tr0 c2
  refine aB rfl <| en <| x_ret <| then_r <| ret_tmp (v := .bool _) rfl rfl ?_
  exact ⟨rfl, HC⟩
 ·try simp only [nm, ne_eq] at h0
  have hl3 : s.length ≤ 3000 := by first | omega | simp_all
  refine x_skip <| then_n <| sr rfl <| mS rfl <| mI rfl <| Wp rfl <| st_call (ags := [_, _]) rfl rfl T.ent9 rfl (Parse_spec m s _ (by omega) ht) ?_
  have sz1_hs1 := HC.size
  rintro _ w3 ⟨A1, cap1, rfl, hs1, c4⟩
  replace HC := HC.then c4
  replace ht := ht.tr0 c4
  refine mv (v := .tuple ⟨[_, _]⟩) rfl <| Wp rfl <| st_extract (vs := [_, _]) (v := .slice _ _ _) rfl rfl <| Wp rfl <| st_extract (vs := [_, _]) (v := .int _ _) rfl rfl <| aL rfl <| aI rfl <| en <| sr rfl <| mS rfl <| mI rfl <| Wp rfl <| st_call (ags := [_, _]) rfl rfl T.ent10 rfl (RParse_spec m s _ (by omega)) ?_
  have sz1_hs2 := HC.size
  rintro _ w5 ⟨A2, cap2, rfl, hs2, c6⟩
  replace HC := HC.then c6
  replace ht := ht.tr0 c6
  replace hs1 := hs1.tr0 c6
  refine mv (v := .tuple ⟨[_, _]⟩) rfl <| Wp rfl <| st_extract (vs := [_, _]) (v := .slice _ _ _) rfl rfl <| Wp rfl <| st_extract (vs := [_, _]) (v := .int _ _) rfl rfl <| aL rfl <| aI rfl <| en <| x_seq ?_
  have hle1 : (parsV m s).1.length ≤ s.length := by unfold parsV; split; exact Nat.zero_le _; exact (foldY_sum parsQ_sum).1
  refine x_region rfl <| mL rfl <| mL rfl <| Wp rfl <| st_call (ags := [_, _]) rfl rfl T.ent11 rfl (RSame_spec (a := (parsV m s).1) (b := (parsV m s).1) hs1 hs2 (by have := hle1; omega)) ?_
  rintro _ w7 ⟨rfl, c8⟩
  replace HC := HC.then c8
  replace ht := ht.tr0 c8
  replace hs1 := hs1.tr0 c8
  replace hs2 := hs2.tr0 c8
  refine mB rfl <| w_split (d := 28) rfl (fun g9 => ?_) (fun g9 => ?_)
  ·try simp only [nm, ne_eq] at g9
   refine w_yes 3 28 true <| st_move (v := .int _ _) rfl <| w_yes 3 28 true <| st_move (v := .int _ _) rfl <| w_yes 3 28 true <| st_eql rfl rfl <| pT rfl rfl <| mB rfl <| w_split (d := 33) rfl (fun g10 => ?_) (fun g10 => ?_)
   ·try simp only [nm, ne_eq] at g10
    refine w_yes 8 33 true <| st_move (v := S _) rfl <| w_yes 8 33 true <| st_call (ags := [_]) rfl rfl T.ent12 rfl (Param_spec s _ (by omega)) ?_
    rintro _ w11 ⟨rfl, c12⟩
    replace HC := HC.then c12
    replace ht := ht.tr0 c12
    replace hs1 := hs1.tr0 c12
    replace hs2 := hs2.tr0 c12
    refine w_yes 8 33 true <| st_move (v := S _) rfl <| w_yes 8 33 true <| st_call (ags := [_]) rfl rfl T.ent13 rfl (RParam_spec s _ (by omega)) ?_
    rintro _ w13 ⟨rfl, c14⟩
    replace HC := HC.then c14
    replace ht := ht.tr0 c14
    replace hs1 := hs1.tr0 c14
    replace hs2 := hs2.tr0 c14
    refine w_yes 8 33 true <| st_beql T.u4 rfl rfl <| pT rfl rfl <| mB rfl <| w_split (d := 40) rfl (fun g15 => ?_) (fun g15 => ?_)
    ·try simp only [nm, ne_eq] at g15
     refine w_yes 15 40 true <| st_call (ags := []) rfl rfl T.ent8 rfl (awake_spec _ ht) ?_
     rintro _ w16 ⟨rfl, c17⟩
     replace HC := HC.then c17
     replace ht := ht.tr0 c17
     replace hs1 := hs1.tr0 c17
     replace hs2 := hs2.tr0 c17
     refine pT rfl rfl <| aB rfl <| en <| x_ret <| ret_tmp (v := .bool _) rfl rfl ?_
     exact ⟨rfl, HC⟩
    ·try simp only [nm, ne_eq] at g15
     first | exact absurd rfl g15 | exact absurd trivial g15 | (simp at g15; done) | exact absurd g15 (by decide)
   ·try simp only [nm, ne_eq] at g10
    first | exact absurd rfl g10 | exact absurd trivial g10 | (simp at g10; done) | exact absurd g10 (by decide)
  ·try simp only [nm, ne_eq] at g9
   first | exact absurd rfl g9 | exact absurd trivial g9 | (simp at g9; done) | exact absurd g9 (by decide)

end Go.Proofs.YtiiahnpgomdfmaaDoor.K
