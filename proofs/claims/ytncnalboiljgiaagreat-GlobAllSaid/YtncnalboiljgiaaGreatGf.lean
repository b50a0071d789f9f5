import Derived.Test.YtncnalboiljgiaaGreatKitSq
import Derived.Test.YtncnalboiljgiaaGreatGc
set_option linter.unusedVariables false
set_option linter.unusedSimpArgs false
set_option autoImplicit false
set_option maxRecDepth 20000
namespace Go.Proofs.YtncnalboiljgiaaGreat.K
open Go Go.Proofs Go.RowKit
theorem setF_on {p q : Bytes} {j : Nat} {ms : List Mem} (h : j < p.length) (h2 : atB p q (memV p q j).2 93 = false) : (setF p q (p.length + 1) j).map (fun r => (ms ++ r.1, r.2)) = (setF p q (p.length + 1) (memV p q j).2).map (fun r => ((ms ++ [(memV p q j).1]) ++ r.1, r.2)) := by
  rw [setM_one h, if_neg (by rw [h2]; simp)]
  cases setF p q (p.length + 1) (memV p q j).2 with
  | none => rfl
  | some r => simp
theorem setF_hit {p q : Bytes} {j : Nat} {ms : List Mem} (h : j < p.length) (h2 : atB p q (memV p q j).2 93 = true) : (setF p q (p.length + 1) j).map (fun r => (ms ++ r.1, r.2)) = some (ms ++ [(memV p q j).1], (memV p q j).2 + 1) := by
  rw [setM_one h, if_pos h2]; rfl
theorem setF_off {p q : Bytes} {j : Nat} {ms : List Mem} (h : ¬ j < p.length) : (setF p q (p.length + 1) j).map (fun r => (ms ++ r.1, r.2)) = none := by rw [setM_end h]; rfl
theorem map_id2 {o : Option (List Mem × Nat)} : o.map (fun r => (([] : List Mem) ++ r.1, r.2)) = o := by cases o <;> simp
set_option maxHeartbeats 400000 in
theorem gset_spec {p q : Bytes} {bt i : Nat} {w : World} (hb : Blk w bt [S p, S q, .int .i64 (i : Int)] 71) (hp : p.length ≤ 100000000) (hi : i ≤ p.length) : CallR Tryz.prog 111 #[.pointer (some ⟨bt, 0, none⟩)] w fun v w' => (∃ u j, v = .tuple ⟨[u, .bool (setM p q i).isSome]⟩ ∧ Blk w' bt [S p, S q, .int .i64 ((j : Nat) : Int)] 71 ∧ ∀ r, setM p q i = some r → j = r.2 ∧ wnE.R w' (fun k => w.heap.size ≤ k) (.set r.1 (atB p q i 33)) [u]) ∧ Chg [bt] w w' := by
 refine callR_of_wp (args := [_]) Tryz.func111 rfl (Nat.le_of_ble_eq_true rfl) ?_
 have HC : Chg [bt] w w := .refl _
 have hbtl := hb.lt
 refine sr rfl <| av (v := .nilIface) rfl <| aB rfl <| en <| sr rfl <| mP rfl <| Wp rfl <| st_call (ags := [_, _, _]) rfl rfl T.ent34 rfl (gis_spec hb 0 [33] i (by omega) (by omega) (by omega) (by simp)) ?_
 rintro _ w1 ⟨rfl, c2⟩
 replace HC := HC.then c2
 replace hb := hb.tr0 c2
 rw [isB_1]
 have e33 : atB p q i (33 : UInt8).toNat = atB p q i 33 := rfl
 rw [e33]
 refine Wp rfl <| st_bld (ps := [(1, .tmp 6)]) (vs := [.slice _ _ _, .bool _]) T.bld176 rfl <| Wp rfl <| st_alloc T.zero176 ?_
 intro b4 w3 e4 c5 hb6
 have ge_b4 := gB e4 HC.size
 have ne_bt_b4 := nF e4 hb.ne_size
 replace HC := HC.then c5
 replace hb := hb.tr0 c5
 clear e4
 refine Wp rfl <| st_st (v := .agg ⟨[_, _]⟩) T.size176 rfl rfl rfl hb6 ?_
 intro w7 c8 hb9; simp only [setVs, setV] at hb9
 clear hb6
 replace HC := HC.then1 c8 ge_b4
 replace hb := hb.tr1 c8 ne_bt_b4
 refine en <| x_seq <| sr rfl <| fa T.fld176_1 rfl <| Wp rfl <| st_load1 (v := .bool _) T.one4 rfl (hb9.cell rfl) <| en <| x_cond rfl (fun h0 => ?_) (fun h0 => ?_)
 ·try simp only [nm, ne_eq] at h0
  have hsb : setB p q i = i + 1 := by unfold setB; rw [if_pos h0]
  have hil := atB_lt h0
  refine x_region rfl <| mP rfl <| nc rfl <| fa T.fld71_2 rfl <| lI T.one3 rfl (hb.cell rfl) <| Wp rfl <| st_addn rfl rfl (by constructor <;> omega) <| nc rfl <| fa T.fld71_2 rfl <| Wp rfl <| st_st (v := .int _ _) T.size3 rfl rfl rfl hb ?_
  intro w10 c11 hb12; simp only [setVs, setV] at hb12
  clear hb
  replace HC := HC.trans c11 q4
  replace hb9 := hb9.tr1 c11 (Ne.symm ne_bt_b4)
  refine en <| x_seq <| x_block ?_
  replace hb12 : Blk w10 bt [S p, S q, .int .i64 (setB p q i : Int)] 71 := by rw [hsb]; exact hb12
  have hsl : setB p q i ≤ p.length := by omega
  have hoN : Own mbE 178 w10 (fun k => w.heap.size ≤ k ∧ k ≠ b4) none 0 ([] : List Mem) := Own.nil
  refine x_loop (ι := List Mem × Nat × Option Addr × Nat) [2, 3, 17, 18, 19, 20, 21, 22, 23, 24, 25, 26, 27, 28, 29, 30, 31, 32, 33, 34, 35, 36, 37, 38, 39, 40, 41, 42, 43, 44] (fun ⟨ms, j, A, cap⟩ => []) (fun ⟨ms, j, A, cap⟩ W => (setM p q i = (setF p q (p.length + 1) j).map (fun r => (ms ++ r.1, r.2)) ∧ j ≤ p.length ∧ ms.length ≤ j) ∧ (Chg [bt] w W) ∧ (Blk W bt [S p, S q, .int .i64 (j : Int)] 71) ∧ (Blk W b4 [.slice A ms.length cap, .bool (atB p q i 33)] 176) ∧ (Own mbE 178 W (fun k => w.heap.size ≤ k ∧ k ≠ b4) A cap ms)) (fun ⟨ms, j, A, cap⟩ => p.length - j) ([], setB p q i, none, 0) ?_ ?_ ?_
  · exact trivial
  ·refine ⟨?_, HC, hb12, hb9, hoN⟩
   exact ⟨(map_id2).symm, hsl, Nat.zero_le _⟩
  intro ⟨ms, j, A, cap⟩ G14 w13 ⟨⟨hst, hj, hml⟩, HC, hb, hb4, ho⟩
  change wp _ _ _ _ _ (upds (over _ _ G14) []) _ _
  refine x_seq <| x_seq <| x_draw [(0, 0), (1, 0), (2, 0), (3, 0), (4, 0), (5, 0), (6, 0), (7, 0), (8, 0), (9, 0)] T.mixed rfl rfl rfl (fun W => W.heap[bt]? = w13.heap[bt]? ∧ W.heap[b4]? = w13.heap[b4]? ∧ True) ⟨rfl, rfl, trivial⟩ ?_
  have o17 := hb
  have o18 := hb4
  have c16 := Chg.drew w13
  generalize World.drew w13 = w15 at c16 ⊢
  replace HC := HC.then c16
  replace hb := hb.tr0 c16
  replace hb4 := hb4.tr0 c16
  replace ho := ho.tr0 c16
  refine sq_q rfl (fun W hT => r_move (v := .pointer _) rfl) <| sq_q rfl (fun W hT => r_nilCheck rfl) <| sq_q rfl (fun W hT => r_fieldAddr T.fld71_2 rfl) <| sq_q rfl (fun W hT => r_load1 (v := .int _ _) T.one3 rfl (Blk.cell (show Blk W bt _ _ from hT.1.trans o17) rfl)) <| sq_q rfl (fun W hT => r_move (v := .pointer _) rfl) <| sq_q rfl (fun W hT => r_nilCheck rfl) <| sq_q rfl (fun W hT => r_fieldAddr T.fld71_0 rfl) <| sq_q rfl (fun W hT => r_load1 (v := S _) T.one9 rfl (Blk.cell (show Blk W bt _ _ from hT.1.trans o17) rfl)) <| sq_q rfl (fun W hT => r_slen (ct := #[9]) T.u9 rfl) <| sq_q rfl (fun W hT => r_lss rfl rfl) ?_
  clear o17
  clear o18
  refine sq_nil <| then_n <| x_cond rfl (fun h1 => ?_) (fun h1 => ?_)
  ·try simp only [nm, ne_eq] at h1
   have hjl : j < p.length := by omega
   have hmg := memV_gt (q := q) hjl
   refine x_skip <| then_n <| x_block <| x_seq <| x_draw [(0, 0), (1, 0), (2, 0), (3, 1), (4, 1), (5, 1), (6, 0), (7, 2)] T.mixed rfl rfl rfl (fun W => W.heap[b4]? = w15.heap[b4]? ∧ True) ⟨rfl, trivial⟩ ?_
   have o21 := hb4
   have c20 := Chg.drew w15
   generalize World.drew w15 = w19 at c20 ⊢
   replace HC := HC.then c20
   replace hb := hb.tr0 c20
   replace hb4 := hb4.tr0 c20
   replace ho := ho.tr0 c20
   refine sq_q rfl (fun W hT => r_fieldAddr T.fld176_0 rfl) <| sq_q rfl (fun W hT => r_load1 (v := .slice _ _ _) T.one174 rfl (Blk.cell (show Blk W b4 _ _ from hT.1.trans o21) rfl)) <| sq_q rfl (fun W hT => r_move (v := .pointer _) rfl) <| sq_call1 rfl (r_call (ags := [_]) rfl rfl T.ent126 rfl) (gmem_spec hb hp (by omega)) ?_
   rintro _ w22 ⟨⟨rfl, hbn⟩, c23⟩
   replace HC := HC.trans c23 q4
   replace hb4 := hb4.tr1 c23 (Ne.symm ne_bt_b4)
   replace ho := ho.trF flat_flat c23 (by intro k hk hx; have h1 := ho.inD _ hk; simp only [List.mem_cons, List.mem_nil_iff, or_false] at hx; omega)
   refine ⟨_, fun _ h => h, ⟨(Eq.trans hb4 o21.symm), trivial⟩, ?_⟩
   refine sq_lit1 (ps := [(0, .tmp 30)]) (vs := [.int _ _, .int _ _, S _]) rfl T.lit174 (by decide) rfl q6 rfl ?_
   intro b24 w25 e26 c27 hb28
   have ge_b24 := gB e26 HC.size
   have ne_b4_b24 := nF e26 hb4.ne_size
   have ne_bt_b24 := nF e26 hbn.ne_size
   have na_gb24 : b24 ∉ ob (A) := ho.fresh (by rw [e26]; exact Nat.le_refl _)
   replace HC := HC.then c27
   replace hb4 := hb4.tr0 c27
   replace ho := ho.tr0 c27
   replace hbn := hbn.tr0 c27
   clear e26
   refine ext_T (b := b24) ⟨(Eq.trans hb4 o21.symm), trivial⟩ ?_
   have o29 := hb28
   have hszA := HC.size
   refine sq_append1 (c := mbE) (D2 := fun _ => False) (xs := ms) (ys := [(memV p q j).1]) rfl T.slice174 rfl rfl ho rfl rfl (one_elem rfl (hb28.cells (n := 3) rfl)) (fun _ _ h => h.elim) (fun k hk => ⟨by have := HC.size; omega, by have := hb4.lt; omega⟩) q7 q7 ?_
   intro A30 cap31 w32 ho33 c34 hg35
   replace HC := HC.trans c34 (fun k hk => .inr ((ho.inD k hk).1))
   replace hb4 := hb4.tr c34 (fun hx => by first | (have h1 := ho.inD _ hx; omega) | exact na_gb4 hx | exact hav _ hx (by simp))
   replace hbn := hbn.tr c34 (fun hx => by first | (have h1 := ho.inD _ hx; omega) | exact na_gbt hx | exact hav _ hx (by simp))
   replace hb28 := hb28.tr c34 (fun hx => by first | (have h1 := ho.inD _ hx; omega) | exact na_gb24 hx | exact hav _ hx (by simp))
   refine ⟨_, fun _ h => h, ⟨(Eq.trans hb28 o29.symm), ⟨(Eq.trans hb4 o21.symm), trivial⟩⟩, ?_⟩
   refine sq_q rfl (fun W hT => r_fieldAddr T.fld176_0 rfl) <| sq_store2 rfl T.size174 (v := .slice _ _ _) rfl rfl rfl hb4 rfl (Nat.le_of_ble_eq_true rfl) q5 rfl ?_
   intro w36 c37 hb38; simp only [setVs, setV] at hb38
   clear hb4
   replace HC := HC.then1 c37 ge_b4
   replace ho33 := ho33.trF flat_flat c37 (by intro k hk hx; have h1 := ho33.inD _ hk; simp only [List.mem_cons, List.mem_nil_iff, or_false] at hx; omega)
   replace hbn := hbn.tr1 c37 ne_bt_b4
   clear o21
   clear o29
   refine sq_nil <| then_n <| sr rfl <| mP rfl <| Wp rfl <| st_call (ags := [_, _, _]) rfl rfl T.ent34 rfl (gis_spec hbn 0 [93] (memV p q j).2 (by omega) (by omega) (by omega) (by simp)) ?_
   rintro _ w39 ⟨rfl, c40⟩
   replace HC := HC.then c40
   replace ho33 := ho33.tr0 c40
   replace hbn := hbn.tr0 c40
   replace hb38 := hb38.tr0 c40
   refine en <| x_cond rfl (fun h2 => ?_) (fun h2 => ?_)
   ·try simp only [nm, ne_eq] at h2
    have h93 : atB p q ((memV p q j).2) 93 = true := ((isB_1 p q ((memV p q j).2) 93).symm).trans (by first | assumption | simpa using h2)
    have hso : setM p q i = some (ms ++ [(memV p q j).1], (memV p q j).2 + 1) := by rw [hst]; exact setF_hit hjl h93
    refine sr rfl <| mP rfl <| nc rfl <| fa T.fld71_2 rfl <| lI T.one3 rfl (hbn.cell rfl) <| Wp rfl <| st_addn rfl rfl (by constructor <;> omega) <| nc rfl <| fa T.fld71_2 rfl <| Wp rfl <| st_st (v := .int _ _) T.size3 rfl rfl rfl hbn ?_
    intro w41 c42 hb43; simp only [setVs, setV] at hb43
    clear hbn
    replace HC := HC.trans c42 q4
    replace ho33 := ho33.trF flat_flat c42 (by intro k hk hx; have h1 := ho33.inD _ hk; simp only [List.mem_cons, List.mem_nil_iff, or_false] at hx; omega)
    replace hb38 := hb38.tr1 c42 (Ne.symm ne_bt_b4)
    refine en <| sr rfl <| Wp rfl <| st_loadA (vs := [_, _]) T.agg176 rfl (hb38.cells (n := 2) (vs := [_, _]) rfl) rfl <| Wp rfl <| st_makeIface T.ux176 rfl rfl <| av (v := .iface _ _) rfl <| aB rfl <| en <| x_ret <| block_r <| then_r <| block_r <| then_r <| ret_tmp2 (v := .iface _ (.agg ⟨[.slice _ _ _, .bool _]⟩)) (v2 := .bool _) rfl rfl rfl ?_
    rw [hso]
    exact ⟨⟨_, (memV p q j).2 + 1, rfl, hb43, fun r hr => by cases hr; exact ⟨rfl, _, _, by rw [List.length_append], by first | exact ho33.le.1 | simpa using ho33.le.1, ho33.le.2, ho33.sl.mono (fun k _ h => h.1)⟩⟩, HC⟩
   ·try simp only [nm, ne_eq] at h2
    have h93 : atB p q ((memV p q j).2) 93 = false := ((isB_1 p q ((memV p q j).2) 93).symm).trans (by first | assumption | simpa using h2)
    refine x_skip <| block_n <| then_n <| ⟨(ms ++ [(memV p q j).1], (memV p q j).2, A30, cap31), ?_, ?_, rfl, trivial, ?_⟩
    ·refine ⟨?_, HC, hbn, (by simpa using hb38), ho33⟩
     exact ⟨by rw [hst]; exact setF_on hjl h93, by omega, by simp only [List.length_append, List.length_cons, List.length_nil]; omega⟩
    ·show p.length - (memV p q j).2 < p.length - j; omega
    exact q9
  ·try simp only [nm, ne_eq] at h1
   have hjl : ¬ j < p.length := by omega
   have hno : setM p q i = none := by rw [hst]; exact setF_off hjl
   refine x_exit <| then_x <| then_x <| block_x <| then_n <| sr rfl <| av (v := .nilIface) rfl <| aB rfl <| en <| x_ret <| ret_tmp2 (v := .nilIface) (v2 := .bool _) rfl rfl rfl ?_
   rw [hno]
   exact ⟨⟨_, j, rfl, hb, fun r hr => by cases hr⟩, HC⟩
 ·try simp only [nm, ne_eq] at h0
  have hsb : setB p q i = i := by unfold setB; rw [if_neg (by rw [h0]; simp)]
  refine x_skip <| then_n <| x_seq <| x_block ?_
  replace hb : Blk w7 bt [S p, S q, .int .i64 (setB p q i : Int)] 71 := by rw [hsb]; exact hb
  have hsl : setB p q i ≤ p.length := by omega
  have hoN : Own mbE 178 w7 (fun k => w.heap.size ≤ k ∧ k ≠ b4) none 0 ([] : List Mem) := Own.nil
  refine x_loop (ι := List Mem × Nat × Option Addr × Nat) [2, 3, 17, 18, 19, 20, 21, 22, 23, 24, 25, 26, 27, 28, 29, 30, 31, 32, 33, 34, 35, 36, 37, 38, 39, 40, 41, 42, 43, 44] (fun ⟨ms, j, A, cap⟩ => []) (fun ⟨ms, j, A, cap⟩ W => (setM p q i = (setF p q (p.length + 1) j).map (fun r => (ms ++ r.1, r.2)) ∧ j ≤ p.length ∧ ms.length ≤ j) ∧ (Chg [bt] w W) ∧ (Blk W bt [S p, S q, .int .i64 (j : Int)] 71) ∧ (Blk W b4 [.slice A ms.length cap, .bool (atB p q i 33)] 176) ∧ (Own mbE 178 W (fun k => w.heap.size ≤ k ∧ k ≠ b4) A cap ms)) (fun ⟨ms, j, A, cap⟩ => p.length - j) ([], setB p q i, none, 0) ?_ ?_ ?_
  · exact trivial
  ·refine ⟨?_, HC, hb, hb9, hoN⟩
   exact ⟨(map_id2).symm, hsl, Nat.zero_le _⟩
  intro ⟨ms, j, A, cap⟩ G45 w44 ⟨⟨hst, hj, hml⟩, HC, hb, hb4, ho⟩
  change wp _ _ _ _ _ (upds (over _ _ G45) []) _ _
  refine x_seq <| x_seq <| x_draw [(0, 0), (1, 0), (2, 0), (3, 0), (4, 0), (5, 0), (6, 0), (7, 0), (8, 0), (9, 0)] T.mixed rfl rfl rfl (fun W => W.heap[bt]? = w44.heap[bt]? ∧ W.heap[b4]? = w44.heap[b4]? ∧ True) ⟨rfl, rfl, trivial⟩ ?_
  have o48 := hb
  have o49 := hb4
  have c47 := Chg.drew w44
  generalize World.drew w44 = w46 at c47 ⊢
  replace HC := HC.then c47
  replace hb := hb.tr0 c47
  replace hb4 := hb4.tr0 c47
  replace ho := ho.tr0 c47
  refine sq_q rfl (fun W hT => r_move (v := .pointer _) rfl) <| sq_q rfl (fun W hT => r_nilCheck rfl) <| sq_q rfl (fun W hT => r_fieldAddr T.fld71_2 rfl) <| sq_q rfl (fun W hT => r_load1 (v := .int _ _) T.one3 rfl (Blk.cell (show Blk W bt _ _ from hT.1.trans o48) rfl)) <| sq_q rfl (fun W hT => r_move (v := .pointer _) rfl) <| sq_q rfl (fun W hT => r_nilCheck rfl) <| sq_q rfl (fun W hT => r_fieldAddr T.fld71_0 rfl) <| sq_q rfl (fun W hT => r_load1 (v := S _) T.one9 rfl (Blk.cell (show Blk W bt _ _ from hT.1.trans o48) rfl)) <| sq_q rfl (fun W hT => r_slen (ct := #[9]) T.u9 rfl) <| sq_q rfl (fun W hT => r_lss rfl rfl) ?_
  clear o48
  clear o49
  refine sq_nil <| then_n <| x_cond rfl (fun h1 => ?_) (fun h1 => ?_)
  ·try simp only [nm, ne_eq] at h1
   have hjl : j < p.length := by omega
   have hmg := memV_gt (q := q) hjl
   refine x_skip <| then_n <| x_block <| x_seq <| x_draw [(0, 0), (1, 0), (2, 0), (3, 1), (4, 1), (5, 1), (6, 0), (7, 2)] T.mixed rfl rfl rfl (fun W => W.heap[b4]? = w46.heap[b4]? ∧ True) ⟨rfl, trivial⟩ ?_
   have o52 := hb4
   have c51 := Chg.drew w46
   generalize World.drew w46 = w50 at c51 ⊢
   replace HC := HC.then c51
   replace hb := hb.tr0 c51
   replace hb4 := hb4.tr0 c51
   replace ho := ho.tr0 c51
   refine sq_q rfl (fun W hT => r_fieldAddr T.fld176_0 rfl) <| sq_q rfl (fun W hT => r_load1 (v := .slice _ _ _) T.one174 rfl (Blk.cell (show Blk W b4 _ _ from hT.1.trans o52) rfl)) <| sq_q rfl (fun W hT => r_move (v := .pointer _) rfl) <| sq_call1 rfl (r_call (ags := [_]) rfl rfl T.ent126 rfl) (gmem_spec hb hp (by omega)) ?_
   rintro _ w53 ⟨⟨rfl, hbn⟩, c54⟩
   replace HC := HC.trans c54 q4
   replace hb4 := hb4.tr1 c54 (Ne.symm ne_bt_b4)
   replace ho := ho.trF flat_flat c54 (by intro k hk hx; have h1 := ho.inD _ hk; simp only [List.mem_cons, List.mem_nil_iff, or_false] at hx; omega)
   refine ⟨_, fun _ h => h, ⟨(Eq.trans hb4 o52.symm), trivial⟩, ?_⟩
   refine sq_lit1 (ps := [(0, .tmp 30)]) (vs := [.int _ _, .int _ _, S _]) rfl T.lit174 (by decide) rfl q6 rfl ?_
   intro b55 w56 e57 c58 hb59
   have ge_b55 := gB e57 HC.size
   have ne_b4_b55 := nF e57 hb4.ne_size
   have ne_bt_b55 := nF e57 hbn.ne_size
   have na_gb55 : b55 ∉ ob (A) := ho.fresh (by rw [e57]; exact Nat.le_refl _)
   replace HC := HC.then c58
   replace hb4 := hb4.tr0 c58
   replace ho := ho.tr0 c58
   replace hbn := hbn.tr0 c58
   clear e57
   refine ext_T (b := b55) ⟨(Eq.trans hb4 o52.symm), trivial⟩ ?_
   have o60 := hb59
   have hszA := HC.size
   refine sq_append1 (c := mbE) (D2 := fun _ => False) (xs := ms) (ys := [(memV p q j).1]) rfl T.slice174 rfl rfl ho rfl rfl (one_elem rfl (hb59.cells (n := 3) rfl)) (fun _ _ h => h.elim) (fun k hk => ⟨by have := HC.size; omega, by have := hb4.lt; omega⟩) q7 q7 ?_
   intro A61 cap62 w63 ho64 c65 hg66
   replace HC := HC.trans c65 (fun k hk => .inr ((ho.inD k hk).1))
   replace hb4 := hb4.tr c65 (fun hx => by first | (have h1 := ho.inD _ hx; omega) | exact na_gb4 hx | exact hav _ hx (by simp))
   replace hbn := hbn.tr c65 (fun hx => by first | (have h1 := ho.inD _ hx; omega) | exact na_gbt hx | exact hav _ hx (by simp))
   replace hb59 := hb59.tr c65 (fun hx => by first | (have h1 := ho.inD _ hx; omega) | exact na_gb55 hx | exact hav _ hx (by simp))
   refine ⟨_, fun _ h => h, ⟨(Eq.trans hb59 o60.symm), ⟨(Eq.trans hb4 o52.symm), trivial⟩⟩, ?_⟩
   refine sq_q rfl (fun W hT => r_fieldAddr T.fld176_0 rfl) <| sq_store2 rfl T.size174 (v := .slice _ _ _) rfl rfl rfl hb4 rfl (Nat.le_of_ble_eq_true rfl) q5 rfl ?_
   intro w67 c68 hb69; simp only [setVs, setV] at hb69
   clear hb4
   replace HC := HC.then1 c68 ge_b4
   replace ho64 := ho64.trF flat_flat c68 (by intro k hk hx; have h1 := ho64.inD _ hk; simp only [List.mem_cons, List.mem_nil_iff, or_false] at hx; omega)
   replace hbn := hbn.tr1 c68 ne_bt_b4
   clear o52
   clear o60
   refine sq_nil <| then_n <| sr rfl <| mP rfl <| Wp rfl <| st_call (ags := [_, _, _]) rfl rfl T.ent34 rfl (gis_spec hbn 0 [93] (memV p q j).2 (by omega) (by omega) (by omega) (by simp)) ?_
   rintro _ w70 ⟨rfl, c71⟩
   replace HC := HC.then c71
   replace ho64 := ho64.tr0 c71
   replace hbn := hbn.tr0 c71
   replace hb69 := hb69.tr0 c71
   refine en <| x_cond rfl (fun h2 => ?_) (fun h2 => ?_)
   ·try simp only [nm, ne_eq] at h2
    have h93 : atB p q ((memV p q j).2) 93 = true := ((isB_1 p q ((memV p q j).2) 93).symm).trans (by first | assumption | simpa using h2)
    have hso : setM p q i = some (ms ++ [(memV p q j).1], (memV p q j).2 + 1) := by rw [hst]; exact setF_hit hjl h93
    refine sr rfl <| mP rfl <| nc rfl <| fa T.fld71_2 rfl <| lI T.one3 rfl (hbn.cell rfl) <| Wp rfl <| st_addn rfl rfl (by constructor <;> omega) <| nc rfl <| fa T.fld71_2 rfl <| Wp rfl <| st_st (v := .int _ _) T.size3 rfl rfl rfl hbn ?_
    intro w72 c73 hb74; simp only [setVs, setV] at hb74
    clear hbn
    replace HC := HC.trans c73 q4
    replace ho64 := ho64.trF flat_flat c73 (by intro k hk hx; have h1 := ho64.inD _ hk; simp only [List.mem_cons, List.mem_nil_iff, or_false] at hx; omega)
    replace hb69 := hb69.tr1 c73 (Ne.symm ne_bt_b4)
    refine en <| sr rfl <| Wp rfl <| st_loadA (vs := [_, _]) T.agg176 rfl (hb69.cells (n := 2) (vs := [_, _]) rfl) rfl <| Wp rfl <| st_makeIface T.ux176 rfl rfl <| av (v := .iface _ _) rfl <| aB rfl <| en <| x_ret <| block_r <| then_r <| block_r <| then_r <| ret_tmp2 (v := .iface _ (.agg ⟨[.slice _ _ _, .bool _]⟩)) (v2 := .bool _) rfl rfl rfl ?_
    rw [hso]
    exact ⟨⟨_, (memV p q j).2 + 1, rfl, hb74, fun r hr => by cases hr; exact ⟨rfl, _, _, by rw [List.length_append], by first | exact ho64.le.1 | simpa using ho64.le.1, ho64.le.2, ho64.sl.mono (fun k _ h => h.1)⟩⟩, HC⟩
   ·try simp only [nm, ne_eq] at h2
    have h93 : atB p q ((memV p q j).2) 93 = false := ((isB_1 p q ((memV p q j).2) 93).symm).trans (by first | assumption | simpa using h2)
    refine x_skip <| block_n <| then_n <| ⟨(ms ++ [(memV p q j).1], (memV p q j).2, A61, cap62), ?_, ?_, rfl, trivial, ?_⟩
    ·refine ⟨?_, HC, hbn, (by simpa using hb69), ho64⟩
     exact ⟨by rw [hst]; exact setF_on hjl h93, by omega, by simp only [List.length_append, List.length_cons, List.length_nil]; omega⟩
    ·show p.length - (memV p q j).2 < p.length - j; omega
    exact q9
  ·try simp only [nm, ne_eq] at h1
   have hjl : ¬ j < p.length := by omega
   have hno : setM p q i = none := by rw [hst]; exact setF_off hjl
   refine x_exit <| then_x <| then_x <| block_x <| then_n <| sr rfl <| av (v := .nilIface) rfl <| aB rfl <| en <| x_ret <| ret_tmp2 (v := .nilIface) (v2 := .bool _) rfl rfl rfl ?_
   rw [hno]
   exact ⟨⟨_, j, rfl, hb, fun r hr => by cases hr⟩, HC⟩
open Go Go.Proofs Go.RowKit
theorem wn_iface {w : World} {D : Nat → Prop} {x : Wn} {u : Value} (h : wnE.R w D x [u]) : ∃ t v, u = .iface t v := by
  cases x with
  | any o => exact ⟨_, _, (List.cons.inj h).1⟩
  | one c => exact ⟨_, _, (List.cons.inj h).1⟩
  | set ms t => obtain ⟨K, c, h, _⟩ := h; exact ⟨_, _, (List.cons.inj h).1⟩
theorem next_star {p q : Bytes} {i : Nat} (h : atB p q i 42 = true) : nextW p q i = (.any false, i + 1) := by unfold nextW; rw [if_pos h]
theorem next_one {p q : Bytes} {i : Nat} (h : atB p q i 42 = false) (h2 : atB p q i 63 = true) : nextW p q i = (.any true, i + 1) := by unfold nextW; rw [if_neg (by rw [h]; simp), if_pos h2]
theorem next_set {p q : Bytes} {i : Nat} {r : List Mem × Nat} (h : atB p q i 42 = false) (h2 : atB p q i 63 = false) (h3 : atB p q i 91 = true) (h4 : setM p q (i + 1) = some r) : nextW p q i = (.set r.1 (atB p q (i + 1) 33), r.2) := by unfold nextW; rw [if_neg (by rw [h]; simp), if_neg (by rw [h2]; simp), if_pos h3, h4]
theorem next_no {p q : Bytes} {i : Nat} (h : atB p q i 42 = false) (h2 : atB p q i 63 = false) (h3 : atB p q i 91 = true) (h4 : setM p q (i + 1) = none) : nextW p q i = (.one (byte p i).toNat, i + 1) := by unfold nextW; rw [if_neg (by rw [h]; simp), if_neg (by rw [h2]; simp), if_pos h3, h4]
theorem next_byte {p q : Bytes} {i : Nat} (h : atB p q i 42 = false) (h2 : atB p q i 63 = false) (h3 : atB p q i 91 = false) : nextW p q i = (.one (byte p i).toNat, i + 1) := by unfold nextW; rw [if_neg (by rw [h]; simp), if_neg (by rw [h2]; simp), if_neg (by rw [h3]; simp)]
theorem gnext_spec {p q : Bytes} {bt i : Nat} {w : World} (hb : Blk w bt [S p, S q, .int .i64 (i : Int)] 71) (hp : p.length ≤ 100000000) (hi : i < p.length) : CallR Tryz.prog 89 #[.pointer (some ⟨bt, 0, none⟩)] w fun v w' => (∃ u, v = u ∧ Blk w' bt [S p, S q, .int .i64 ((nextW p q i).2 : Int)] 71 ∧ wnE.R w' (fun k => w.heap.size ≤ k) (nextW p q i).1 [u]) ∧ Chg [bt] w w' := by
 refine callR_of_wp (args := [_]) Tryz.func89 rfl (Nat.le_of_ble_eq_true rfl) ?_
 have HC : Chg [bt] w w := .refl _
 have hbtl := hb.lt
 refine sr rfl <| av (v := .nilIface) rfl <| en <| x_seq <| x_block <| sr rfl <| mP rfl <| Wp rfl <| st_call (ags := [_, _, _]) rfl rfl T.ent34 rfl (gis_spec hb 0 [42] (i) (by omega) (by omega) (by omega) (by simp)) ?_
 rintro _ w1 ⟨rfl, c2⟩
 replace HC := HC.then c2
 replace hb := hb.tr0 c2
 refine aB rfl <| en <| x_cond rfl (fun h0 => ?_) (fun h0 => ?_)
 ·try simp only [nm, ne_eq] at h0
  have ha : atB p q (i) 42 = true := ((isB_1 p q (i) 42).symm).trans (by first | assumption | simpa using h0)
  refine sr rfl <| mP rfl <| nc rfl <| fa T.fld71_2 rfl <| lI T.one3 rfl (hb.cell rfl) <| Wp rfl <| st_addn rfl rfl (by constructor <;> omega) <| nc rfl <| fa T.fld71_2 rfl <| Wp rfl <| st_st (v := .int _ _) T.size3 rfl rfl rfl hb ?_
  intro w3 c4 hb5; simp only [setVs, setV] at hb5
  clear hb
  replace HC := HC.trans c4 q4
  refine en <| sr rfl <| Wp rfl <| st_bld (ps := []) (vs := [.bool _]) T.bld157 rfl <| Wp rfl <| st_makeIface T.ux157 rfl rfl <| av (v := .iface _ _) rfl <| en <| x_ret <| block_r <| then_r <| ret_tmp (v := .iface _ (.agg ⟨[.bool _]⟩)) rfl rfl ?_
  rw [next_star ha]
  exact ⟨⟨_, rfl, hb5, rfl⟩, HC⟩
 ·try simp only [nm, ne_eq] at h0
  have ha : atB p q (i) 42 = false := ((isB_1 p q (i) 42).symm).trans (by first | assumption | simpa using h0)
  refine sr rfl <| mP rfl <| Wp rfl <| st_call (ags := [_, _, _]) rfl rfl T.ent34 rfl (gis_spec hb 0 [63] (i) (by omega) (by omega) (by omega) (by simp)) ?_
  rintro _ w6 ⟨rfl, c7⟩
  replace HC := HC.then c7
  replace hb := hb.tr0 c7
  refine aB rfl <| en <| x_cond rfl (fun h1 => ?_) (fun h1 => ?_)
  ·try simp only [nm, ne_eq] at h1
   have hb0 : atB p q (i) 63 = true := ((isB_1 p q (i) 63).symm).trans (by first | assumption | simpa using h1)
   refine sr rfl <| mP rfl <| nc rfl <| fa T.fld71_2 rfl <| lI T.one3 rfl (hb.cell rfl) <| Wp rfl <| st_addn rfl rfl (by constructor <;> omega) <| nc rfl <| fa T.fld71_2 rfl <| Wp rfl <| st_st (v := .int _ _) T.size3 rfl rfl rfl hb ?_
   intro w8 c9 hb10; simp only [setVs, setV] at hb10
   clear hb
   replace HC := HC.trans c9 q4
   refine en <| sr rfl <| Wp rfl <| st_bld (ps := [(0, .const (.bool true))]) (vs := [.bool _]) T.bld157 rfl <| Wp rfl <| st_makeIface T.ux157 rfl rfl <| av (v := .iface _ _) rfl <| en <| x_ret <| block_r <| then_r <| ret_tmp (v := .iface _ (.agg ⟨[.bool _]⟩)) rfl rfl ?_
   rw [next_one ha hb0]
   exact ⟨⟨_, rfl, hb10, rfl⟩, HC⟩
  ·try simp only [nm, ne_eq] at h1
   have hb0 : atB p q (i) 63 = false := ((isB_1 p q (i) 63).symm).trans (by first | assumption | simpa using h1)
   refine sr rfl <| mP rfl <| Wp rfl <| st_call (ags := [_, _, _]) rfl rfl T.ent34 rfl (gis_spec hb 0 [91] (i) (by omega) (by omega) (by omega) (by simp)) ?_
   rintro _ w11 ⟨rfl, c12⟩
   replace HC := HC.then c12
   replace hb := hb.tr0 c12
   refine aB rfl <| en <| x_cond rfl (fun h2 => ?_) (fun h2 => ?_)
   ·try simp only [nm, ne_eq] at h2
    have hc0 : atB p q (i) 91 = true := ((isB_1 p q (i) 91).symm).trans (by first | assumption | simpa using h2)
    refine sr rfl <| mP rfl <| nc rfl <| fa T.fld71_2 rfl <| lI T.one3 rfl (hb.cell rfl) <| aI rfl <| en <| sr rfl <| mP rfl <| nc rfl <| fa T.fld71_2 rfl <| lI T.one3 rfl (hb.cell rfl) <| Wp rfl <| st_addn rfl rfl (by constructor <;> omega) <| nc rfl <| fa T.fld71_2 rfl <| Wp rfl <| st_st (v := .int _ _) T.size3 rfl rfl rfl hb ?_
    intro w13 c14 hb15; simp only [setVs, setV] at hb15
    clear hb
    replace HC := HC.trans c14 q4
    refine en <| x_seq <| x_seq ?_
    replace hb15 : Blk w13 bt [S p, S q, .int .i64 ((i + 1 : Nat) : Int)] 71 := hb15
    refine x_region rfl <| mP rfl <| Wp rfl <| st_call (ags := [_]) rfl rfl T.ent111 rfl (gset_spec hb15 hp (by omega)) ?_
    have hszs := HC.size
    rintro _ w16 ⟨⟨u, j, rfl, hbn, hset⟩, c17⟩
    replace HC := HC.trans c17 q4
    refine mv (v := .tuple ⟨[_, _]⟩) rfl <| Wp rfl <| st_extract (vs := [_, _]) (v := u) rfl rfl <| Wp rfl <| st_extract (vs := [_, _]) (v := .bool _) rfl rfl <| av (v := u) rfl <| aB rfl <| en <| sr rfl <| mB rfl <| en <| x_cond rfl (fun h3 => ?_) (fun h3 => ?_)
    ·try simp only [nm, ne_eq] at h3
     obtain ⟨r, hr⟩ := Option.isSome_iff_exists.1 (show (setM p q (i + 1)).isSome = true by first | assumption | simpa using h3)
     obtain ⟨hjr, hu⟩ := hset r hr
     replace hu := wnE.mono hu (D' := fun k => w.heap.size ≤ k) (fun k _ h => Nat.le_trans hszs h)
     refine sr rfl <| mv (v := u) rfl <| av rfl <| en <| x_ret <| then_r <| block_r <| then_r <| ret_tmp (v := u) rfl rfl ?_
     rw [next_set ha hb0 hc0 hr]
     exact ⟨⟨_, rfl, by rw [← hjr]; exact hbn, hu⟩, HC⟩
    ·try simp only [nm, ne_eq] at h3
     have hno : setM p q (i + 1) = none := by cases hq : setM p q (i + 1) with | none => rfl | some r => rw [hq] at h3; simp at h3
     refine x_skip <| then_n <| x_region rfl <| mP rfl <| mI rfl <| nc rfl <| fa T.fld71_2 rfl <| Wp rfl <| st_st (v := .int _ _) T.size3 rfl rfl rfl hbn ?_
     intro w18 c19 hb20; simp only [setVs, setV] at hb20
     clear hbn
     replace HC := HC.trans c19 q4
     refine wops_nil <| block_n <| then_n <| sr rfl <| mP rfl <| nc rfl <| fa T.fld71_2 rfl <| lI T.one3 rfl (hb20.cell rfl) <| Wp rfl <| st_addn rfl rfl (by constructor <;> omega) <| nc rfl <| fa T.fld71_2 rfl <| Wp rfl <| st_st (v := .int _ _) T.size3 rfl rfl rfl hb20 ?_
     intro w21 c22 hb23; simp only [setVs, setV] at hb23
     clear hb20
     replace HC := HC.trans c22 q4
     refine en <| x_seq <| x_draw [(0, 0), (1, 0), (2, 0), (3, 0), (4, 0), (5, 0), (6, 0), (7, 0), (8, 0), (9, 0), (10, 0), (11, 0)] T.mixed rfl rfl rfl (fun W => W.heap[bt]? = w21.heap[bt]? ∧ True) ⟨rfl, trivial⟩ ?_
     have o26 := hb23
     have c25 := Chg.drew w21
     generalize World.drew w21 = w24 at c25 ⊢
     replace HC := HC.then c25
     replace hb23 := hb23.tr0 c25
     refine sq_q rfl (fun W hT => r_move (v := .pointer _) rfl) <| sq_q rfl (fun W hT => r_nilCheck rfl) <| sq_q rfl (fun W hT => r_fieldAddr T.fld71_0 rfl) <| sq_q rfl (fun W hT => r_load1 (v := S _) T.one9 rfl (Blk.cell (show Blk W bt _ _ from hT.1.trans o26) rfl)) <| sq_q rfl (fun W hT => r_move (v := .pointer _) rfl) <| sq_q rfl (fun W hT => r_nilCheck rfl) <| sq_q rfl (fun W hT => r_fieldAddr T.fld71_2 rfl) <| sq_q rfl (fun W hT => r_load1 (v := .int _ _) T.one3 rfl (Blk.cell (show Blk W bt _ _ from hT.1.trans o26) rfl)) <| sq_q rfl (fun W hT => r_subn rfl rfl (by constructor <;> omega)) <| sq_q rfl (fun W hT => r_sidx T.u9 rfl rfl (by omega) (by omega)) <| sq_q rfl (fun W hT => r_makeIface T.u160 rfl rfl) <| sq_q rfl (fun W hT => r_assign (v := .iface _ _) rfl) ?_
     clear o26
     refine sq_nil <| then_n <| x_ret <| ret_tmp (v := .iface _ (.int _ _)) rfl rfl ?_
     rw [next_no ha hb0 hc0 hno]
     have e9 : ((i : Int) + 1 - 1).toNat = i := by omega
     rw [e9]
     exact ⟨⟨_, rfl, hb23, rfl⟩, HC⟩
   ·try simp only [nm, ne_eq] at h2
    have hc0 : atB p q (i) 91 = false := ((isB_1 p q (i) 91).symm).trans (by first | assumption | simpa using h2)
    refine x_skip <| block_n <| then_n <| sr rfl <| mP rfl <| nc rfl <| fa T.fld71_2 rfl <| lI T.one3 rfl (hb.cell rfl) <| Wp rfl <| st_addn rfl rfl (by constructor <;> omega) <| nc rfl <| fa T.fld71_2 rfl <| Wp rfl <| st_st (v := .int _ _) T.size3 rfl rfl rfl hb ?_
    intro w27 c28 hb29; simp only [setVs, setV] at hb29
    clear hb
    replace HC := HC.trans c28 q4
    refine en <| x_seq <| x_draw [(0, 0), (1, 0), (2, 0), (3, 0), (4, 0), (5, 0), (6, 0), (7, 0), (8, 0), (9, 0), (10, 0), (11, 0)] T.mixed rfl rfl rfl (fun W => W.heap[bt]? = w27.heap[bt]? ∧ True) ⟨rfl, trivial⟩ ?_
    have o32 := hb29
    have c31 := Chg.drew w27
    generalize World.drew w27 = w30 at c31 ⊢
    replace HC := HC.then c31
    replace hb29 := hb29.tr0 c31
    refine sq_q rfl (fun W hT => r_move (v := .pointer _) rfl) <| sq_q rfl (fun W hT => r_nilCheck rfl) <| sq_q rfl (fun W hT => r_fieldAddr T.fld71_0 rfl) <| sq_q rfl (fun W hT => r_load1 (v := S _) T.one9 rfl (Blk.cell (show Blk W bt _ _ from hT.1.trans o32) rfl)) <| sq_q rfl (fun W hT => r_move (v := .pointer _) rfl) <| sq_q rfl (fun W hT => r_nilCheck rfl) <| sq_q rfl (fun W hT => r_fieldAddr T.fld71_2 rfl) <| sq_q rfl (fun W hT => r_load1 (v := .int _ _) T.one3 rfl (Blk.cell (show Blk W bt _ _ from hT.1.trans o32) rfl)) <| sq_q rfl (fun W hT => r_subn rfl rfl (by constructor <;> omega)) <| sq_q rfl (fun W hT => r_sidx T.u9 rfl rfl (by omega) (by omega)) <| sq_q rfl (fun W hT => r_makeIface T.u160 rfl rfl) <| sq_q rfl (fun W hT => r_assign (v := .iface _ _) rfl) ?_
    clear o32
    refine sq_nil <| then_n <| x_ret <| ret_tmp (v := .iface _ (.int _ _)) rfl rfl ?_
    rw [next_byte ha hb0 hc0]
    have e9 : ((i : Int) + 1 - 1).toNat = i := by omega
    rw [e9]
    exact ⟨⟨_, rfl, hb29, rfl⟩, HC⟩
set_option maxHeartbeats 400000 in
theorem gwants_spec (p q : Bytes) (w : World) (hp : p.length ≤ 100000000) : CallR Tryz.prog 65 #[S p, S q] w fun v w' => (∃ A cap, v = .slice A (wantsV p q).length cap ∧ (wantsV p q).length ≤ cap ∧ Sl wnE w' (fun k => w.heap.size ≤ k) A (wantsV p q)) ∧ Chg [] w w' := by
 refine callR_of_wp (args := [_, _]) Tryz.func65 rfl (Nat.le_of_ble_eq_true rfl) ?_
 have HC : Chg [] w w := .refl _
 refine sr rfl <| aL rfl <| en <| sr rfl <| mS rfl <| mS rfl <| Wp rfl <| st_bld (ps := [(0, .tmp 7), (1, .tmp 8)]) (vs := [S _, S _, .int _ _]) T.bld71 rfl <| Wp rfl <| st_box (v := .agg ⟨[S _, S _, .int _ _]⟩) (vs := [_, _, _]) rfl rfl ?_
 intro bt w1 e2 c3 hb4
 have ge_bt := gB e2 HC.size
 replace HC := HC.then c3
 clear e2
 refine aP rfl <| en <| sr rfl <| aL rfl <| en <| x_seq <| x_block ?_
 have hoN : Own wnE 134 w1 (fun k => w.heap.size ≤ k ∧ k ≠ bt) none 0 ([] : List Wn) := Own.nil
 refine x_loop (ι := List Wn × Nat × Option Addr × Nat) [6, 11, 12, 13, 14, 15, 16, 17, 18, 19, 20, 21, 22] (fun ⟨l, j, A, cap⟩ => [(6, .slice A l.length cap)]) (fun ⟨l, j, A, cap⟩ W => (wantsV p q = l ++ wantsF p q (p.length + 1) j ∧ j ≤ p.length ∧ l.length ≤ j) ∧ (Chg [] w W) ∧ (Blk W bt [S p, S q, .int .i64 (j : Int)] 71) ∧ (Own wnE 134 W (fun k => w.heap.size ≤ k ∧ k ≠ bt) A cap l)) (fun ⟨l, j, A, cap⟩ => p.length - j) ([], 0, none, 0) ?_ ?_ ?_
 · exact ⟨rfl, trivial⟩
 ·refine ⟨?_, HC, hb4, hoN⟩
  exact ⟨rfl, Nat.zero_le _, Nat.le_refl _⟩
 intro ⟨l, j, A, cap⟩ G6 w5 ⟨⟨hst, hj, hll⟩, HC, hbt, ho⟩
 change wp _ _ _ _ _ (upds (over _ _ G6) [(6, .slice A l.length cap)]) _ _
 refine x_seq <| sr rfl <| mP rfl <| nc rfl <| fa T.fld71_2 rfl <| lI T.one3 rfl (hbt.cell rfl) <| mS rfl <| Wp rfl <| st_slen (ct := #[9]) T.u9 rfl <| Wp rfl <| st_lss rfl rfl <| en <| x_cond rfl (fun h0 => ?_) (fun h0 => ?_)
 ·try simp only [nm, ne_eq] at h0
  have hjl : j < p.length := by omega
  have hng := nextW_gt (q := q) hjl
  have hbtl := hbt.lt
  refine x_skip <| then_n <| x_block <| x_region rfl <| mL rfl <| mP rfl ?_
  have hob := ho.lt
  have hszn := HC.size
  have hszm : w5.heap.size ≤ w5.heap.size := Nat.le_refl _
  refine Wp rfl <| st_call (ags := [_]) rfl rfl T.ent89 rfl (gnext_spec hbt hp hjl) ?_
  rintro _ w7 ⟨⟨u, rfl, hbn, hu⟩, c8⟩
  obtain ⟨tu, vu, rfl⟩ := wn_iface hu
  replace HC := HC.then1 c8 ge_bt
  replace ho := ho.tr c8 q3
  refine Wp rfl <| st_lit (ps := [(0, .tmp 20)]) (vs := [_]) T.lit105 (by decide) rfl q6 rfl ?_
  intro b9 w10 e11 c12 hb13
  have ge_b9 := gB e11 HC.size
  have ne_bt_b9 := nF e11 hbn.ne_size
  have na_gb9 : b9 ∉ ob (A) := ho.fresh (by rw [e11]; exact Nat.le_refl _)
  replace HC := HC.then c12
  replace ho := ho.tr0 c12
  replace hbn := hbn.tr0 c12
  replace hu := wnE.tr0 hu c12
  clear e11
  have hszA := HC.size
  refine Wp rfl <| st_append2 (c := wnE) (D2 := (fun k => w5.heap.size ≤ k)) (xs := l) (ys := [(nextW p q j).1]) T.slice105 rfl rfl ho rfl rfl (one_elem hu (hb13.cells (n := 1) rfl)) (fun k _ h => ⟨⟨by have h7 : w5.heap.size ≤ k := h; omega, by have h7 : w5.heap.size ≤ k := h; omega⟩, fun hk => by have h7 : w5.heap.size ≤ k := h; have h8 := hob k hk; omega⟩) (fun k hk => ⟨by have := HC.size; omega, by have := hbn.lt; omega⟩) q7 q7 ?_
  intro A14 cap15 w16 ho17 c18 hg19
  replace HC := HC.trans c18 (fun k hk => .inr ((ho.inD k hk).1))
  replace hbn := hbn.tr c18 (fun hx => by first | (have h1 := ho.inD _ hx; omega) | exact na_gbt hx | exact hav _ hx (by simp))
  refine aL rfl <| wops_nil <| block_n <| then_n <| ⟨(l ++ [(nextW p q j).1], (nextW p q j).2, A14, cap15), ?_, ?_, rfl, ⟨rfl, trivial⟩, ?_⟩
  ·refine ⟨?_, HC, hbn, ho17⟩
   exact ⟨by rw [hst, wants_one hjl, List.append_assoc]; rfl, by omega, by simp only [List.length_append, List.length_cons, List.length_nil]; omega⟩
  ·show p.length - (nextW p q j).2 < p.length - j; omega
  exact q9
 ·try simp only [nm, ne_eq] at h0
  have hjl : ¬ j < p.length := by omega
  have hfi : wantsV p q = l := by rw [hst, wants_end hjl, List.append_nil]
  refine x_exit <| then_x <| then_x <| block_x <| then_n <| sr rfl <| mL rfl <| aL rfl <| en <| x_ret <| ret_tmp (v := .slice _ _ _) rfl rfl ?_
  rw [hfi]
  exact ⟨⟨A, cap, rfl, ho.le.1, ho.sl.mono (fun k _ h => h.1)⟩, HC⟩
open Go Go.Proofs Go.RowKit
theorem ghas_spec (m : Mem) (c : UInt8) (w : World) : CallR Tryz.prog 163 #[.agg ⟨mbC m⟩, .int .u8 (c.toNat : Int)] w fun v w' => v = .bool (m.has c.toNat) ∧ Chg [] w w' := by
 refine callR_of_wp (args := [_, _]) Tryz.func163 rfl (Nat.le_of_ble_eq_true rfl) ?_
 have HC : Chg [] w w := .refl _
 refine sr rfl <| Wp rfl <| st_box (v := .agg ⟨[.int _ _, .int _ _, S _]⟩) (vs := [_, _, _]) rfl rfl ?_
 intro b2 w1 e2 c3 hb4
 have ge_b2 := gB e2 HC.size
 replace HC := HC.then c3
 clear e2
 refine aB rfl <| en <| x_seq <| sr rfl <| fa T.fld178_2 rfl <| lS T.one9 rfl (hb4.cell rfl) <| Wp rfl <| st_sneq rfl rfl <| en <| x_cond rfl (fun h0 => ?_) (fun h0 => ?_)
 ·try simp only [nm, ne_eq] at h0
  refine sr rfl <| fa T.fld178_2 rfl <| lS T.one9 rfl (hb4.cell rfl) <| mI rfl <| Wp rfl <| st_call (ags := [_, _]) rfl rfl T.ent164 rfl (g_class _ c _) ?_
  rintro _ w5 ⟨rfl, c6⟩
  replace HC := HC.then c6
  refine aB rfl <| en <| x_ret <| then_r <| ret_tmp (v := .bool _) rfl rfl <| ⟨congrArg Value.bool ?_, HC⟩
  unfold Mem.has; rw [if_neg (by first | assumption | simpa using h0)]
 ·try simp only [nm, ne_eq] at h0
  refine x_skip <| then_n <| sr rfl <| fa T.fld178_0 rfl <| lI T.one5 rfl (hb4.cell rfl) <| mI rfl <| Wp rfl <| st_leq rfl rfl <| mB rfl <| w_split (d := 16) rfl (fun g7 => ?_) (fun g7 => ?_)
  ·try simp only [nm, ne_eq] at g7
   refine w_yes 4 16 true <| st_move (v := .int _ _) rfl <| w_yes 4 16 true <| st_fieldAddr T.fld178_1 rfl <| w_yes 4 16 true <| st_load1 (v := .int _ _) T.one5 rfl (hb4.cell rfl) <| w_yes 4 16 true <| st_leq rfl rfl <| pT rfl rfl <| aB rfl <| en <| x_ret <| ret_tmp (v := .bool _) rfl rfl <| ⟨congrArg Value.bool ?_, HC⟩
   unfold Mem.has; rw [if_pos (by first | assumption | simpa using h0)]
   rw [Bool.eq_iff_iff]
   simp only [Bool.and_eq_true, decide_eq_true_eq]
   (try simp only [Bool.false_eq_true, false_iff])
   omega
  ·try simp only [nm, ne_eq] at g7
   iterate 4 refine w_no 4 16 true ?_
   refine pF rfl rfl <| aB rfl <| en <| x_ret <| ret_tmp (v := .bool _) rfl rfl <| ⟨congrArg Value.bool ?_, HC⟩
   unfold Mem.has; rw [if_pos (by first | assumption | simpa using h0)]
   rw [Bool.eq_iff_iff]
   simp only [Bool.and_eq_true, decide_eq_true_eq]
   (try simp only [Bool.false_eq_true, false_iff])
   omega
theorem gtk_any (o : Bool) (c : UInt8) (w : World) : CallR Tryz.prog 160 #[.agg ⟨[.bool o]⟩, .int .u8 (c.toNat : Int)] w fun v w' => v = .bool true ∧ Chg [] w w' := by
 refine callR_of_wp (args := [_, _]) Tryz.func160 rfl (Nat.le_of_ble_eq_true rfl) ?_
 have HC : Chg [] w w := .refl _
 refine sr rfl <| Wp rfl <| st_box (v := .agg ⟨[.bool _]⟩) (vs := [_]) rfl rfl ?_
 intro b2 w1 e2 c3 hb4
 have ge_b2 := gB e2 HC.size
 replace HC := HC.then c3
 clear e2
 refine aB rfl <| en <| sr rfl <| aB rfl <| en <| x_ret <| ret_tmp (v := .bool _) rfl rfl ?_
 exact ⟨rfl, HC⟩
theorem gtk_one (d : Nat) (c : UInt8) (w : World) : CallR Tryz.prog 161 #[.int .u8 (d : Int), .int .u8 (c.toNat : Int)] w fun v w' => v = .bool (decide (c.toNat = d)) ∧ Chg [] w w' := by
 refine callR_of_wp (args := [_, _]) Tryz.func161 rfl (Nat.le_of_ble_eq_true rfl) ?_
 have HC : Chg [] w w := .refl _
 refine sr rfl <| aB rfl <| en <| sr rfl <| mI rfl <| mI rfl <| Wp rfl <| st_eql rfl rfl <| aB rfl <| en <| x_ret <| ret_tmp (v := .bool _) rfl rfl <| ⟨congrArg Value.bool ?_, HC⟩
 rw [decide_eq_decide]; omega
theorem any_has {ms : List Mem} {c i : Nat} {x : Mem} (h : ms[i]? = some x) (hx : x.has c = true) : ms.any (·.has c) = true := List.any_eq_true.2 ⟨x, List.mem_of_getElem? h, hx⟩
theorem no_has {ms : List Mem} {c i : Nat} (h : ∀ j x, j < i → ms[j]? = some x → x.has c = false) (hi : ms.length ≤ i) : ms.any (·.has c) = false := by
  rw [List.any_eq_false]; intro x hx
  obtain ⟨j, hj⟩ := List.mem_iff_getElem?.1 hx
  rw [h j x (by have := (List.getElem?_eq_some_iff.1 hj).1; omega) hj]; simp
theorem gtk_set {ms : List Mem} {A : Option Addr} {cap : Nat} {D : Nat → Prop} {w : World} (t : Bool) (c : UInt8) (hm : Sl mbE w D A ms) (hl : ms.length ≤ 9223372036854775807) : CallR Tryz.prog 162 #[.agg ⟨[.slice A ms.length cap, .bool t]⟩, .int .u8 (c.toNat : Int)] w fun v w' => v = .bool (if ms.any (·.has c.toNat) then !t else t) ∧ Chg [] w w' := by
 refine callR_of_wp (args := [_, _]) Tryz.func162 rfl (Nat.le_of_ble_eq_true rfl) ?_
 have HC : Chg [] w w := .refl _
 refine sr rfl <| Wp rfl <| st_box (v := .agg ⟨[.slice _ _ _, .bool _]⟩) (vs := [_, _]) rfl rfl ?_
 intro b2 w1 e2 c3 hb4
 have ge_b2 := gB e2 HC.size
 have nf_hm_b2 : ms = [] ∨ b2 ∉ ob (A) := hm.fresh (by rw [e2]; exact Nat.le_refl _)
 replace HC := HC.then c3
 replace hm := hm.tr0 c3
 clear e2
 refine aB rfl <| en <| x_seq <| sr rfl <| fa T.fld176_0 rfl <| lL T.one174 rfl (hb4.cell rfl) <| Wp rfl <| st_len (ct := #[174]) (by rw [show ((#[174] : Array TypeId)[0]?).bind Tryz.prog.underlying = some (.slice 178) from T.u174]; rfl) rfl <| mI rfl <| en <| x_block <| x_loop (ι := Nat) [4, 6, 10, 11, 12, 13, 14, 15, 16, 17, 18, 19, 20] (fun i => [(10, .int .i64 (i : Int))]) (fun i W => (i ≤ ms.length ∧ ∀ j x, j < i → ms[j]? = some x → x.has c.toNat = false) ∧ (Chg [] w W) ∧ (Sl mbE W D A ms) ∧ (Blk W b2 [.slice A ms.length cap, .bool t] 176)) (fun i => ms.length - i) 0 ?_ ?_ ?_
 · exact ⟨rfl, trivial⟩
 ·refine ⟨?_, HC, hm, hb4⟩
  exact ⟨Nat.zero_le _, fun j x h => absurd h (Nat.not_lt_zero _)⟩
 intro i G6 w5 ⟨⟨hi, hno⟩, HC, hm, hb4⟩
 change wp _ _ _ _ _ (upds (over _ _ G6) [(10, .int .i64 (i : Int))]) _ _
 refine sr rfl <| Wp rfl <| st_lss rfl rfl <| en <| x_seq <| x_cond rfl (fun h0 => ?_) (fun h0 => ?_)
 ·try simp only [nm, ne_eq] at h0
  obtain ⟨x, hx⟩ : ∃ x, ms[i]? = some x := ⟨_, List.getElem?_eq_getElem (by omega)⟩
  refine x_skip <| then_n <| x_seq <| x_block <| sr rfl ?_
  obtain ⟨lb11, _, vs10, hA7, hR9, hC8⟩ := hm.at (i := i) (x := x) (hx)
  obtain rfl : vs10 = mbC x := hR9
  refine Wp rfl <| st_indexAddr T.u174 T.size178 (congrArg (fun z => Value.slice z _ _) hA7) rfl (by omega) (by omega) <| Wp rfl <| st_loadA (vs := [_, _, _]) T.agg178 rfl hC8 rfl <| Wp rfl <| st_alloc T.zero178 ?_
  intro b12 w13 e14 c15 hb16
  have ge_b12 := gB e14 HC.size
  have ne_b2_b12 := nF e14 hb4.ne_size
  have nf_hm_b12 : ms = [] ∨ b12 ∉ ob (A) := hm.fresh (by rw [e14]; exact Nat.le_refl _)
  replace HC := HC.then c15
  replace hm := hm.tr0 c15
  replace hb4 := hb4.tr0 c15
  clear e14
  refine Wp rfl <| st_st (v := .agg ⟨[_, _, _]⟩) T.size178 rfl rfl rfl hb16 ?_
  intro w17 c18 hb19; simp only [setVs, setV] at hb19
  clear hb16
  replace HC := HC.then1 c18 ge_b12
  replace hm := hm.trF flat_flat c18 (by intro k hx; simp only [List.mem_singleton] at hx; subst hx; exact nf_hm_b12)
  replace hb4 := hb4.tr1 c18 ne_b2_b12
  refine en <| sr rfl <| Wp rfl <| st_loadA (vs := [_, _, _]) T.agg178 rfl (hb19.cells (n := 3) (vs := [_, _, _]) rfl) rfl <| mI rfl <| Wp rfl <| st_call (ags := [_, _]) rfl rfl T.ent163 rfl (ghas_spec x c _) ?_
  rintro _ w20 ⟨rfl, c21⟩
  replace HC := HC.then c21
  replace hm := hm.tr0 c21
  replace hb4 := hb4.tr0 c21
  refine en <| x_cond rfl (fun h1 => ?_) (fun h1 => ?_)
  ·try simp only [nm, ne_eq] at h1
   refine sr rfl <| fa T.fld176_1 rfl <| Wp rfl <| st_load1 (v := .bool _) T.one4 rfl (hb4.cell rfl) <| Wp rfl <| st_not rfl <| aB rfl <| en <| x_ret <| block_r <| then_r <| then_r <| block_r <| then_r <| ret_tmp (v := .bool _) rfl rfl <| ⟨congrArg Value.bool ?_, HC⟩
   rw [if_pos (any_has hx (by first | assumption | simpa using h1))]
  ·try simp only [nm, ne_eq] at h1
   refine x_skip <| block_n <| then_n <| x_region rfl <| Wp rfl <| st_addn rfl rfl (by constructor <;> omega) <| mI rfl <| en <| ⟨i + 1, ?_, ?_, rfl, ⟨rfl, trivial⟩, ?_⟩
   ·refine ⟨?_, HC, hm, hb4⟩
    exact ⟨by omega, fun j y hj hy => by
      by_cases e : j = i
      · subst e; rw [hx] at hy; cases hy; first | assumption | simpa using h1
      · exact hno j y (by omega) hy⟩
   ·show ms.length - (i + 1) < ms.length - i; omega
   exact q9
 ·try simp only [nm, ne_eq] at h0
  refine x_exit <| then_x <| then_x <| block_x <| then_n <| sr rfl <| fa T.fld176_1 rfl <| Wp rfl <| st_load1 (v := .bool _) T.one4 rfl (hb4.cell rfl) <| aB rfl <| en <| x_ret <| ret_tmp (v := .bool _) rfl rfl <| ⟨congrArg Value.bool ?_, HC⟩
  rw [if_neg (by rw [no_has hno (by omega)]; simp)]
theorem gstar_any (o : Bool) (w : World) : CallR Tryz.prog 88 #[.iface 157 (.agg ⟨[.bool o]⟩)] w fun v w' => v = .bool (!o) ∧ Chg [] w w' := by
 refine callR_of_wp (args := [_]) Tryz.func88 rfl (Nat.le_of_ble_eq_true rfl) ?_
 have HC : Chg [] w w := .refl _
 refine sr rfl <| aB rfl <| en <| x_seq <| sr rfl <| mv (v := .iface _ _) rfl <| en <| x_block <| sr rfl <| Wp rfl <| st_assert (v := .agg ⟨[.bool _]⟩) T.ux157 rfl rfl rfl <| Wp rfl <| st_extract (vs := [_, _]) (v := .bool _) rfl rfl <| Wp rfl <| st_extract (vs := [_, _]) (v := .agg ⟨[.bool _]⟩) rfl rfl <| en <| x_cond rfl (fun h0 => ?_) (fun h0 => ?_)
 ·try simp only [nm, ne_eq] at h0
  refine sr rfl <| Wp rfl <| st_alloc T.zero157 ?_
  intro b3 w1 e2 c3 hb4
  have ge_b3 := gB e2 HC.size
  replace HC := HC.then c3
  clear e2
  refine Wp rfl <| st_st (v := .agg ⟨[_]⟩) T.size157 rfl rfl rfl hb4 ?_
  intro w5 c6 hb7; simp only [setVs, setV] at hb7
  clear hb4
  replace HC := HC.then1 c6 ge_b3
  refine en <| sr rfl <| fa T.fld157_0 rfl <| Wp rfl <| st_load1 (v := .bool _) T.one4 rfl (hb7.cell rfl) <| Wp rfl <| st_not rfl <| aB rfl <| en <| x_ret <| block_r <| then_r <| ret_tmp (v := .bool _) rfl rfl ?_
  exact ⟨rfl, HC⟩
 ·try simp only [nm, ne_eq] at h0
  simp at h0
theorem gstar_no {t : TypeId} (v0 : Value) (ht : t ≠ 157) (w : World) : CallR Tryz.prog 88 #[.iface t v0] w fun v w' => v = .bool false ∧ Chg [] w w' := by
 refine callR_of_wp (args := [_]) Tryz.func88 rfl (Nat.le_of_ble_eq_true rfl) ?_
 have HC : Chg [] w w := .refl _
 refine sr rfl <| aB rfl <| en <| x_seq <| sr rfl <| mv (v := .iface _ _) rfl <| en <| x_block <| sr rfl <| Wp rfl <| st_assertN T.ux157 rfl T.zv157 rfl ht <| Wp rfl <| st_extract (vs := [_, _]) (v := .bool _) rfl rfl <| Wp rfl <| st_extract (vs := [_, _]) (v := .agg ⟨[.bool _]⟩) rfl rfl <| en <| x_cond rfl (fun h0 => ?_) (fun h0 => ?_)
 ·try simp only [nm, ne_eq] at h0
  simp at h0
 ·try simp only [nm, ne_eq] at h0
  refine x_skip <| block_n <| then_n <| sr rfl <| aB rfl <| en <| x_ret <| ret_tmp (v := .bool _) rfl rfl ?_
  exact ⟨rfl, HC⟩
theorem wn_form {w : World} {D : Nat → Prop} {x : Wn} {vs : List Value} (h : wnE.R w D x vs) : ∃ t v, vs = [.iface t v] := by
  cases x with
  | any o => exact ⟨_, _, h⟩
  | one c => exact ⟨_, _, h⟩
  | set ms t => obtain ⟨K, c, h, _⟩ := h; exact ⟨_, _, h⟩
theorem gstar_spec {w : World} {D : Nat → Prop} {x : Wn} {t : TypeId} {v0 : Value} (h : wnE.R w D x [.iface t v0]) : CallR Tryz.prog 88 #[.iface t v0] w fun v w' => v = .bool x.star ∧ Chg [] w w' := by
  cases x with
  | any o => cases (show [Value.iface t v0] = _ from h); exact gstar_any o w
  | one c => cases (show [Value.iface t v0] = _ from h); exact gstar_no _ (by decide) w
  | set ms t => obtain ⟨K, c, h, _⟩ := h; cases h; exact gstar_no _ (by decide) w
theorem want_eff {X : Value → World → Prop} {dst : Option Nat} {ty : TypeId} {pos : String} {af : Array Edge} {g : Option (Nat × Bool)} {E : Env} {w : World} {D : Nat → Prop} {x : Wn} {t : TypeId} {v0 : Value} {c : Call} {rv : Operand} {ch : UInt8} (h : wnE.R w D x [.iface t v0]) (hcal : c.callee = .invoke rv "windlass/patt.takes") (hx : ev E rv = .iface t v0) (has : c.args.toList.map (ev E) = [.int .u8 (ch.toNat : Int)]) :
    effP Tryz.prog X ⟨dst, .call c, ty, pos, af, g⟩ E w fun v w' => v = .bool (x.takes ch.toNat) ∧ Chg [] w w' := by
  cases x with
  | any o => cases (show [Value.iface t v0] = _ from h); exact .inr (.inr (.inl ⟨_, _, _, _, r_invoke hcal hx T.finds157_takes T.ent160 (congrArg _ has), gtk_any o ch w, fun v w' h => h⟩))
  | one d => cases (show [Value.iface t v0] = _ from h); exact .inr (.inr (.inl ⟨_, _, _, _, r_invoke hcal hx T.finds160_takes T.ent161 (congrArg _ has), gtk_one d ch w, fun v w' h => h⟩))
  | set ms b => obtain ⟨K, k, h, h2, h3, h4⟩ := h; cases h; exact .inr (.inr (.inl ⟨_, _, _, _, r_invoke hcal hx T.finds176_takes T.ent162 (congrArg _ has), gtk_set b ch h4 (Nat.le_trans h2 h3), fun v w' h => h⟩))
end Go.Proofs.YtncnalboiljgiaaGreat.K
