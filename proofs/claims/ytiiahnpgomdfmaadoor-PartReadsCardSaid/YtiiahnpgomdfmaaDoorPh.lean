/- Parse. -/
import Derived.Test.YtiiahnpgomdfmaaDoorPg
set_option linter.unusedVariables false
set_option linter.unusedSimpArgs false
set_option autoImplicit false
set_option maxRecDepth 20000
namespace Go.Proofs.YtiiahnpgomdfmaaDoor.K
open Go Go.Proofs Go.RowKit

def parsG (pq : Bytes → List Prt × Int) (m : Int) (s : Bytes) : List Prt × Int := if m < 0 ∨ 2 < m then ([], 22) else foldY [] (partsY pq m s.length s)
def ParsedT (w w' : World) (r : List Prt × Int) (v : Value) : Prop := ∃ A cap, v = .tuple ⟨[.slice A r.1.length cap, .int .i64 r.2]⟩ ∧ Sl prtE w' (fun k => w.heap.size ≤ k) A r.1 ∧ Chg [] w w'

theorem Parse_gen {L : List (Prt × Int)} (m : Int) (pq : Bytes → List Prt × Int) (s : Bytes) (w : World) (hs : s.length < 4294967281) (hL : partsY pq m s.length s = L) (ht : Tab w) (hPl : ∀ s', (pq s').1.length ≤ s'.length ∧ tl (pq s').1 ≤ s'.length)
    (hP : m = 0 → ∀ (s' : Bytes) (W : World), s'.length < s.length → Tab W → CallR Tryd.prog 9 #[S s', .int .i64 1] W fun v W' => ∃ A cap, v = .tuple ⟨[.slice A (pq s').1.length cap, .int .i64 (pq s').2]⟩ ∧ Sl prtE W' (fun k => W.heap.size ≤ k) A (pq s').1 ∧ Chg [] W W') :
    CallR Tryd.prog 9 #[S s, .int .i64 m] w fun v w' => ParsedT w w' (parsG pq m s) v := by
 refine callR_of_wpM (args := [_, _]) Tryd.func9 rfl (Nat.le_of_ble_eq_true rfl) ?_
 have HC : Chg [] w w := .refl _
 have hM : Marks w.heap.size [] w := trivial
 have ht1 := ht.lt
 refine sr rfl <| aL rfl <| aI rfl <| en <| x_scope <| x_seq <| sr rfl <| mI rfl <| Wp rfl <| st_lss rfl rfl <| mB rfl <| w_split (d := 13) rfl (fun g1 => ?_) (fun g1 => ?_)
 ·try simp only [nm, ne_eq] at g1
  refine w_no 2 13 false <| w_no 2 13 false <| pT rfl rfl <| en <| x_cond (t := true) rfl (fun h0 => ?_) (fun h0 => ?_)
  rotate_left
  · exact absurd h0 (by decide)
  refine sr rfl <| aL rfl <| aI rfl <| en <| x_ret <| then_r <| scope_r <| retM_marks hM ?_
  intro w99 c99
  have hlm := hM.lt
  replace HC := HC.trans c99 (fun k hk => .inr (by have := (hlm k hk).1; omega))
  refine ret_tmp2 (v := .slice _ _ _) (v2 := .int _ _) rfl rfl rfl ?_
  rw [show parsG pq m s = ([], 22) by rw [parsG, if_pos (by omega)]]
  exact ⟨none, 0, rfl, .nil, HC⟩
 ·try simp only [nm, ne_eq] at g1
  refine w_yes 2 13 false <| st_move (v := .int _ _) rfl <| w_yes 2 13 false <| st_gtr rfl rfl <| pF rfl rfl <| en <| x_cond rfl (fun h0 => ?_) (fun h0 => ?_)
  ·try simp only [nm, ne_eq] at h0
   refine sr rfl <| aL rfl <| aI rfl <| en <| x_ret <| then_r <| scope_r <| retM_marks hM ?_
   intro w99 c99
   have hlm := hM.lt
   replace HC := HC.trans c99 (fun k hk => .inr (by have := (hlm k hk).1; omega))
   refine ret_tmp2 (v := .slice _ _ _) (v2 := .int _ _) rfl rfl rfl ?_
   rw [show parsG pq m s = ([], 22) by rw [parsG, if_pos (by omega)]]
   exact ⟨none, 0, rfl, .nil, HC⟩
  ·try simp only [nm, ne_eq] at h0
   have hm2 : ¬ (m < 0 ∨ 2 < m) := by omega
   refine x_skip <| then_n <| sr rfl <| Wp rfl <| st_alloc T.zero23 ?_
   intro b6 w2 e3 c4 hb5
   have ge_b6 : w.heap.size ≤ b6 := by rw [e3]; exact HC.size
   have nm_b6 : b6 ∉ mb [] := fun hx => by have := (hM.lt _ hx).2; omega
   replace HC := HC.then c4
   replace ht := ht.tr0 c4
   replace hM := hM.tr c4 (by simp)
   clear e3
   refine en <| sr rfl <| Wp rfl <| st_alloc T.zero24 ?_
   intro b7 w6 e7 c8 hb9
   have ge_b7 : w.heap.size ≤ b7 := by rw [e7]; exact HC.size
   have ne_b6_b7 : Hid (b6 ≠ b7) := by rw [e7]; exact hb5.ne_size
   have nm_b7 : b7 ∉ mb [] := fun hx => by have := (hM.lt _ hx).2; omega
   replace HC := HC.then c8
   replace ht := ht.tr0 c8
   replace hM := hM.tr c8 (by simp)
   replace hb5 := hb5.tr0 c8
   clear e7
   refine Wp rfl <| st_store (v := .int _ _) T.size24 rfl rfl rfl hb9 rfl (Nat.le_of_ble_eq_true rfl) (by simp [Value.oneCell', S]) rfl ?_
   intro w10 c11 hb12; simp only [setVs, setV] at hb12
   clear hb9
   replace HC := HC.then1 c11 ge_b7
   replace ht := ht.tr c11 (by intro hx; have := ht.lt; have := ht1; simp only [List.mem_cons, List.mem_nil_iff, or_false] at hx; first | omega | (rcases hx with hx | hx <;> omega))
   replace hM := hM.tr c11 (by intro k hk hx; have hlo := (hM.lt k hk).1; simp only [List.mem_singleton] at hx; subst hx; first | exact nm_b7 hk | omega | (cases hk; done))
   replace hb5 := hb5.tr1 c11 ne_b6_b7
   refine en <| x_seq <| x_label <| then_n <| x_seq <| sr rfl <| mI rfl <| Wp rfl <| st_bld (ps := [(0, .tmp 17)]) (vs := [.int _ _]) T.bld46 rfl <| mS rfl <| Wp rfl <| st_call (ags := [_, _]) rfl rfl T.ent18 rfl (parts_spec m s _) ?_
   rintro _ w13 ⟨bw, br, rfl, hgw, hgr, hnbr, hq1, hq2, c14⟩
   have hbwl := hq1.lt
   have ge_bw : w.heap.size ≤ bw := Nat.le_trans HC.size hgw
   have ne_b6_bw : Hid (b6 ≠ bw) := Nat.ne_of_lt (Nat.lt_of_lt_of_le hb5.lt hgw)
   have ne_b7_bw : Hid (b7 ≠ bw) := Nat.ne_of_lt (Nat.lt_of_lt_of_le hb12.lt hgw)
   have nm_bw : bw ∉ mb [] := fun hx => by have := (hM.lt _ hx).2; omega
   have ge_br : w.heap.size ≤ br := Nat.le_trans HC.size hgr
   have ne_b6_br : Hid (b6 ≠ br) := Nat.ne_of_lt (Nat.lt_of_lt_of_le hb5.lt hgr)
   have ne_b7_br : Hid (b7 ≠ br) := Nat.ne_of_lt (Nat.lt_of_lt_of_le hb12.lt hgr)
   have nm_br : br ∉ mb [] := fun hx => by have := (hM.lt _ hx).2; omega
   replace HC := HC.then c14
   replace ht := ht.tr0 c14
   replace hM := hM.tr c14 (by simp)
   replace hb5 := hb5.tr0 c14
   replace hb12 := hb12.tr0 c14
   refine en <| x_block <| x_range3 (bs := [bw]) (K := (fun k => k = bw ∨ k = br ∨ k = 1)) (ps := [21, 22]) (encs := yP) (xs := L) rfl T.ent33 rfl (fun _ => rfl) (by intro x hx; rw [List.mem_singleton.1 hx]; exact hq1.lt) (by intro k hk; rcases hk with h | h | h <;> (rw [h]; first | exact hq1.lt | exact hq2.lt | exact ht.lt)) (parts_iter (pq := pq) (m := m) (K := fun k => k = bw ∨ k = br ∨ k = 1) (s := s) (L := L) hL hq1 hq2 hnbr ht (by have := ht1; omega) (.inl rfl) (.inr (.inl rfl)) (.inr (.inr rfl)) hs (fun s' => (hPl s').1) hP) ?_
   intro DD lp w15 hD1 hD2 hD3 hD4 hD5 c16
   have hszlp := HC.size
   have ge_DD : w.heap.size ≤ DD := by omega
   have ne_b6_DD : Hid (b6 ≠ DD) := by show _ ≠ _; have := hb5.lt; omega
   have ne_b7_DD : Hid (b7 ≠ DD) := by show _ ≠ _; have := hb12.lt; omega
   have ne_bw_DD : Hid (bw ≠ DD) := by show _ ≠ _; have := hq1.lt; omega
   have ne_br_DD : Hid (br ≠ DD) := by show _ ≠ _; have := hq2.lt; omega
   have nm_DD : DD ∉ mb [] := fun hx => by have := (hM.lt _ hx).2; omega
   have ge_lp : w.heap.size ≤ lp := by omega
   have ne_b6_lp : Hid (b6 ≠ lp) := by show _ ≠ _; have := hb5.lt; omega
   have ne_b7_lp : Hid (b7 ≠ lp) := by show _ ≠ _; have := hb12.lt; omega
   have ne_bw_lp : Hid (bw ≠ lp) := by show _ ≠ _; have := hq1.lt; omega
   have ne_br_lp : Hid (br ≠ lp) := by show _ ≠ _; have := hq2.lt; omega
   have nm_lp : lp ∉ mb [] := fun hx => by have := (hM.lt _ hx).2; omega
   replace HC := HC.then c16
   replace ht := ht.tr0 c16
   replace hM := hM.tr c16 (by simp)
   replace hb5 := hb5.tr0 c16
   replace hb12 := hb12.tr0 c16
   replace hq1 := hq1.tr0 c16
   replace hbwl := Nat.lt_of_lt_of_le hbwl c16.size
   replace hq2 := hq2.tr0 c16
   refine ⟨fun M pre W => ∃ (A : Option Addr), ∃ (cap : Nat), ((∀ u, u ∈ pre → u.2 = 0) ∧ ¬ M b6 ∧ ¬ M b7 ∧ ¬ M lp) ∧ (Chg [] w W) ∧ (Tab W) ∧ (Marks w.heap.size [] W) ∧ (bw < W.heap.size) ∧ (Blk W br [.int .i64 m] 46) ∧ (DD < W.heap.size) ∧ (lp < W.heap.size) ∧ (Own prtE 33 W (fun k => w.heap.size ≤ k ∧ k ≠ b6 ∧ k ≠ b7 ∧ k ≠ bw ∧ k ≠ br ∧ k ≠ 1 ∧ k ≠ lp ∧ k ≠ DD ∧ ¬ M k) A cap (foldL (pre))) ∧ (Blk W b6 [.slice A (foldL (pre)).length cap] 23) ∧ (Blk W b7 [.int .i64 0] 24) ∧ (∀ k, M k → k < W.heap.size), fun c pre W => (c = Code.exit 0 ∧ ∃ (zz : Prt × Int), (foldY [] L = ([], zz.2)) ∧ (Chg [] w W) ∧ (Tab W) ∧ (Marks w.heap.size [] W) ∧ (bw < W.heap.size) ∧ (Blk W br [.int .i64 m] 46) ∧ (DD < W.heap.size) ∧ (lp < W.heap.size) ∧ (Blk W b6 [.slice none 0 0] 23) ∧ (Blk W b7 [.int .i64 zz.2] 24)), ⟨none, 0, ⟨(fun _ h => by cases h), id, id, id⟩, HC, ht, hM, hbwl, hq2, hD4, hD5, Own.nil, hb5, hb12, (fun _ h => h.elim)⟩, ?_, ?_, ?_, ?_, ?_, ?_⟩
   ·rintro M M' pre Wa Wb ⟨A, cap, ⟨hz, nM_b6, nM_b7, nM_lp⟩, HC, ht, hM, hbwl, hq2, hD4, hD5, ho, hq6, hq7, hMl⟩ cL hMm
    have lta_b6 := hq6.lt
    have lta_b7 := hq7.lt
    have lta_lp := hD5
    replace ho := ho.mono (D' := (fun k => w.heap.size ≤ k ∧ k ≠ b6 ∧ k ≠ b7 ∧ k ≠ bw ∧ k ≠ br ∧ k ≠ 1 ∧ k ≠ lp ∧ k ≠ DD ∧ ¬ M' k)) (fun k hk hD => ⟨hD.1, hD.2.1, hD.2.2.1, hD.2.2.2.1, hD.2.2.2.2.1, hD.2.2.2.2.2.1, hD.2.2.2.2.2.2.1, hD.2.2.2.2.2.2.2.1, fun h => (hMm k h).elim hD.2.2.2.2.2.2.2.2 (fun h => absurd hk (Nat.not_lt.2 h.1))⟩)
    replace HC := HC.trans cL (by intro x hx; simp only [List.mem_cons, List.mem_nil_iff, or_false] at hx; rcases hx with h1 | h1 <;> first | (left; simp [h1]; done) | (right; rw [h1]; omega))
    replace ht := ht.tr cL (by intro hx; have := ht.lt; have := ht1; simp only [List.mem_cons, List.mem_nil_iff, or_false] at hx; first | omega | (rcases hx with hx | hx <;> omega))
    replace hM := hM.tr cL (by intro k hk hx; have hlo := (hM.lt k hk).1; simp only [List.mem_cons, List.mem_nil_iff, or_false] at hx; rcases hx with hx | hx <;> subst hx <;> first | (first | exact nm_lp hk | omega | (cases hk; done)) | (first | exact nm_bw hk | omega | (cases hk; done)))
    replace hbwl := Nat.lt_of_lt_of_le hbwl cL.size
    replace hq2 := hq2.tr cL (by simp only [List.mem_cons, List.mem_nil_iff, or_false, not_or]; exact ⟨ne_br_lp, (by omega)⟩)
    replace hD4 := Nat.lt_of_lt_of_le hD4 cL.size
    replace hD5 := Nat.lt_of_lt_of_le hD5 cL.size
    replace ho := ho.trF flat_flat cL (by intro k hk hx; simp only [List.mem_cons, List.mem_nil_iff, or_false] at hx; rcases hx with hx | hx <;> first | (obtain rfl := hx; first | exact na_lp hk | exact absurd (ho.inD _ hk) (by simp)) | (obtain rfl := hx; first | exact na_bw hk | exact absurd (ho.inD _ hk) (by simp)))
    replace hq6 := hq6.tr cL (by simp only [List.mem_cons, List.mem_nil_iff, or_false, not_or]; exact ⟨ne_b6_lp, ne_b6_bw⟩)
    replace hq7 := hq7.tr cL (by simp only [List.mem_cons, List.mem_nil_iff, or_false, not_or]; exact ⟨ne_b7_lp, ne_b7_bw⟩)
    replace hMl := (fun k h => Nat.lt_of_lt_of_le (hMl k h) cL.size)
    replace hMl := (fun k h => (hMm k h).elim (hMl k) (fun h => h.2))
    replace nM_b6 : ¬ M' b6 := fun h => (hMm _ h).elim nM_b6 (fun h => by omega)
    replace nM_b7 : ¬ M' b7 := fun h => (hMm _ h).elim nM_b7 (fun h => by omega)
    replace nM_lp : ¬ M' lp := fun h => (hMm _ h).elim nM_lp (fun h => by omega)
    exact ⟨A, cap, ⟨hz, nM_b6, nM_b7, nM_lp⟩, HC, ht, hM, hbwl, hq2, hD4, hD5, ho, hq6, hq7, hMl⟩
   ·rintro M pre Wa ⟨A, cap, ⟨hz, nM_b6, nM_b7, nM_lp⟩, HC, ht, hM, hbwl, hq2, hD4, hD5, ho, hq6, hq7, hMl⟩ hMx
    exact nM_lp hMx
   ·intro c pre Wa Wb hX cL
    obtain ⟨rfl, ⟨zz, hU, HC, ht, hM, hbwl, hq2, hD4, hD5, hq6, hq7⟩⟩ := hX
    replace HC := HC.trans cL (by intro x hx; simp only [List.mem_cons, List.mem_nil_iff, or_false] at hx; rcases hx with h1 | h1 <;> first | (left; simp [h1]; done) | (right; rw [h1]; omega))
    replace ht := ht.tr cL (by intro hx; have := ht.lt; have := ht1; simp only [List.mem_cons, List.mem_nil_iff, or_false] at hx; first | omega | (rcases hx with hx | hx <;> omega))
    replace hM := hM.tr cL (by intro k hk hx; have hlo := (hM.lt k hk).1; simp only [List.mem_cons, List.mem_nil_iff, or_false] at hx; rcases hx with hx | hx <;> subst hx <;> first | (first | exact nm_lp hk | omega | (cases hk; done)) | (first | exact nm_bw hk | omega | (cases hk; done)))
    replace hbwl := Nat.lt_of_lt_of_le hbwl cL.size
    replace hq2 := hq2.tr cL (by simp only [List.mem_cons, List.mem_nil_iff, or_false, not_or]; exact ⟨ne_br_lp, (by omega)⟩)
    replace hD4 := Nat.lt_of_lt_of_le hD4 cL.size
    replace hD5 := Nat.lt_of_lt_of_le hD5 cL.size
    replace hq6 := hq6.tr cL (by simp only [List.mem_cons, List.mem_nil_iff, or_false, not_or]; exact ⟨ne_b6_lp, ne_b6_bw⟩)
    replace hq7 := hq7.tr cL (by simp only [List.mem_cons, List.mem_nil_iff, or_false, not_or]; exact ⟨ne_b7_lp, ne_b7_bw⟩)
    exact ⟨rfl, ⟨zz, hU, HC, ht, hM, hbwl, hq2, hD4, hD5, hq6, hq7⟩⟩
   ·rintro M pre y rest Wa hxs ⟨A, cap, ⟨hz, nM_b6, nM_b7, nM_lp⟩, HC, ht, hM, hbwl, hq2, hD4, hD5, ho, hq6, hq7, hMl⟩ ⟨rec, hrec⟩
    have lt0_br := hq2.lt
    have lo0_ho := ho.lt
    have li0_ho := ho.inD
    have lt0_b6 := hq6.lt
    have lt0_b7 := hq7.lt
    have HK : Kept (fun k => k = lp ∨ k = DD ∨ ((fun k => k = bw ∨ k = br ∨ k = 1) k ∨ M k)) Wa Wa := .refl'
    have hlpW := hD5
    have hLs := partsY_sum (m := m) hPl s.length s
    rw [hL] at hLs
    have hpl := (foldL_tl pre).2
    have hp2 : pre.length < s.length + 1 ∧ tlY pre + y.1.text.length ≤ s.length := by have h8 := hLs.1; have h9 := hLs.2.1; rw [hxs] at h8 h9; rw [tlY_app] at h8; simp only [tlY, List.length_append, List.length_cons] at h8 h9; omega
    refine sr rfl <| Wp rfl <| st_alloc T.zero33 ?_
    intro b8 w17 e18 c19 hb20
    have ge_b8 : w.heap.size ≤ b8 := by rw [e18]; exact HC.size
    have geK_b8 : Wa.heap.size ≤ b8 := by rw [e18]; exact HK.1
    have ne_br_b8 : Hid (br ≠ b8) := by rw [e18]; exact hq2.ne_size
    have ne_b6_b8 : Hid (b6 ≠ b8) := by rw [e18]; exact hq6.ne_size
    have ne_b7_b8 : Hid (b7 ≠ b8) := by rw [e18]; exact hq7.ne_size
    have nm_b8 : b8 ∉ mb [] := fun hx => by have := (hM.lt _ hx).2; omega
    have na_b8 : b8 ∉ ob A := ho.fresh (by rw [e18]; exact Nat.le_refl _)
    replace HC := HC.then c19
    replace ht := ht.tr0 c19
    replace hM := hM.tr c19 (by simp)
    replace hbwl := Nat.lt_of_lt_of_le hbwl c19.size
    replace hq2 := hq2.tr0 c19
    replace hD4 := Nat.lt_of_lt_of_le hD4 c19.size
    replace hD5 := Nat.lt_of_lt_of_le hD5 c19.size
    replace ho := ho.tr0 c19
    replace hq6 := hq6.tr0 c19
    replace hq7 := hq7.tr0 c19
    replace hMl := (fun k h => Nat.lt_of_lt_of_le (hMl k h) c19.size)
    replace HK := HK.chg c19 (fun k hx => absurd hx (by simp))
    clear e18
    refine Wp rfl <| st_store (v := .agg ⟨[.int _ _, S _, S _, S _, S _, .bool _]⟩) T.size33 rfl rfl rfl hb20 rfl (Nat.le_of_ble_eq_true rfl) (by simp [Value.oneCell', S]) rfl ?_
    intro w21 c22 hb23; simp only [setVs, setV] at hb23
    clear hb20
    replace HC := HC.then1 c22 ge_b8
    replace ht := ht.tr c22 (by intro hx; have := ht.lt; have := ht1; simp only [List.mem_cons, List.mem_nil_iff, or_false] at hx; first | omega | (rcases hx with hx | hx <;> omega))
    replace hM := hM.tr c22 (by intro k hk hx; have hlo := (hM.lt k hk).1; simp only [List.mem_singleton] at hx; subst hx; first | exact nm_b8 hk | omega | (cases hk; done))
    replace hbwl := Nat.lt_of_lt_of_le hbwl c22.size
    replace hq2 := hq2.tr1 c22 ne_br_b8
    replace hD4 := Nat.lt_of_lt_of_le hD4 c22.size
    replace hD5 := Nat.lt_of_lt_of_le hD5 c22.size
    replace ho := ho.trF flat_flat c22 (by intro k hk hx; simp only [List.mem_cons, List.mem_nil_iff, or_false] at hx; obtain rfl := hx; first | exact na_b8 hk | exact absurd (ho.inD _ hk) (by simp))
    replace hq6 := hq6.tr1 c22 ne_b6_b8
    replace hq7 := hq7.tr1 c22 ne_b7_b8
    replace hMl := (fun k h => Nat.lt_of_lt_of_le (hMl k h) c22.size)
    replace HK := HK.chg c22 (by intro k hx hK; rw [List.mem_singleton.1 hx]; exact geK_b8)
    refine en <| x_region rfl <| aI rfl <| en <| ⟨HK, ?_⟩
    intro ds1 Wc cL hrec2
    replace HC := HC.then1 cL ge_lp
    replace ht := ht.tr cL (by intro hx; have := ht.lt; have := ht1; simp only [List.mem_cons, List.mem_nil_iff, or_false] at hx; first | omega | (rcases hx with hx | hx <;> omega))
    replace hM := hM.tr cL (by intro k hk hx; have hlo := (hM.lt k hk).1; simp only [List.mem_singleton] at hx; subst hx; first | exact nm_lp hk | omega | (cases hk; done))
    replace hbwl := Nat.lt_of_lt_of_le hbwl cL.size
    replace hq2 := hq2.tr1 cL ne_br_lp
    replace hD4 := Nat.lt_of_lt_of_le hD4 cL.size
    replace hD5 := Nat.lt_of_lt_of_le hD5 cL.size
    replace ho := ho.trF flat_flat cL (by intro k hk hx; simp only [List.mem_cons, List.mem_nil_iff, or_false] at hx; obtain rfl := hx; first | exact na_lp hk | exact absurd (ho.inD _ hk) (by simp))
    replace hq6 := hq6.tr1 cL ne_b6_lp
    replace hq7 := hq7.tr1 cL ne_b7_lp
    replace hMl := (fun k h => Nat.lt_of_lt_of_le (hMl k h) cL.size)
    replace hb23 := hb23.tr1 cL (by omega)
    have HK : Kept (fun k => k = lp ∨ k = DD ∨ ((fun k => k = bw ∨ k = br ∨ k = 1) k ∨ M k)) Wc Wc := .refl'
    refine x_block <| x_seq <| sr rfl <| mI rfl <| Wp rfl <| st_neq rfl rfl <| en <| x_cond rfl (fun h1 => ?_) (fun h1 => ?_)
    ·try simp only [nm, ne_eq] at h1
     have he1 : y.2 ≠ 0 := by assumption
     refine sr rfl <| mI rfl <| Wp rfl <| st_store (v := .int _ _) T.size24 rfl rfl rfl hq7 rfl (Nat.le_of_ble_eq_true rfl) (by simp [Value.oneCell', S]) rfl ?_
     intro w24 c25 hb26; simp only [setVs, setV] at hb26
     clear hq7
     replace HC := HC.then1 c25 ge_b7
     replace ht := ht.tr c25 (by intro hx; have := ht.lt; have := ht1; simp only [List.mem_cons, List.mem_nil_iff, or_false] at hx; first | omega | (rcases hx with hx | hx <;> omega))
     replace hM := hM.tr c25 (by intro k hk hx; have hlo := (hM.lt k hk).1; simp only [List.mem_singleton] at hx; subst hx; first | exact nm_b7 hk | omega | (cases hk; done))
     replace hbwl := Nat.lt_of_lt_of_le hbwl c25.size
     replace hq2 := hq2.tr1 c25 (Ne.symm ne_b7_br)
     replace hD4 := Nat.lt_of_lt_of_le hD4 c25.size
     replace hD5 := Nat.lt_of_lt_of_le hD5 c25.size
     replace ho := ho.trF flat_flat c25 (by intro k hk hx; simp only [List.mem_cons, List.mem_nil_iff, or_false] at hx; obtain rfl := hx; first | exact na_b7 hk | exact absurd (ho.inD _ hk) (by simp))
     replace hq6 := hq6.tr1 c25 ne_b6_b7
     replace hMl := (fun k h => Nat.lt_of_lt_of_le (hMl k h) c25.size)
     replace hb23 := hb23.tr1 c25 (Ne.symm ne_b7_b8)
     replace HK := HK.chg c25 (by
      intro k hx hK
      obtain rfl := List.mem_singleton.1 hx
      rcases hK with h | h | (h | h | h) | h
      · exact absurd h ne_b7_lp
      · exact absurd h ne_b7_DD
      · exact absurd h ne_b7_bw
      · exact absurd h ne_b7_br
      · exact absurd (Nat.lt_of_lt_of_le ht1 ge_b7) (by rw [h]; exact Nat.lt_irrefl _)
      · exact absurd h nM_b7)
     refine Wp rfl <| st_store (v := .slice _ _ _) T.size23 rfl rfl rfl hq6 rfl (Nat.le_of_ble_eq_true rfl) (by simp [Value.oneCell', S]) rfl ?_
     intro w27 c28 hb29; simp only [setVs, setV] at hb29
     clear hq6
     replace HC := HC.then1 c28 ge_b6
     replace ht := ht.tr c28 (by intro hx; have := ht.lt; have := ht1; simp only [List.mem_cons, List.mem_nil_iff, or_false] at hx; first | omega | (rcases hx with hx | hx <;> omega))
     replace hM := hM.tr c28 (by intro k hk hx; have hlo := (hM.lt k hk).1; simp only [List.mem_singleton] at hx; subst hx; first | exact nm_b6 hk | omega | (cases hk; done))
     replace hbwl := Nat.lt_of_lt_of_le hbwl c28.size
     replace hq2 := hq2.tr1 c28 (Ne.symm ne_b6_br)
     replace hD4 := Nat.lt_of_lt_of_le hD4 c28.size
     replace hD5 := Nat.lt_of_lt_of_le hD5 c28.size
     replace ho := ho.trF flat_flat c28 (by intro k hk hx; simp only [List.mem_cons, List.mem_nil_iff, or_false] at hx; obtain rfl := hx; first | exact na_b6 hk | exact absurd (ho.inD _ hk) (by simp))
     replace hMl := (fun k h => Nat.lt_of_lt_of_le (hMl k h) c28.size)
     replace hb23 := hb23.tr1 c28 (Ne.symm ne_b6_b8)
     replace HK := HK.chg c28 (by
      intro k hx hK
      obtain rfl := List.mem_singleton.1 hx
      rcases hK with h | h | (h | h | h) | h
      · exact absurd h ne_b6_lp
      · exact absurd h ne_b6_DD
      · exact absurd h ne_b6_bw
      · exact absurd h ne_b6_br
      · exact absurd (Nat.lt_of_lt_of_le ht1 ge_b6) (by rw [h]; exact Nat.lt_irrefl _)
      · exact absurd h nM_b6)
     replace hb26 := hb26.tr1 c28 (Ne.symm ne_b6_b7)
     refine en <| x_exit <| then_x <| block_o rfl <| ⟨HK, ?_⟩
     exact ⟨rfl, ⟨y, (by rw [hxs]; exact foldY_err hz he1), HC, ht, hM, hbwl, hq2, hD4, hD5, hb29, hb26⟩⟩
    ·try simp only [nm, ne_eq] at h1
     have he0 : y.2 = 0 := by first | assumption | simpa using h1
     refine x_skip <| then_n <| x_seq <| x_seq ?_
     rcases List.eq_nil_or_concat (foldL pre) with hln | ⟨l0, z, hlz⟩
     ·have hsub : IntKind.i64.wrap (((foldL pre).length : Int) - 1) = (-1 : Int) := by rw [hln]; rfl
      refine x_region rfl <| lL T.one23 rfl (hq6.cell rfl) <| Wp rfl <| st_len (ct := #[23]) (by rw [show ((#[23] : Array TypeId)[0]?).bind Tryd.prog.underlying = some (.slice 33) from T.u23]; rfl) rfl <| Wp rfl <| st_subk rfl rfl (by exact hsub) <| aI rfl <| en <| x_seq <| x_draw [(0, 0), (1, 0), (2, 0), (3, 0), (4, 0), (5, 0), (6, 0), (7, 0), (8, 0), (9, 0), (10, 0), (11, 0), (12, 0), (13, 0), (14, 0), (15, 0), (16, 0), (17, 0), (18, 0), (19, 0), (20, 0), (21, 0), (22, 0), (23, 0), (24, 0)] T.mixed rfl rfl rfl (fun W => W.heap[br]? = Wc.heap[br]? ∧ W.heap[b6]? = Wc.heap[b6]? ∧ W.heap[b7]? = Wc.heap[b7]? ∧ W.heap[b8]? = Wc.heap[b8]? ∧ True) ⟨rfl, rfl, rfl, rfl, trivial⟩ ?_
      have o32 := hq2
      have o33 := hq6
      have o34 := hq7
      have o35 := hb23
      have c31 := Chg.drew Wc
      generalize World.drew Wc = w30 at c31 ⊢
      replace HC := HC.then c31
      replace ht := ht.tr0 c31
      replace hM := hM.tr c31 (by simp)
      replace hbwl := Nat.lt_of_lt_of_le hbwl c31.size
      replace hq2 := hq2.tr0 c31
      replace hD4 := Nat.lt_of_lt_of_le hD4 c31.size
      replace hD5 := Nat.lt_of_lt_of_le hD5 c31.size
      replace ho := ho.tr0 c31
      replace hq6 := hq6.tr0 c31
      replace hq7 := hq7.tr0 c31
      replace hMl := (fun k h => Nat.lt_of_lt_of_le (hMl k h) c31.size)
      replace hb23 := hb23.tr0 c31
      replace HK := HK.chg c31 (fun k hx => absurd hx (by simp))
      refine sq_q rfl (fun W hT => r_move (v := .int _ _) rfl) <| sq_q rfl (fun W hT => r_geq rfl rfl) <| sq_q rfl (fun W hT => r_move (v := .bool _) rfl) <| sq_split (d := 31) rfl (fun g36 => ?_) (fun g36 => ?_)
      ·try simp only [nm, ne_eq] at g36
       exfalso; omega
      ·try simp only [nm, ne_eq] at g36
       refine sq_no rfl rfl <| sq_no rfl rfl <| sq_no rfl rfl <| sq_q rfl (fun W hT => r_pick (b := false) (v := .bool _) rfl rfl) <| sq_q rfl (fun W hT => r_move (v := .bool _) rfl) <| sq_no rfl rfl <| sq_no rfl rfl <| sq_no rfl rfl <| sq_no rfl rfl <| sq_no rfl rfl <| sq_no rfl rfl <| sq_q rfl (fun W hT => r_pick (b := false) (v := .bool _) rfl rfl) <| sq_q rfl (fun W hT => r_move (v := .bool _) rfl) <| sq_no rfl rfl <| sq_no rfl rfl <| sq_no rfl rfl <| sq_no rfl rfl <| sq_no rfl rfl <| sq_no rfl rfl <| sq_no rfl rfl <| sq_no rfl rfl <| sq_q rfl (fun W hT => r_pick (b := false) (v := .bool _) rfl rfl) ?_
       clear o32
       clear o33
       clear o34
       clear o35
       refine sq_nil <| then_n <| x_cond (t := false) rfl (fun h2 => ?_) (fun h2 => ?_)
       · exact absurd h2 (by decide)
       have hadd : addP (foldL pre) y.1 = foldL pre ++ [y.1] := addP_new (by rw [hln]; first | (intro z9 hz9; cases hz9; done) | (intro z9 hz9; rw [List.getLast?_append] at hz9; cases hz9; rintro ⟨h7, h8, h9⟩; simp_all))
       refine x_skip <| then_n <| x_region rfl <| lL T.one23 rfl (hq6.cell rfl) <| Wp rfl <| st_loadA (vs := [_, _, _, _, _, _]) T.agg33 rfl (hb23.cells (n := 6) (vs := [_, _, _, _, _, _]) rfl) rfl <| Wp rfl <| st_lit (ps := [(0, .tmp 65)]) (vs := [.int _ _, S _, S _, S _, S _, .bool _]) T.lit23 (by decide) rfl (by simp only [List.forall_mem_cons, List.not_mem_nil, false_imp_iff, implies_true, and_true]; exact rfl) rfl ?_
       intro b37 w38 e39 c40 hb41
       have ge_b37 : w.heap.size ≤ b37 := by rw [e39]; exact HC.size
       have geK_b37 : Wc.heap.size ≤ b37 := by rw [e39]; exact HK.1
       have ne_br_b37 : Hid (br ≠ b37) := by rw [e39]; exact hq2.ne_size
       have ne_b6_b37 : Hid (b6 ≠ b37) := by rw [e39]; exact hq6.ne_size
       have ne_b7_b37 : Hid (b7 ≠ b37) := by rw [e39]; exact hq7.ne_size
       have ne_b8_b37 : Hid (b8 ≠ b37) := by rw [e39]; exact hb23.ne_size
       have nm_b37 : b37 ∉ mb [] := fun hx => by have := (hM.lt _ hx).2; omega
       have na_b37 : b37 ∉ ob A := ho.fresh (by rw [e39]; exact Nat.le_refl _)
       replace HC := HC.then c40
       replace ht := ht.tr0 c40
       replace hM := hM.tr c40 (by simp)
       replace hbwl := Nat.lt_of_lt_of_le hbwl c40.size
       replace hq2 := hq2.tr0 c40
       replace hD4 := Nat.lt_of_lt_of_le hD4 c40.size
       replace hD5 := Nat.lt_of_lt_of_le hD5 c40.size
       replace ho := ho.tr0 c40
       replace hq6 := hq6.tr0 c40
       replace hq7 := hq7.tr0 c40
       replace hMl := (fun k h => Nat.lt_of_lt_of_le (hMl k h) c40.size)
       replace hb23 := hb23.tr0 c40
       replace HK := HK.chg c40 (fun k hx => absurd hx (by simp))
       clear e39
       have hszA := HC.size
       refine Wp rfl <| st_append2 (c := prtE) (D2 := fun _ => False) (xs := (foldL (pre))) (ys := [y.1]) T.slice23 rfl rfl ho rfl rfl (one_elem rfl (hb41.cells (n := 6) rfl)) (fun _ _ h => h.elim) (fun k hk => (have h9 := HK.1; have hk9 := hk; ⟨by have := HC.size; omega, by have := hq6.lt; omega, by have := hq7.lt; omega, by have := hbwl; omega, by have := hq2.lt; omega, by have := ht.lt; omega, by have := hD5; omega, by have := hD4; omega, fun h => by have := hMl _ h; omega⟩)) (by simp only [List.length_append, List.length_cons, List.length_nil]; omega) (by simp only [List.length_append, List.length_cons, List.length_nil]; omega) ?_
       intro A42 cap43 w44 ho45 c46 hg47
       replace HC := HC.trans c46 (fun k hk => .inr ((ho.inD k hk).1))
       replace ht := ht.tr c46 (fun hx => by first | (have h1 := (ho.inD _ hx).1; omega) | (have h1 : w.heap.size ≤ 1 := ho.inD _ hx; omega))
       replace hM := hM.tr c46 (fun k hk => by cases hk)
       replace hbwl := Nat.lt_of_lt_of_le hbwl c46.size
       replace hq2 := hq2.tr c46 (fun hx => by first | (have h1 := ho.inD _ hx; omega) | exact na_br hx | exact hav _ hx (by simp))
       replace hD4 := Nat.lt_of_lt_of_le hD4 c46.size
       replace hD5 := Nat.lt_of_lt_of_le hD5 c46.size
       replace hq6 := hq6.tr c46 (fun hx => by first | (have h1 := ho.inD _ hx; omega) | exact na_b6 hx | exact hav _ hx (by simp))
       replace hq7 := hq7.tr c46 (fun hx => by first | (have h1 := ho.inD _ hx; omega) | exact na_b7 hx | exact hav _ hx (by simp))
       replace hMl := (fun k h => Nat.lt_of_lt_of_le (hMl k h) c46.size)
       replace hb23 := hb23.tr c46 (fun hx => by first | (have h1 := ho.inD _ hx; omega) | exact na_b8 hx | exact hav _ hx (by simp))
       replace HK := HK.chg c46 (by intro k hk hK; have h1 := ho.inD k hk; have h2 := lo0_ho k hk; rcases hK with h | h | ((h | h | h) | h) <;> first | omega | exact (h1.2.2.2.2.2.2.2.2 h).elim)
       replace hb41 := hb41.tr c46 (fun hx => by first | (have h1 := ho.inD _ hx; omega) | exact na_b37 hx | exact hav _ hx (by simp))
       refine Wp rfl <| st_store (v := .slice _ _ _) T.size23 rfl rfl rfl hq6 rfl (Nat.le_of_ble_eq_true rfl) (by simp [Value.oneCell', S]) rfl ?_
       intro w48 c49 hb50; simp only [setVs, setV] at hb50
       clear hq6
       replace HC := HC.then1 c49 ge_b6
       replace ht := ht.tr c49 (by intro hx; have := ht.lt; have := ht1; simp only [List.mem_cons, List.mem_nil_iff, or_false] at hx; first | omega | (rcases hx with hx | hx <;> omega))
       replace hM := hM.tr c49 (by intro k hk hx; have hlo := (hM.lt k hk).1; simp only [List.mem_singleton] at hx; subst hx; first | exact nm_b6 hk | omega | (cases hk; done))
       replace hbwl := Nat.lt_of_lt_of_le hbwl c49.size
       replace hq2 := hq2.tr1 c49 (Ne.symm ne_b6_br)
       replace hD4 := Nat.lt_of_lt_of_le hD4 c49.size
       replace hD5 := Nat.lt_of_lt_of_le hD5 c49.size
       replace ho45 := ho45.trF flat_flat c49 (by intro k hk hx; simp only [List.mem_cons, List.mem_nil_iff, or_false] at hx; obtain rfl := hx; first | exact na_b6 hk | exact absurd (ho45.inD _ hk) (by simp))
       replace hq7 := hq7.tr1 c49 (Ne.symm ne_b6_b7)
       replace hMl := (fun k h => Nat.lt_of_lt_of_le (hMl k h) c49.size)
       replace hb23 := hb23.tr1 c49 (Ne.symm ne_b6_b8)
       replace HK := HK.chg c49 (by
        intro k hx hK
        obtain rfl := List.mem_singleton.1 hx
        rcases hK with h | h | (h | h | h) | h
        · exact absurd h ne_b6_lp
        · exact absurd h ne_b6_DD
        · exact absurd h ne_b6_bw
        · exact absurd h ne_b6_br
        · exact absurd (Nat.lt_of_lt_of_le ht1 ge_b6) (by rw [h]; exact Nat.lt_irrefl _)
        · exact absurd h nM_b6)
       replace hb41 := hb41.tr1 c49 (Ne.symm ne_b6_b37)
       refine wops_nil <| block_n <| ⟨HK, ?_⟩
       have hall : ∀ u, u ∈ pre ++ [y] → u.2 = 0 := fun u hu => (List.mem_append.1 hu).elim (hz u) (fun h => by rw [List.mem_singleton.1 h]; exact he0)
       have hmq : foldL (pre ++ [y]) = addP (foldL pre) y.1 := foldL_snoc pre y
       rw [hadd] at hmq
       rw [← hmq] at hb50 ho45
       exact ⟨A42, cap43, ⟨hall, nM_b6, nM_b7, nM_lp⟩, HC, ht, hM, hbwl, hq2, hD4, hD5, ho45, hb50, hq7, hMl⟩
     ·rw [List.concat_eq_append] at hlz
      have hll : (foldL pre).length = l0.length + 1 := by rw [hlz]; simp
      have hsub : IntKind.i64.wrap (((foldL pre).length : Int) - 1) = ((l0.length : Nat) : Int) := by rw [wrap64_id (by omega) (by omega)]; omega
      have hslo := ho.sl
      refine x_region rfl <| lL T.one23 rfl (hq6.cell rfl) <| Wp rfl <| st_len (ct := #[23]) (by rw [show ((#[23] : Array TypeId)[0]?).bind Tryd.prog.underlying = some (.slice 33) from T.u23]; rfl) rfl <| Wp rfl <| st_subk rfl rfl (by exact hsub) <| aI rfl <| en <| x_seq ?_
      obtain ⟨lb55, _, vs54, hA51, hR53, hC52⟩ := hslo.at (i := l0.length) (x := z) (by rw [hlz]; simp)
      obtain rfl : vs54 = [.int .i64 z.kind, S z.text, S z.name, S z.op, S z.word, .bool z.quoted] := hR53
      obtain ⟨lb60, _, vs59, hA56, hR58, hC57⟩ := hslo.at (i := l0.length) (x := z) (by rw [hlz]; simp)
      obtain rfl : vs59 = [.int .i64 z.kind, S z.text, S z.name, S z.op, S z.word, .bool z.quoted] := hR58
      refine x_draw [(0, 0), (1, 0), (2, 0), (3, 0), (4, 0), (5, 0), (6, 0), (7, 0), (8, 0), (9, 0), (10, 0), (11, 0), (12, 0), (13, 0), (14, 0), (15, 0), (16, 0), (17, 0), (18, 0), (19, 0), (20, 0), (21, 0), (22, 0), (23, 0), (24, 0)] T.mixed rfl rfl rfl (fun W => W.heap[br]? = Wc.heap[br]? ∧ W.heap[b6]? = Wc.heap[b6]? ∧ W.heap[b7]? = Wc.heap[b7]? ∧ W.heap[b8]? = Wc.heap[b8]? ∧ W.heap[lb55]? = Wc.heap[lb55]? ∧ W.heap[lb60]? = Wc.heap[lb60]? ∧ True) ⟨rfl, rfl, rfl, rfl, rfl, rfl, trivial⟩ ?_
      have o63 := hq2
      have o64 := hq6
      have o65 := hq7
      have o66 := hb23
      have c62 := Chg.drew Wc
      generalize World.drew Wc = w61 at c62 ⊢
      have ht_lb55 : lb55 < w61.heap.size ∧ w61.heap[lb55]? = Wc.heap[lb55]? := ⟨Nat.lt_of_lt_of_le hC52.lt c62.size, c62.block lb55 hC52.lt (by simp)⟩
      have ht_lb60 : lb60 < w61.heap.size ∧ w61.heap[lb60]? = Wc.heap[lb60]? := ⟨Nat.lt_of_lt_of_le hC57.lt c62.size, c62.block lb60 hC57.lt (by simp)⟩
      replace HC := HC.then c62
      replace ht := ht.tr0 c62
      replace hM := hM.tr c62 (by simp)
      replace hbwl := Nat.lt_of_lt_of_le hbwl c62.size
      replace hq2 := hq2.tr0 c62
      replace hD4 := Nat.lt_of_lt_of_le hD4 c62.size
      replace hD5 := Nat.lt_of_lt_of_le hD5 c62.size
      replace ho := ho.tr0 c62
      replace hq6 := hq6.tr0 c62
      replace hq7 := hq7.tr0 c62
      replace hMl := (fun k h => Nat.lt_of_lt_of_le (hMl k h) c62.size)
      replace hb23 := hb23.tr0 c62
      replace HK := HK.chg c62 (fun k hx => absurd hx (by simp))
      replace hslo := hslo.tr0 c62
      refine sq_q rfl (fun W hT => r_move (v := .int _ _) rfl) <| sq_q rfl (fun W hT => r_geq rfl rfl) <| sq_q rfl (fun W hT => r_move (v := .bool _) rfl) <| sq_split (d := 31) rfl (fun g67 => ?_) (fun g67 => ?_)
      ·try simp only [nm, ne_eq] at g67
       refine sq_q rfl (fun W hT => r_fieldAddr T.fld33_0 rfl) <| sq_q rfl (fun W hT => r_load1 (v := .int _ _) T.one3 rfl (Blk.cell (show Blk W b8 _ _ from hT.2.2.2.1.trans o66) rfl)) <| sq_q rfl (fun W hT => r_eql rfl rfl) <| sq_q rfl (fun W hT => r_pick (b := true) (v := .bool _) rfl rfl) <| sq_q rfl (fun W hT => r_move (v := .bool _) rfl) <| sq_split (d := 36) rfl (fun g68 => ?_) (fun g68 => ?_)
       ·try simp only [nm, ne_eq] at g68
        refine sq_q rfl (fun W hT => r_load1 (v := .slice _ _ _) T.one23 rfl (Blk.cell (show Blk W b6 _ _ from hT.2.1.trans o64) rfl)) <| sq_q rfl (fun W hT => r_move (v := .int _ _) rfl) <| sq_q rfl (fun W hT => r_indexAddr T.u23 T.size33 (congrArg (fun z => Value.slice z _ _) hA51) rfl (by omega) (by omega)) <| sq_q rfl (fun W hT => r_fieldAddr T.fld33_0 rfl) <| sq_q rfl (fun W hT => r_load1 (v := .int _ _) T.one3 rfl (Cells.at (j := 0) (Cells.tr hC52 hT.2.2.2.2.1) rfl)) <| sq_q rfl (fun W hT => r_eql rfl rfl) <| sq_q rfl (fun W hT => r_pick (b := true) (v := .bool _) rfl rfl) <| sq_q rfl (fun W hT => r_move (v := .bool _) rfl) <| sq_split (d := 44) rfl (fun g69 => ?_) (fun g69 => ?_)
        ·try simp only [nm, ne_eq] at g69
         refine sq_q rfl (fun W hT => r_load1 (v := .slice _ _ _) T.one23 rfl (Blk.cell (show Blk W b6 _ _ from hT.2.1.trans o64) rfl)) <| sq_q rfl (fun W hT => r_move (v := .int _ _) rfl) <| sq_q rfl (fun W hT => r_indexAddr T.u23 T.size33 (congrArg (fun z => Value.slice z _ _) hA56) rfl (by omega) (by omega)) <| sq_q rfl (fun W hT => r_fieldAddr T.fld33_5 rfl) <| sq_q rfl (fun W hT => r_load1 (v := .bool _) T.one4 rfl (Cells.at (j := 5) (Cells.tr hC57 hT.2.2.2.2.2.1) rfl)) <| sq_q rfl (fun W hT => r_fieldAddr T.fld33_5 rfl) <| sq_q rfl (fun W hT => r_load1 (v := .bool _) T.one4 rfl (Blk.cell (show Blk W b8 _ _ from hT.2.2.2.1.trans o66) rfl)) <| sq_q rfl (fun W hT => r_beql T.u4 rfl rfl) <| sq_q rfl (fun W hT => r_pick (b := true) (v := .bool _) rfl rfl) ?_
         clear o63
         clear o64
         clear o65
         clear o66
         refine sq_nil <| then_n <| x_cond rfl (fun h2 => ?_) (fun h2 => ?_)
         ·try simp only [nm, ne_eq] at h2
          obtain ⟨a1, rfl⟩ : ∃ a, A = some a := by cases A with | none => (rcases ho.form with h | ⟨_, h, _⟩ <;> first | (cases h; done) | (rw [h.2.2] at hll; simp at hll; done)) | some a => exact ⟨a, rfl⟩
          have hoin := ho.inD
          obtain ⟨ga, rest9, hge, hA, hln0, hle9, hcap9, hDg⟩ := ho.raw
          cases hge
          have hln9 : (flatC prtC (foldL pre) ++ rest9).length = cap * 6 := hln0
          replace hA : Blk w61 ga (flatC prtC (foldL pre) ++ rest9) 33 := hA
          obtain ⟨hg0, hg1, hg2, hg3, hg4, hg5, hg6, hg7, hg8⟩ := hDg
          have hga0 : w.heap.size ≤ ga := hg0
          have hgaZ : ga ≠ 1 := hg5
          have hgaK : ¬ (ga = lp ∨ ga = DD ∨ ((ga = bw ∨ ga = br ∨ ga = 1) ∨ M ga)) := by rintro (h | h | (h | h | h) | h); exact hg6 h; exact hg7 h; exact hg3 h; exact hg4 h; exact hg5 h; exact hg8 h
          have nga_b6 : ga ≠ b6 := hg1
          have nga_b7 : ga ≠ b7 := hg2
          have nga_b8 : ga ≠ b8 := fun e => na_b8 (by simp [ob, e])
          have nga_bw := hg3
          have nga_br := hg4
          have hmrg := addP_snoc (l0 := l0) (z := z) (p := y.1) ⟨by first | assumption | simp_all, by first | assumption | simp_all, by first | assumption | simp_all⟩
          have htl := (foldL_tl pre).1
          rw [hlz, tl_app] at htl
          replace htl : tl l0 + (z.text.length + 0) = tlY pre := htl
          refine x_seq ?_
          obtain ⟨lb74, _, vs73, hA70, hR72, hC71⟩ := hslo.at (i := l0.length) (x := z) (by rw [hlz]; simp)
          obtain rfl : vs73 = [.int .i64 z.kind, S z.text, S z.name, S z.op, S z.word, .bool z.quoted] := hR72
          refine x_draw [(0, 0), (1, 0), (2, 0), (3, 0), (4, 0), (5, 0), (6, 0), (7, 0), (8, 0), (9, 0), (10, 2)] T.mixed rfl rfl rfl (fun W => W.heap[br]? = w61.heap[br]? ∧ W.heap[b6]? = w61.heap[b6]? ∧ W.heap[b7]? = w61.heap[b7]? ∧ W.heap[b8]? = w61.heap[b8]? ∧ W.heap[ga]? = w61.heap[ga]? ∧ W.heap[lb74]? = w61.heap[lb74]? ∧ True) ⟨rfl, rfl, rfl, rfl, rfl, rfl, trivial⟩ ?_
          have o77 := hq2
          have o78 := hq6
          have o79 := hq7
          have o80 := hb23
          have o81 := hA
          have c76 := Chg.drew w61
          generalize World.drew w61 = w75 at c76 ⊢
          have ht_lb74 : lb74 < w75.heap.size ∧ w75.heap[lb74]? = w61.heap[lb74]? := ⟨Nat.lt_of_lt_of_le hC71.lt c76.size, c76.block lb74 hC71.lt (by simp)⟩
          replace HC := HC.then c76
          replace ht := ht.tr0 c76
          replace hM := hM.tr c76 (by simp)
          replace hbwl := Nat.lt_of_lt_of_le hbwl c76.size
          replace hq2 := hq2.tr0 c76
          replace hD4 := Nat.lt_of_lt_of_le hD4 c76.size
          replace hD5 := Nat.lt_of_lt_of_le hD5 c76.size
          replace hq6 := hq6.tr0 c76
          replace hq7 := hq7.tr0 c76
          replace hMl := (fun k h => Nat.lt_of_lt_of_le (hMl k h) c76.size)
          replace hb23 := hb23.tr0 c76
          replace HK := HK.chg c76 (fun k hx => absurd hx (by simp))
          replace hslo := hslo.tr0 c76
          replace hA := hA.tr0 c76
          refine sq_q rfl (fun W hT => r_load1 (v := .slice _ _ _) T.one23 rfl (Blk.cell (show Blk W b6 _ _ from hT.2.1.trans o78) rfl)) <| sq_q rfl (fun W hT => r_move (v := .int _ _) rfl) <| sq_q rfl (fun W hT => r_indexAddr T.u23 T.size33 (congrArg (fun z => Value.slice z _ _) hA70) rfl (by omega) (by omega)) <| sq_q rfl (fun W hT => r_fieldAddr T.fld33_1 rfl) <| sq_q rfl (fun W hT => r_load1 (v := S _) T.one9 rfl (Cells.at (j := 1) (Cells.tr hC71 hT.2.2.2.2.2.1) rfl)) <| sq_q rfl (fun W hT => r_fieldAddr T.fld33_1 rfl) <| sq_q rfl (fun W hT => r_load1 (v := S _) T.one9 rfl (Blk.cell (show Blk W b8 _ _ from hT.2.2.2.1.trans o80) rfl)) <| sq_q rfl (fun W hT => r_sadd rfl rfl (by (try simp only [List.length_append, List.length_cons, List.length_nil] at *); omega)) <| sq_q rfl (fun W hT => r_indexAddr (b := ga) (o := 0) (i := (l0.length : Int)) T.u23 T.size33 rfl rfl (by omega) (by omega)) <| sq_q rfl (fun W hT => r_fieldAddr T.fld33_1 rfl) <| sq_store2 rfl T.size9 (v := S _) rfl rfl rfl hA rfl (by show 0 + l0.length * 6 + 1 + 1 ≤ (flatC prtC (foldL pre) ++ rest9).length; rw [hln9]; omega) (by simp [Value.oneCell', S]) rfl ?_
          intro w82 c83 hb84
          replace hb84 : Blk w82 ga (flatC prtC (l0 ++ [{ z with text := z.text ++ y.1.text }]) ++ rest9) 33 := by rw [← set_text, ← hlz]; exact hb84
          clear hA
          replace HC := HC.then1 c83 hga0
          replace ht := ht.tr c83 (fun hx => hgaZ (List.mem_singleton.1 hx).symm)
          replace hM := hM.tr c83 (fun k hk => by cases hk)
          replace hbwl := Nat.lt_of_lt_of_le hbwl c83.size
          replace hq2 := hq2.tr1 c83 (fun e => nga_br e.symm)
          replace hD4 := Nat.lt_of_lt_of_le hD4 c83.size
          replace hD5 := Nat.lt_of_lt_of_le hD5 c83.size
          replace hq6 := hq6.tr1 c83 (fun e => nga_b6 e.symm)
          replace hq7 := hq7.tr1 c83 (fun e => nga_b7 e.symm)
          replace hMl := (fun k h => Nat.lt_of_lt_of_le (hMl k h) c83.size)
          replace hb23 := hb23.tr1 c83 (fun e => nga_b8 e.symm)
          replace HK := HK.chg c83 (by intro k hk hK; rw [List.mem_singleton.1 hk] at hK; exact absurd hK hgaK)
          -- ht_lb74
          clear o77
          clear o78
          clear o79
          clear o80
          clear o81
          refine sq_nil <| then_n <| x_exit <| then_x <| block_x <| ⟨HK, ?_⟩
          have hall : ∀ u, u ∈ pre ++ [y] → u.2 = 0 := fun u hu => (List.mem_append.1 hu).elim (hz u) (fun h => by rw [List.mem_singleton.1 h]; exact he0)
          have hmq : foldL (pre ++ [y]) = addP (foldL pre) y.1 := foldL_snoc pre y
          rw [hlz, hmrg] at hmq
          have hoZ : Own prtE 33 w82 (fun k => w.heap.size ≤ k ∧ k ≠ b6 ∧ k ≠ b7 ∧ k ≠ bw ∧ k ≠ br ∧ k ≠ 1 ∧ k ≠ lp ∧ k ≠ DD ∧ ¬ M k) (some ⟨ga, 0, none⟩) cap (foldL (pre ++ [y])) := by rw [hmq]; exact Own.of_raw hb84 (by rw [← hln9, hlz]; simp only [List.length_append, flatC_len (sz := 6) (f := prtC) (fun _ => rfl), List.length_cons, List.length_nil]) (by simp only [List.length_append, List.length_cons, List.length_nil]; omega) hcap9 ⟨hg0, hg1, hg2, hg3, hg4, hg5, hg6, hg7, hg8⟩
          have hlq : (foldL (pre ++ [y])).length = (foldL pre).length := by rw [hmq, hll]; simp
          rw [← hlq] at hq6
          exact ⟨some ⟨ga, 0, none⟩, cap, ⟨hall, nM_b6, nM_b7, nM_lp⟩, HC, ht, hM, hbwl, hq2, hD4, hD5, hoZ, hq6, hq7, hMl⟩
         ·try simp only [nm, ne_eq] at h2
          have hadd : addP (foldL pre) y.1 = foldL pre ++ [y.1] := addP_new (by rw [hlz]; first | (intro z9 hz9; cases hz9; done) | (intro z9 hz9; rw [List.getLast?_append] at hz9; cases hz9; rintro ⟨h7, h8, h9⟩; simp_all))
          refine x_skip <| then_n <| x_region rfl <| lL T.one23 rfl (hq6.cell rfl) <| Wp rfl <| st_loadA (vs := [_, _, _, _, _, _]) T.agg33 rfl (hb23.cells (n := 6) (vs := [_, _, _, _, _, _]) rfl) rfl <| Wp rfl <| st_lit (ps := [(0, .tmp 65)]) (vs := [.int _ _, S _, S _, S _, S _, .bool _]) T.lit23 (by decide) rfl (by simp only [List.forall_mem_cons, List.not_mem_nil, false_imp_iff, implies_true, and_true]; exact rfl) rfl ?_
          intro b85 w86 e87 c88 hb89
          have ge_b85 : w.heap.size ≤ b85 := by rw [e87]; exact HC.size
          have geK_b85 : Wc.heap.size ≤ b85 := by rw [e87]; exact HK.1
          have ne_br_b85 : Hid (br ≠ b85) := by rw [e87]; exact hq2.ne_size
          have ne_b6_b85 : Hid (b6 ≠ b85) := by rw [e87]; exact hq6.ne_size
          have ne_b7_b85 : Hid (b7 ≠ b85) := by rw [e87]; exact hq7.ne_size
          have ne_b8_b85 : Hid (b8 ≠ b85) := by rw [e87]; exact hb23.ne_size
          have nm_b85 : b85 ∉ mb [] := fun hx => by have := (hM.lt _ hx).2; omega
          have na_b85 : b85 ∉ ob A := ho.fresh (by rw [e87]; exact Nat.le_refl _)
          replace HC := HC.then c88
          replace ht := ht.tr0 c88
          replace hM := hM.tr c88 (by simp)
          replace hbwl := Nat.lt_of_lt_of_le hbwl c88.size
          replace hq2 := hq2.tr0 c88
          replace hD4 := Nat.lt_of_lt_of_le hD4 c88.size
          replace hD5 := Nat.lt_of_lt_of_le hD5 c88.size
          replace ho := ho.tr0 c88
          replace hq6 := hq6.tr0 c88
          replace hq7 := hq7.tr0 c88
          replace hMl := (fun k h => Nat.lt_of_lt_of_le (hMl k h) c88.size)
          replace hb23 := hb23.tr0 c88
          replace HK := HK.chg c88 (fun k hx => absurd hx (by simp))
          clear e87
          have hszA := HC.size
          refine Wp rfl <| st_append2 (c := prtE) (D2 := fun _ => False) (xs := (foldL (pre))) (ys := [y.1]) T.slice23 rfl rfl ho rfl rfl (one_elem rfl (hb89.cells (n := 6) rfl)) (fun _ _ h => h.elim) (fun k hk => (have h9 := HK.1; have hk9 := hk; ⟨by have := HC.size; omega, by have := hq6.lt; omega, by have := hq7.lt; omega, by have := hbwl; omega, by have := hq2.lt; omega, by have := ht.lt; omega, by have := hD5; omega, by have := hD4; omega, fun h => by have := hMl _ h; omega⟩)) (by simp only [List.length_append, List.length_cons, List.length_nil]; omega) (by simp only [List.length_append, List.length_cons, List.length_nil]; omega) ?_
          intro A90 cap91 w92 ho93 c94 hg95
          replace HC := HC.trans c94 (fun k hk => .inr ((ho.inD k hk).1))
          replace ht := ht.tr c94 (fun hx => by first | (have h1 := (ho.inD _ hx).1; omega) | (have h1 : w.heap.size ≤ 1 := ho.inD _ hx; omega))
          replace hM := hM.tr c94 (fun k hk => by cases hk)
          replace hbwl := Nat.lt_of_lt_of_le hbwl c94.size
          replace hq2 := hq2.tr c94 (fun hx => by first | (have h1 := ho.inD _ hx; omega) | exact na_br hx | exact hav _ hx (by simp))
          replace hD4 := Nat.lt_of_lt_of_le hD4 c94.size
          replace hD5 := Nat.lt_of_lt_of_le hD5 c94.size
          replace hq6 := hq6.tr c94 (fun hx => by first | (have h1 := ho.inD _ hx; omega) | exact na_b6 hx | exact hav _ hx (by simp))
          replace hq7 := hq7.tr c94 (fun hx => by first | (have h1 := ho.inD _ hx; omega) | exact na_b7 hx | exact hav _ hx (by simp))
          replace hMl := (fun k h => Nat.lt_of_lt_of_le (hMl k h) c94.size)
          replace hb23 := hb23.tr c94 (fun hx => by first | (have h1 := ho.inD _ hx; omega) | exact na_b8 hx | exact hav _ hx (by simp))
          replace HK := HK.chg c94 (by intro k hk hK; have h1 := ho.inD k hk; have h2 := lo0_ho k hk; rcases hK with h | h | ((h | h | h) | h) <;> first | omega | exact (h1.2.2.2.2.2.2.2.2 h).elim)
          replace hb89 := hb89.tr c94 (fun hx => by first | (have h1 := ho.inD _ hx; omega) | exact na_b85 hx | exact hav _ hx (by simp))
          refine Wp rfl <| st_store (v := .slice _ _ _) T.size23 rfl rfl rfl hq6 rfl (Nat.le_of_ble_eq_true rfl) (by simp [Value.oneCell', S]) rfl ?_
          intro w96 c97 hb98; simp only [setVs, setV] at hb98
          clear hq6
          replace HC := HC.then1 c97 ge_b6
          replace ht := ht.tr c97 (by intro hx; have := ht.lt; have := ht1; simp only [List.mem_cons, List.mem_nil_iff, or_false] at hx; first | omega | (rcases hx with hx | hx <;> omega))
          replace hM := hM.tr c97 (by intro k hk hx; have hlo := (hM.lt k hk).1; simp only [List.mem_singleton] at hx; subst hx; first | exact nm_b6 hk | omega | (cases hk; done))
          replace hbwl := Nat.lt_of_lt_of_le hbwl c97.size
          replace hq2 := hq2.tr1 c97 (Ne.symm ne_b6_br)
          replace hD4 := Nat.lt_of_lt_of_le hD4 c97.size
          replace hD5 := Nat.lt_of_lt_of_le hD5 c97.size
          replace ho93 := ho93.trF flat_flat c97 (by intro k hk hx; simp only [List.mem_cons, List.mem_nil_iff, or_false] at hx; obtain rfl := hx; first | exact na_b6 hk | exact absurd (ho93.inD _ hk) (by simp))
          replace hq7 := hq7.tr1 c97 (Ne.symm ne_b6_b7)
          replace hMl := (fun k h => Nat.lt_of_lt_of_le (hMl k h) c97.size)
          replace hb23 := hb23.tr1 c97 (Ne.symm ne_b6_b8)
          replace HK := HK.chg c97 (by
           intro k hx hK
           obtain rfl := List.mem_singleton.1 hx
           rcases hK with h | h | (h | h | h) | h
           · exact absurd h ne_b6_lp
           · exact absurd h ne_b6_DD
           · exact absurd h ne_b6_bw
           · exact absurd h ne_b6_br
           · exact absurd (Nat.lt_of_lt_of_le ht1 ge_b6) (by rw [h]; exact Nat.lt_irrefl _)
           · exact absurd h nM_b6)
          replace hb89 := hb89.tr1 c97 (Ne.symm ne_b6_b85)
          refine wops_nil <| block_n <| ⟨HK, ?_⟩
          have hall : ∀ u, u ∈ pre ++ [y] → u.2 = 0 := fun u hu => (List.mem_append.1 hu).elim (hz u) (fun h => by rw [List.mem_singleton.1 h]; exact he0)
          have hmq : foldL (pre ++ [y]) = addP (foldL pre) y.1 := foldL_snoc pre y
          rw [hadd] at hmq
          rw [← hmq] at hb98 ho93
          exact ⟨A90, cap91, ⟨hall, nM_b6, nM_b7, nM_lp⟩, HC, ht, hM, hbwl, hq2, hD4, hD5, ho93, hb98, hq7, hMl⟩
        ·try simp only [nm, ne_eq] at g69
         refine sq_no rfl rfl <| sq_no rfl rfl <| sq_no rfl rfl <| sq_no rfl rfl <| sq_no rfl rfl <| sq_no rfl rfl <| sq_no rfl rfl <| sq_no rfl rfl <| sq_q rfl (fun W hT => r_pick (b := false) (v := .bool _) rfl rfl) ?_
         clear o63
         clear o64
         clear o65
         clear o66
         refine sq_nil <| then_n <| x_cond (t := false) rfl (fun h2 => ?_) (fun h2 => ?_)
         · exact absurd h2 (by decide)
         have hadd : addP (foldL pre) y.1 = foldL pre ++ [y.1] := addP_new (by rw [hlz]; first | (intro z9 hz9; cases hz9; done) | (intro z9 hz9; rw [List.getLast?_append] at hz9; cases hz9; rintro ⟨h7, h8, h9⟩; simp_all))
         refine x_skip <| then_n <| x_region rfl <| lL T.one23 rfl (hq6.cell rfl) <| Wp rfl <| st_loadA (vs := [_, _, _, _, _, _]) T.agg33 rfl (hb23.cells (n := 6) (vs := [_, _, _, _, _, _]) rfl) rfl <| Wp rfl <| st_lit (ps := [(0, .tmp 65)]) (vs := [.int _ _, S _, S _, S _, S _, .bool _]) T.lit23 (by decide) rfl (by simp only [List.forall_mem_cons, List.not_mem_nil, false_imp_iff, implies_true, and_true]; exact rfl) rfl ?_
         intro b99 w100 e101 c102 hb103
         have ge_b99 : w.heap.size ≤ b99 := by rw [e101]; exact HC.size
         have geK_b99 : Wc.heap.size ≤ b99 := by rw [e101]; exact HK.1
         have ne_br_b99 : Hid (br ≠ b99) := by rw [e101]; exact hq2.ne_size
         have ne_b6_b99 : Hid (b6 ≠ b99) := by rw [e101]; exact hq6.ne_size
         have ne_b7_b99 : Hid (b7 ≠ b99) := by rw [e101]; exact hq7.ne_size
         have ne_b8_b99 : Hid (b8 ≠ b99) := by rw [e101]; exact hb23.ne_size
         have nm_b99 : b99 ∉ mb [] := fun hx => by have := (hM.lt _ hx).2; omega
         have na_b99 : b99 ∉ ob A := ho.fresh (by rw [e101]; exact Nat.le_refl _)
         replace HC := HC.then c102
         replace ht := ht.tr0 c102
         replace hM := hM.tr c102 (by simp)
         replace hbwl := Nat.lt_of_lt_of_le hbwl c102.size
         replace hq2 := hq2.tr0 c102
         replace hD4 := Nat.lt_of_lt_of_le hD4 c102.size
         replace hD5 := Nat.lt_of_lt_of_le hD5 c102.size
         replace ho := ho.tr0 c102
         replace hq6 := hq6.tr0 c102
         replace hq7 := hq7.tr0 c102
         replace hMl := (fun k h => Nat.lt_of_lt_of_le (hMl k h) c102.size)
         replace hb23 := hb23.tr0 c102
         replace HK := HK.chg c102 (fun k hx => absurd hx (by simp))
         clear e101
         have hszA := HC.size
         refine Wp rfl <| st_append2 (c := prtE) (D2 := fun _ => False) (xs := (foldL (pre))) (ys := [y.1]) T.slice23 rfl rfl ho rfl rfl (one_elem rfl (hb103.cells (n := 6) rfl)) (fun _ _ h => h.elim) (fun k hk => (have h9 := HK.1; have hk9 := hk; ⟨by have := HC.size; omega, by have := hq6.lt; omega, by have := hq7.lt; omega, by have := hbwl; omega, by have := hq2.lt; omega, by have := ht.lt; omega, by have := hD5; omega, by have := hD4; omega, fun h => by have := hMl _ h; omega⟩)) (by simp only [List.length_append, List.length_cons, List.length_nil]; omega) (by simp only [List.length_append, List.length_cons, List.length_nil]; omega) ?_
         intro A104 cap105 w106 ho107 c108 hg109
         replace HC := HC.trans c108 (fun k hk => .inr ((ho.inD k hk).1))
         replace ht := ht.tr c108 (fun hx => by first | (have h1 := (ho.inD _ hx).1; omega) | (have h1 : w.heap.size ≤ 1 := ho.inD _ hx; omega))
         replace hM := hM.tr c108 (fun k hk => by cases hk)
         replace hbwl := Nat.lt_of_lt_of_le hbwl c108.size
         replace hq2 := hq2.tr c108 (fun hx => by first | (have h1 := ho.inD _ hx; omega) | exact na_br hx | exact hav _ hx (by simp))
         replace hD4 := Nat.lt_of_lt_of_le hD4 c108.size
         replace hD5 := Nat.lt_of_lt_of_le hD5 c108.size
         replace hq6 := hq6.tr c108 (fun hx => by first | (have h1 := ho.inD _ hx; omega) | exact na_b6 hx | exact hav _ hx (by simp))
         replace hq7 := hq7.tr c108 (fun hx => by first | (have h1 := ho.inD _ hx; omega) | exact na_b7 hx | exact hav _ hx (by simp))
         replace hMl := (fun k h => Nat.lt_of_lt_of_le (hMl k h) c108.size)
         replace hb23 := hb23.tr c108 (fun hx => by first | (have h1 := ho.inD _ hx; omega) | exact na_b8 hx | exact hav _ hx (by simp))
         replace HK := HK.chg c108 (by intro k hk hK; have h1 := ho.inD k hk; have h2 := lo0_ho k hk; rcases hK with h | h | ((h | h | h) | h) <;> first | omega | exact (h1.2.2.2.2.2.2.2.2 h).elim)
         replace hb103 := hb103.tr c108 (fun hx => by first | (have h1 := ho.inD _ hx; omega) | exact na_b99 hx | exact hav _ hx (by simp))
         refine Wp rfl <| st_store (v := .slice _ _ _) T.size23 rfl rfl rfl hq6 rfl (Nat.le_of_ble_eq_true rfl) (by simp [Value.oneCell', S]) rfl ?_
         intro w110 c111 hb112; simp only [setVs, setV] at hb112
         clear hq6
         replace HC := HC.then1 c111 ge_b6
         replace ht := ht.tr c111 (by intro hx; have := ht.lt; have := ht1; simp only [List.mem_cons, List.mem_nil_iff, or_false] at hx; first | omega | (rcases hx with hx | hx <;> omega))
         replace hM := hM.tr c111 (by intro k hk hx; have hlo := (hM.lt k hk).1; simp only [List.mem_singleton] at hx; subst hx; first | exact nm_b6 hk | omega | (cases hk; done))
         replace hbwl := Nat.lt_of_lt_of_le hbwl c111.size
         replace hq2 := hq2.tr1 c111 (Ne.symm ne_b6_br)
         replace hD4 := Nat.lt_of_lt_of_le hD4 c111.size
         replace hD5 := Nat.lt_of_lt_of_le hD5 c111.size
         replace ho107 := ho107.trF flat_flat c111 (by intro k hk hx; simp only [List.mem_cons, List.mem_nil_iff, or_false] at hx; obtain rfl := hx; first | exact na_b6 hk | exact absurd (ho107.inD _ hk) (by simp))
         replace hq7 := hq7.tr1 c111 (Ne.symm ne_b6_b7)
         replace hMl := (fun k h => Nat.lt_of_lt_of_le (hMl k h) c111.size)
         replace hb23 := hb23.tr1 c111 (Ne.symm ne_b6_b8)
         replace HK := HK.chg c111 (by
          intro k hx hK
          obtain rfl := List.mem_singleton.1 hx
          rcases hK with h | h | (h | h | h) | h
          · exact absurd h ne_b6_lp
          · exact absurd h ne_b6_DD
          · exact absurd h ne_b6_bw
          · exact absurd h ne_b6_br
          · exact absurd (Nat.lt_of_lt_of_le ht1 ge_b6) (by rw [h]; exact Nat.lt_irrefl _)
          · exact absurd h nM_b6)
         replace hb103 := hb103.tr1 c111 (Ne.symm ne_b6_b99)
         refine wops_nil <| block_n <| ⟨HK, ?_⟩
         have hall : ∀ u, u ∈ pre ++ [y] → u.2 = 0 := fun u hu => (List.mem_append.1 hu).elim (hz u) (fun h => by rw [List.mem_singleton.1 h]; exact he0)
         have hmq : foldL (pre ++ [y]) = addP (foldL pre) y.1 := foldL_snoc pre y
         rw [hadd] at hmq
         rw [← hmq] at hb112 ho107
         exact ⟨A104, cap105, ⟨hall, nM_b6, nM_b7, nM_lp⟩, HC, ht, hM, hbwl, hq2, hD4, hD5, ho107, hb112, hq7, hMl⟩
       ·try simp only [nm, ne_eq] at g68
        refine sq_no rfl rfl <| sq_no rfl rfl <| sq_no rfl rfl <| sq_no rfl rfl <| sq_no rfl rfl <| sq_no rfl rfl <| sq_q rfl (fun W hT => r_pick (b := false) (v := .bool _) rfl rfl) <| sq_q rfl (fun W hT => r_move (v := .bool _) rfl) <| sq_no rfl rfl <| sq_no rfl rfl <| sq_no rfl rfl <| sq_no rfl rfl <| sq_no rfl rfl <| sq_no rfl rfl <| sq_no rfl rfl <| sq_no rfl rfl <| sq_q rfl (fun W hT => r_pick (b := false) (v := .bool _) rfl rfl) ?_
        clear o63
        clear o64
        clear o65
        clear o66
        refine sq_nil <| then_n <| x_cond (t := false) rfl (fun h2 => ?_) (fun h2 => ?_)
        · exact absurd h2 (by decide)
        have hadd : addP (foldL pre) y.1 = foldL pre ++ [y.1] := addP_new (by rw [hlz]; first | (intro z9 hz9; cases hz9; done) | (intro z9 hz9; rw [List.getLast?_append] at hz9; cases hz9; rintro ⟨h7, h8, h9⟩; simp_all))
        refine x_skip <| then_n <| x_region rfl <| lL T.one23 rfl (hq6.cell rfl) <| Wp rfl <| st_loadA (vs := [_, _, _, _, _, _]) T.agg33 rfl (hb23.cells (n := 6) (vs := [_, _, _, _, _, _]) rfl) rfl <| Wp rfl <| st_lit (ps := [(0, .tmp 65)]) (vs := [.int _ _, S _, S _, S _, S _, .bool _]) T.lit23 (by decide) rfl (by simp only [List.forall_mem_cons, List.not_mem_nil, false_imp_iff, implies_true, and_true]; exact rfl) rfl ?_
        intro b113 w114 e115 c116 hb117
        have ge_b113 : w.heap.size ≤ b113 := by rw [e115]; exact HC.size
        have geK_b113 : Wc.heap.size ≤ b113 := by rw [e115]; exact HK.1
        have ne_br_b113 : Hid (br ≠ b113) := by rw [e115]; exact hq2.ne_size
        have ne_b6_b113 : Hid (b6 ≠ b113) := by rw [e115]; exact hq6.ne_size
        have ne_b7_b113 : Hid (b7 ≠ b113) := by rw [e115]; exact hq7.ne_size
        have ne_b8_b113 : Hid (b8 ≠ b113) := by rw [e115]; exact hb23.ne_size
        have nm_b113 : b113 ∉ mb [] := fun hx => by have := (hM.lt _ hx).2; omega
        have na_b113 : b113 ∉ ob A := ho.fresh (by rw [e115]; exact Nat.le_refl _)
        replace HC := HC.then c116
        replace ht := ht.tr0 c116
        replace hM := hM.tr c116 (by simp)
        replace hbwl := Nat.lt_of_lt_of_le hbwl c116.size
        replace hq2 := hq2.tr0 c116
        replace hD4 := Nat.lt_of_lt_of_le hD4 c116.size
        replace hD5 := Nat.lt_of_lt_of_le hD5 c116.size
        replace ho := ho.tr0 c116
        replace hq6 := hq6.tr0 c116
        replace hq7 := hq7.tr0 c116
        replace hMl := (fun k h => Nat.lt_of_lt_of_le (hMl k h) c116.size)
        replace hb23 := hb23.tr0 c116
        replace HK := HK.chg c116 (fun k hx => absurd hx (by simp))
        clear e115
        have hszA := HC.size
        refine Wp rfl <| st_append2 (c := prtE) (D2 := fun _ => False) (xs := (foldL (pre))) (ys := [y.1]) T.slice23 rfl rfl ho rfl rfl (one_elem rfl (hb117.cells (n := 6) rfl)) (fun _ _ h => h.elim) (fun k hk => (have h9 := HK.1; have hk9 := hk; ⟨by have := HC.size; omega, by have := hq6.lt; omega, by have := hq7.lt; omega, by have := hbwl; omega, by have := hq2.lt; omega, by have := ht.lt; omega, by have := hD5; omega, by have := hD4; omega, fun h => by have := hMl _ h; omega⟩)) (by simp only [List.length_append, List.length_cons, List.length_nil]; omega) (by simp only [List.length_append, List.length_cons, List.length_nil]; omega) ?_
        intro A118 cap119 w120 ho121 c122 hg123
        replace HC := HC.trans c122 (fun k hk => .inr ((ho.inD k hk).1))
        replace ht := ht.tr c122 (fun hx => by first | (have h1 := (ho.inD _ hx).1; omega) | (have h1 : w.heap.size ≤ 1 := ho.inD _ hx; omega))
        replace hM := hM.tr c122 (fun k hk => by cases hk)
        replace hbwl := Nat.lt_of_lt_of_le hbwl c122.size
        replace hq2 := hq2.tr c122 (fun hx => by first | (have h1 := ho.inD _ hx; omega) | exact na_br hx | exact hav _ hx (by simp))
        replace hD4 := Nat.lt_of_lt_of_le hD4 c122.size
        replace hD5 := Nat.lt_of_lt_of_le hD5 c122.size
        replace hq6 := hq6.tr c122 (fun hx => by first | (have h1 := ho.inD _ hx; omega) | exact na_b6 hx | exact hav _ hx (by simp))
        replace hq7 := hq7.tr c122 (fun hx => by first | (have h1 := ho.inD _ hx; omega) | exact na_b7 hx | exact hav _ hx (by simp))
        replace hMl := (fun k h => Nat.lt_of_lt_of_le (hMl k h) c122.size)
        replace hb23 := hb23.tr c122 (fun hx => by first | (have h1 := ho.inD _ hx; omega) | exact na_b8 hx | exact hav _ hx (by simp))
        replace HK := HK.chg c122 (by intro k hk hK; have h1 := ho.inD k hk; have h2 := lo0_ho k hk; rcases hK with h | h | ((h | h | h) | h) <;> first | omega | exact (h1.2.2.2.2.2.2.2.2 h).elim)
        replace hb117 := hb117.tr c122 (fun hx => by first | (have h1 := ho.inD _ hx; omega) | exact na_b113 hx | exact hav _ hx (by simp))
        refine Wp rfl <| st_store (v := .slice _ _ _) T.size23 rfl rfl rfl hq6 rfl (Nat.le_of_ble_eq_true rfl) (by simp [Value.oneCell', S]) rfl ?_
        intro w124 c125 hb126; simp only [setVs, setV] at hb126
        clear hq6
        replace HC := HC.then1 c125 ge_b6
        replace ht := ht.tr c125 (by intro hx; have := ht.lt; have := ht1; simp only [List.mem_cons, List.mem_nil_iff, or_false] at hx; first | omega | (rcases hx with hx | hx <;> omega))
        replace hM := hM.tr c125 (by intro k hk hx; have hlo := (hM.lt k hk).1; simp only [List.mem_singleton] at hx; subst hx; first | exact nm_b6 hk | omega | (cases hk; done))
        replace hbwl := Nat.lt_of_lt_of_le hbwl c125.size
        replace hq2 := hq2.tr1 c125 (Ne.symm ne_b6_br)
        replace hD4 := Nat.lt_of_lt_of_le hD4 c125.size
        replace hD5 := Nat.lt_of_lt_of_le hD5 c125.size
        replace ho121 := ho121.trF flat_flat c125 (by intro k hk hx; simp only [List.mem_cons, List.mem_nil_iff, or_false] at hx; obtain rfl := hx; first | exact na_b6 hk | exact absurd (ho121.inD _ hk) (by simp))
        replace hq7 := hq7.tr1 c125 (Ne.symm ne_b6_b7)
        replace hMl := (fun k h => Nat.lt_of_lt_of_le (hMl k h) c125.size)
        replace hb23 := hb23.tr1 c125 (Ne.symm ne_b6_b8)
        replace HK := HK.chg c125 (by
         intro k hx hK
         obtain rfl := List.mem_singleton.1 hx
         rcases hK with h | h | (h | h | h) | h
         · exact absurd h ne_b6_lp
         · exact absurd h ne_b6_DD
         · exact absurd h ne_b6_bw
         · exact absurd h ne_b6_br
         · exact absurd (Nat.lt_of_lt_of_le ht1 ge_b6) (by rw [h]; exact Nat.lt_irrefl _)
         · exact absurd h nM_b6)
        replace hb117 := hb117.tr1 c125 (Ne.symm ne_b6_b113)
        refine wops_nil <| block_n <| ⟨HK, ?_⟩
        have hall : ∀ u, u ∈ pre ++ [y] → u.2 = 0 := fun u hu => (List.mem_append.1 hu).elim (hz u) (fun h => by rw [List.mem_singleton.1 h]; exact he0)
        have hmq : foldL (pre ++ [y]) = addP (foldL pre) y.1 := foldL_snoc pre y
        rw [hadd] at hmq
        rw [← hmq] at hb126 ho121
        exact ⟨A118, cap119, ⟨hall, nM_b6, nM_b7, nM_lp⟩, HC, ht, hM, hbwl, hq2, hD4, hD5, ho121, hb126, hq7, hMl⟩
      ·try simp only [nm, ne_eq] at g67
       exfalso; omega
   ·rintro M W9 ⟨A, cap, ⟨hz, nM_b6, nM_b7, nM_lp⟩, HC, ht, hM, hbwl, hq2, hD4, hD5, ho, hq6, hq7, hMl⟩ hDef
    replace hM := hM.cons (by omega) hDef nm_DD
    have nm_br : br ∉ mb (mk DD :: []) := fun hx => (List.mem_cons.1 (show br ∈ DD :: mb [] from hx)).elim (fun h => ne_br_DD h) (fun h => by cases h)
    have nm_b6 : b6 ∉ mb (mk DD :: []) := fun hx => (List.mem_cons.1 (show b6 ∈ DD :: mb [] from hx)).elim (fun h => ne_b6_DD h) (fun h => by cases h)
    have nm_b7 : b7 ∉ mb (mk DD :: []) := fun hx => (List.mem_cons.1 (show b7 ∈ DD :: mb [] from hx)).elim (fun h => ne_b7_DD h) (fun h => by cases h)
    refine block_n <| then_n <| x_seq <| x_draw [(0, 0), (1, 0), (2, 0), (3, 0)] T.mixed rfl rfl rfl (fun W => W.heap[br]? = W9.heap[br]? ∧ W.heap[b6]? = W9.heap[b6]? ∧ W.heap[b7]? = W9.heap[b7]? ∧ True) ⟨rfl, rfl, rfl, trivial⟩ ?_
    have o129 := hq2
    have o130 := hq6
    have o131 := hq7
    have c128 := Chg.drew W9
    generalize World.drew W9 = w127 at c128 ⊢
    replace HC := HC.then c128
    replace ht := ht.tr0 c128
    replace hM := hM.tr c128 (by simp)
    replace hbwl := Nat.lt_of_lt_of_le hbwl c128.size
    replace hq2 := hq2.tr0 c128
    replace ho := ho.tr0 c128
    replace hq6 := hq6.tr0 c128
    replace hq7 := hq7.tr0 c128
    replace hMl := (fun k h => Nat.lt_of_lt_of_le (hMl k h) c128.size)
    refine sq_q rfl (fun W hT => r_load1 (v := .slice _ _ _) T.one23 rfl (Blk.cell (show Blk W b6 _ _ from hT.2.1.trans o130) rfl)) <| sq_q rfl (fun W hT => r_load1 (v := .int _ _) T.one24 rfl (Blk.cell (show Blk W b7 _ _ from hT.2.2.1.trans o131) rfl)) <| sq_q rfl (fun W hT => r_assign (v := .slice _ _ _) rfl) <| sq_q rfl (fun W hT => r_assign (v := .int _ _) rfl) ?_
    clear o129
    clear o130
    clear o131
    refine sq_nil <| then_n <| x_ret <| scope_r <| retM_marks hM ?_
    intro w99 c99
    have hlm := hM.lt
    replace HC := HC.trans c99 (fun k hk => .inr (by have := (hlm k hk).1; omega))
    replace hq2 := hq2.tr c99 (fun hx => by first | exact nm_br hx | (simp only [mb_cons, mb, List.mem_cons, List.mem_nil_iff, or_false] at hx; omega))
    replace ho := ho.trF flat_flat c99 (by intro k hk hx; have hD := ho.inD k hk; simp only [mb_cons, mb, List.mem_cons, List.mem_nil_iff, or_false] at hx; first | (obtain rfl := hx; exact absurd hD (by simp)) | (rcases hx with hx | hx <;> (obtain rfl := hx; exact absurd hD (by simp))))
    replace hq6 := hq6.tr c99 (fun hx => by first | exact nm_b6 hx | (simp only [mb_cons, mb, List.mem_cons, List.mem_nil_iff, or_false] at hx; omega))
    replace hq7 := hq7.tr c99 (fun hx => by first | exact nm_b7 hx | (simp only [mb_cons, mb, List.mem_cons, List.mem_nil_iff, or_false] at hx; omega))
    refine ret_tmp2 (v := .slice _ _ _) (v2 := .int _ _) rfl rfl rfl ?_
    rw [show parsG pq m s = (foldL L, 0) by rw [parsG, if_neg hm2, hL]; exact foldY_all hz]
    exact ⟨A, cap, rfl, (ho.sl).mono (fun k _ h => h.1), HC⟩
   ·intro c pre W9 hX hDef
    obtain ⟨rfl, ⟨zz, hzz, HC, ht, hM, hbwl, hq2, hD4, hD5, hq6, hq7⟩⟩ := hX
    replace hM := hM.cons (by omega) hDef nm_DD
    have nm_br : br ∉ mb (mk DD :: []) := fun hx => (List.mem_cons.1 (show br ∈ DD :: mb [] from hx)).elim (fun h => ne_br_DD h) (fun h => by cases h)
    have nm_b6 : b6 ∉ mb (mk DD :: []) := fun hx => (List.mem_cons.1 (show b6 ∈ DD :: mb [] from hx)).elim (fun h => ne_b6_DD h) (fun h => by cases h)
    have nm_b7 : b7 ∉ mb (mk DD :: []) := fun hx => (List.mem_cons.1 (show b7 ∈ DD :: mb [] from hx)).elim (fun h => ne_b7_DD h) (fun h => by cases h)
    refine x_exit <| block_x <| then_n <| x_seq <| x_draw [(0, 0), (1, 0), (2, 0), (3, 0)] T.mixed rfl rfl rfl (fun W => W.heap[br]? = W9.heap[br]? ∧ W.heap[b6]? = W9.heap[b6]? ∧ W.heap[b7]? = W9.heap[b7]? ∧ True) ⟨rfl, rfl, rfl, trivial⟩ ?_
    have o134 := hq2
    have o135 := hq6
    have o136 := hq7
    have c133 := Chg.drew W9
    generalize World.drew W9 = w132 at c133 ⊢
    replace HC := HC.then c133
    replace ht := ht.tr0 c133
    replace hM := hM.tr c133 (by simp)
    replace hbwl := Nat.lt_of_lt_of_le hbwl c133.size
    replace hq2 := hq2.tr0 c133
    replace hq6 := hq6.tr0 c133
    replace hq7 := hq7.tr0 c133
    refine sq_q rfl (fun W hT => r_load1 (v := .slice _ _ _) T.one23 rfl (Blk.cell (show Blk W b6 _ _ from hT.2.1.trans o135) rfl)) <| sq_q rfl (fun W hT => r_load1 (v := .int _ _) T.one24 rfl (Blk.cell (show Blk W b7 _ _ from hT.2.2.1.trans o136) rfl)) <| sq_q rfl (fun W hT => r_assign (v := .slice _ _ _) rfl) <| sq_q rfl (fun W hT => r_assign (v := .int _ _) rfl) ?_
    clear o134
    clear o135
    clear o136
    refine sq_nil <| then_n <| x_ret <| scope_r <| retM_marks hM ?_
    intro w99 c99
    have hlm := hM.lt
    replace HC := HC.trans c99 (fun k hk => .inr (by have := (hlm k hk).1; omega))
    replace hq2 := hq2.tr c99 (fun hx => by first | exact nm_br hx | (simp only [mb_cons, mb, List.mem_cons, List.mem_nil_iff, or_false] at hx; omega))
    replace hq6 := hq6.tr c99 (fun hx => by first | exact nm_b6 hx | (simp only [mb_cons, mb, List.mem_cons, List.mem_nil_iff, or_false] at hx; omega))
    replace hq7 := hq7.tr c99 (fun hx => by first | exact nm_b7 hx | (simp only [mb_cons, mb, List.mem_cons, List.mem_nil_iff, or_false] at hx; omega))
    refine ret_tmp2 (v := .slice _ _ _) (v2 := .int _ _) rfl rfl rfl ?_
    rw [show parsG pq m s = ([], zz.2) by rw [parsG, if_neg hm2, hL]; exact hzz]
    exact ⟨none, 0, rfl, .nil, HC⟩

theorem ParseQ_spec (s : Bytes) (w : World) (hs : s.length < 4294967281) (ht : Tab w) : CallR Tryd.prog 9 #[S s, .int .i64 1] w fun v w' => ParsedT w w' (parsQ 1 s) v :=
  Parse_gen 1 (fun _ => ([], 0)) s w hs rfl ht (fun _ => ⟨Nat.zero_le _, Nat.zero_le _⟩) (fun h => absurd h (by decide))
theorem Parse_spec (m : Int) (s : Bytes) (w : World) (hs : s.length < 4294967281) (ht : Tab w) : CallR Tryd.prog 9 #[S s, .int .i64 m] w fun v w' => ParsedT w w' (parsV m s) v :=
  Parse_gen m (parsQ 1) s w hs rfl ht parsQ_sum fun _ s' W hl hT => ParseQ_spec s' W (by omega) hT

end Go.Proofs.YtiiahnpgomdfmaaDoor.K
