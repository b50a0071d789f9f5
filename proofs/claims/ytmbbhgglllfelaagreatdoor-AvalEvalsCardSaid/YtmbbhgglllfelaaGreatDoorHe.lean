import Derived.Test.YtmbbhgglllfelaaGreatDoorGf
import Derived.Test.YtmbbhgglllfelaaGreatDoorDc
set_option linter.unusedVariables false
set_option linter.unusedSimpArgs false
set_option autoImplicit false
set_option maxRecDepth 20000
namespace Go.Proofs.YtmbbhgglllfelaaGreatDoor.K
open Go Go.Proofs Go.RowKit
open Tr
theorem reval_spec : ∀ (n : Nat) (t : Tr) (p : Nat) (vs : List Vr) (r : Rs) (l : List Nd) (Al Av : Option Addr) (capl cv : Nat) (D D2 : Nat → Prop) (w : World), t.sz ≤ n → t.ok → SubAt l t p → Sl ndE w D Al l → p + t.sz ≤ l.length → l.length ≤ 1000000 → Sl prE w D2 Av vs → VK vs → vs.length + t.sz ≤ 100000000 → runV t vs = some r → CallR Tryz.prog 16 #[.slice Al l.length capl, .int .i64 (t.root p), .slice Av vs.length cv] w fun v w' => (∃ A cap, v = .tuple ⟨[.int .i64 r.1, .slice A r.2.1.length cap, .int .i64 r.2.2]⟩ ∧ Sl prE w' (fun _ => True) A r.2.1) ∧ Chg [] w w'
  | 0, t, _, _, _, _, _, _, _, _, _, _, _, h => by have := t.sz_pos; omega
  | n + 1, t, p, vs, r, l, Al, Av, capl, cv, D, D2, w, h => reval_step n (reval_spec n) t p vs r l Al Av capl cv D D2 w h

theorem REval_bad {vs : List Vr} {Av : Option Addr} {cv : Nat} {w : World} {L : List Yd} (s : Bytes) (hL : toksF (s.length + 1) s 0 = L) (hs : s.length ≤ 100000) (hbad : (parseV s L).2.2 ≠ 0) : CallR Tryz.prog 9 #[S s, .slice Av vs.length cv] w fun v w' => v = .tuple ⟨[.int .i64 0, .slice Av vs.length cv, .int .i64 (parseV s L).2.2]⟩ ∧ Chg [] w w' := by
 refine callR_of_wp (args := [_, _]) Tryz.func9 rfl (Nat.le_of_ble_eq_true rfl) ?_
 have HC : Chg [] w w := .refl _
 refine sr rfl <| aI rfl <| aL rfl <| aI rfl <| en <| sr rfl <| mS rfl <| Wp rfl <| st_call (ags := [_]) rfl rfl T.ent11 rfl (RParse_spec (L := L) s _ hL hs) ?_
 rintro _ w1 ⟨Al, capl, rfl, hlo, c2⟩
 replace HC := HC.then c2
 refine mv (v := .tuple ⟨[_, _, _]⟩) rfl <| Wp rfl <| st_extract (vs := [_, _, _]) (v := .slice _ _ _) rfl rfl <| Wp rfl <| st_extract (vs := [_, _, _]) (v := .int _ _) rfl rfl <| Wp rfl <| st_extract (vs := [_, _, _]) (v := .int _ _) rfl rfl <| aL rfl <| aI rfl <| aI rfl <| en <| x_seq <| sr rfl <| mI rfl <| Wp rfl <| st_neq rfl rfl <| en <| x_cond rfl (fun h0 => ?_) (fun h0 => ?_)
 ·try simp only [nm, ne_eq] at h0
  refine sr rfl <| mL rfl <| mI rfl <| aI rfl <| aL rfl <| aI rfl <| en <| x_ret <| then_r <| ret_tmp3 (v := .int _ _) (v2 := .slice _ _ _) (v3 := .int _ _) rfl rfl rfl rfl ?_
  exact ⟨rfl, HC⟩
 ·try simp only [nm, ne_eq] at h0
  exact absurd (by first | exact h0 | simpa using h0) hbad

theorem REval_run {vs : List Vr} {Av : Option Addr} {cv : Nat} {w : World} {L : List Yd} {Dv : Nat → Prop} (s : Bytes) (t : Tr) (r : Rs) (hL : toksF (s.length + 1) s 0 = L) (hs : s.length ≤ 100000) (hok : t.ok) (hsz : t.sz ≤ 1000) (hp : parseV s L = (t.row 0, 0, 0)) (hv0 : Sl prE w Dv Av vs) (hvk : VK vs) (hvl : vs.length ≤ 1000000) (hr : runV t vs = some r) : CallR Tryz.prog 9 #[S s, .slice Av vs.length cv] w fun v w' => (∃ A cap, v = .tuple ⟨[.int .i64 (evalR r vs).1, .slice A (evalR r vs).2.1.length cap, .int .i64 (evalR r vs).2.2]⟩ ∧ Sl prE w' (fun _ => True) A (evalR r vs).2.1) ∧ Chg [] w w' := by
 refine callR_of_wp (args := [_, _]) Tryz.func9 rfl (Nat.le_of_ble_eq_true rfl) ?_
 have HC : Chg [] w w := .refl _
 have hrl := Tr.row_len t 0
 have hsp := t.sz_pos
 refine sr rfl <| aI rfl <| aL rfl <| aI rfl <| en <| sr rfl <| mS rfl <| Wp rfl <| st_call (ags := [_]) rfl rfl T.ent11 rfl (RParse_spec (L := L) s _ hL hs) ?_
 rintro _ w1 ⟨Al, capl, rfl, hlo, c2⟩
 rw [hp] at hlo ⊢
 dsimp only at hlo
 replace HC := HC.then c2
 replace hv0 := hv0.tr0 c2
 refine mv (v := .tuple ⟨[_, _, _]⟩) rfl <| Wp rfl <| st_extract (vs := [_, _, _]) (v := .slice _ _ _) rfl rfl <| Wp rfl <| st_extract (vs := [_, _, _]) (v := .int _ _) rfl rfl <| Wp rfl <| st_extract (vs := [_, _, _]) (v := .int _ _) rfl rfl <| aL rfl <| aI rfl <| aI rfl <| en <| x_seq <| sr rfl <| mI rfl <| Wp rfl <| st_neq rfl rfl <| en <| x_cond rfl (fun h0 => ?_) (fun h0 => ?_)
 ·try simp only [nm, ne_eq] at h0
  first | exact absurd rfl h0 | exact absurd trivial h0
 ·try simp only [nm, ne_eq] at h0
  refine x_skip <| then_n <| sr rfl <| mL rfl <| mL rfl <| Wp rfl <| st_len (ct := #[32]) (by rw [show ((#[32] : Array TypeId)[0]?).bind Tryz.prog.underlying = some (.slice 38) from T.u32]; rfl) rfl <| Wp rfl <| st_subk rfl rfl (by exact (show _ = t.root 0 by rw [hrl, wrap64_id (by omega) (by omega)]; unfold Tr.root; omega)) <| mL rfl <| Wp rfl <| st_call (ags := [_, _, _]) rfl rfl T.ent16 rfl (reval_spec t.sz t 0 vs r (t.row 0) Al Av capl _ _ _ _ (Nat.le_refl _) hok (fun j x hj => by rw [Nat.zero_add]; exact hj) (hlo.sl) (by omega) (by omega) hv0 hvk (by omega) hr) ?_
  rintro _ w3 ⟨⟨A2, cap2, rfl, hv2⟩, c4⟩
  replace HC := HC.then c4
  replace hv0 := hv0.tr0 c4
  replace hlo := hlo.tr0 c4
  refine mv (v := .tuple ⟨[_, _, _]⟩) rfl <| Wp rfl <| st_extract (vs := [_, _, _]) (v := .int _ _) rfl rfl <| Wp rfl <| st_extract (vs := [_, _, _]) (v := .slice _ _ _) rfl rfl <| Wp rfl <| st_extract (vs := [_, _, _]) (v := .int _ _) rfl rfl <| aI rfl <| aL rfl <| aI rfl <| en <| x_seq <| sr rfl <| mI rfl <| Wp rfl <| st_neq rfl rfl <| en <| x_cond rfl (fun h1 => ?_) (fun h1 => ?_)
  ·try simp only [nm, ne_eq] at h1
   refine sr rfl <| mL rfl <| mI rfl <| aI rfl <| aL rfl <| aI rfl <| en <| x_ret <| then_r <| ret_tmp3 (v := .int _ _) (v2 := .slice _ _ _) (v3 := .int _ _) rfl rfl rfl rfl ?_
   rw [show evalR r vs = (0, vs, r.2.2) by unfold evalR; rw [if_neg h1]]
   exact ⟨⟨_, _, rfl, hv0.mono (fun _ _ _ => trivial)⟩, HC⟩
  ·try simp only [nm, ne_eq] at h1
   refine x_skip <| then_n <| sr rfl <| mI rfl <| mL rfl <| aI rfl <| aL rfl <| aI rfl <| en <| x_ret <| ret_tmp3 (v := .int _ _) (v2 := .slice _ _ _) (v3 := .int _ _) rfl rfl rfl rfl ?_
   rw [show evalR r vs = r by unfold evalR; rw [if_pos (by omega)]]
   exact ⟨⟨A2, cap2, by rw [show r.2.2 = 0 by omega], hv2⟩, HC⟩

/-- Variables that a law lets in. -/
def Gd (vs : List Vr) : Prop := Rise vs ∧ (∀ p, p ∈ vs → p.1.length + p.2.length ≤ 300) ∧ vs.length ≤ 100
theorem gd_vk {vs : List Vr} (h : Gd vs) : VK vs := ⟨h.1, fun p hp => by have := h.2.1 p hp; omega⟩
theorem rise_snoc {vs : List Vr} {i : Nat} {x : Vr} (h : Rise (vs.take i)) (hx : vs[i]? = some x) (hl : 0 < i → ∀ y, vs[i - 1]? = some y → Op.bytesLess y.1 x.1 = true) : Rise (vs.take (i + 1)) := by
  rw [← take_snoc hx]
  refine List.pairwise_append.2 ⟨h, List.pairwise_singleton _ _, fun a ha b hb => ?_⟩
  rw [List.mem_singleton.1 hb]
  obtain ⟨j, hj⟩ := List.getElem?_of_mem ha
  have hjl : j < (vs.take i).length := (List.getElem?_eq_some_iff.1 hj).1
  rw [List.length_take] at hjl
  have hi : 0 < i := by omega
  have hxl := (List.getElem?_eq_some_iff.1 hx).1
  obtain ⟨y, hy⟩ : ∃ y, vs[i - 1]? = some y := ⟨_, List.getElem?_eq_getElem (by omega)⟩
  have h2 := hl hi y hy
  by_cases e : j = i - 1
  · rw [List.getElem?_take, if_pos (by omega), e, hy] at hj; cases hj; exact h2
  · exact less_trans _ _ _ (rise_lt h (i := j) (j := i - 1) (by omega) hj (by rw [List.getElem?_take, if_pos (by omega)]; exact hy)) h2

theorem good_spec {vs : List Vr} {Av : Option Addr} {cv : Nat} {Dv : Nat → Prop} {w : World} (hv : Sl prE w Dv Av vs) (hl : vs.length ≤ 1000000000000000) (hsz : ∀ p, p ∈ vs → p.1.length ≤ 1000000000000000 ∧ p.2.length ≤ 1000000000000000) : CallR Tryz.prog 6 #[.slice Av vs.length cv] w fun v w' => (∃ g, v = .bool g ∧ (g = true → Gd vs)) ∧ Chg [] w w' := by
 replace hv := hv.mono (D' := fun k => k < w.heap.size) (fun k hk _ => hk)
 refine callR_of_wp (args := [_]) Tryz.func6 rfl (Nat.le_of_ble_eq_true rfl) ?_
 have HC : Chg [] w w := .refl _
 refine sr rfl <| aB rfl <| en <| x_seq <| sr rfl <| mL rfl <| Wp rfl <| st_len (ct := #[22]) (by rw [show ((#[22] : Array TypeId)[0]?).bind Tryz.prog.underlying = some (.slice 42) from T.u22]; rfl) rfl <| mI rfl <| en <| x_block <| x_loop (ι := Nat) [2, 3, 4, 7, 8, 9, 10, 11, 12, 13, 14, 15, 16, 17, 18, 19, 20, 21, 22, 23, 24, 25, 26, 27, 28, 29, 30, 31, 32, 33, 34, 35] (fun i => [(7, .int .i64 (i : Int))]) (fun i W => (i ≤ vs.length ∧ Rise (vs.take i) ∧ (∀ p, p ∈ vs.take i → p.1.length + p.2.length ≤ 300)) ∧ (Chg [] w W) ∧ (Sl prE W (fun k => k < w.heap.size) Av vs)) (fun i => vs.length - i) 0 ?_ ?_ ?_
 · exact ⟨rfl, trivial⟩
 ·refine ⟨?_, HC, hv⟩
  exact ⟨Nat.zero_le _, List.Pairwise.nil, fun p hp => by simp at hp⟩
 intro i G2 w1 ⟨⟨hi, hri, hle⟩, HC, hv⟩
 change wp _ _ _ _ _ (upds (over _ _ G2) [(7, .int .i64 (i : Int))]) _ _
 refine sr rfl <| Wp rfl <| st_lss rfl rfl <| en <| x_seq <| x_cond rfl (fun h0 => ?_) (fun h0 => ?_)
 ·try simp only [nm, ne_eq] at h0
  obtain ⟨x, hxi⟩ : ∃ x, vs[i]? = some x := ⟨_, List.getElem?_eq_getElem (by omega)⟩
  obtain ⟨hz1, hz2⟩ := hsz x (List.mem_of_getElem? hxi)
  refine x_skip <| then_n <| x_seq <| x_block <| sr rfl <| mI rfl ?_
  obtain ⟨lb7, _, vs6, hA3, hR5, hC4⟩ := hv.at (i := i) (x := x) (hxi)
  obtain rfl : vs6 = [S x.1, S x.2] := hR5
  refine Wp rfl <| st_indexAddr T.u22 T.size42 (congrArg (fun z => Value.slice z _ _) hA3) rfl (by omega) (by omega) <| Wp rfl <| st_loadA (vs := [_, _]) T.agg42 rfl hC4 rfl <| Wp rfl <| st_alloc T.zero42 ?_
  intro b4 w8 e9 c10 hb11
  have ge_b4 : w.heap.size ≤ b4 := by rw [e9]; exact HC.size
  have nf_hv_b4 : vs = [] ∨ b4 ∉ ob (Av) := hv.fresh (by rw [e9]; exact Nat.le_refl _)
  replace HC := HC.then c10
  replace hv := hv.tr0 c10
  clear e9
  refine aI rfl <| Wp rfl <| st_store (v := .agg ⟨[S _, S _]⟩) T.size42 rfl rfl rfl hb11 rfl (Nat.le_of_ble_eq_true rfl) (by simp [Value.oneCell', S]) rfl ?_
  intro w12 c13 hb14; simp only [setVs, setV] at hb14
  clear hb11
  replace HC := HC.then1 c13 ge_b4
  replace hv := hv.trF flat_flat c13 (by intro k hx; simp only [List.mem_singleton] at hx; subst hx; exact nf_hv_b4)
  refine en <| x_seq ?_
  rcases Nat.eq_zero_or_pos i with hz | hz
  ·refine x_draw [(0, 0), (1, 0), (2, 0), (3, 0), (4, 0), (5, 0), (6, 0), (7, 0), (8, 0), (9, 0), (10, 0), (11, 0), (12, 0), (13, 0), (14, 0), (15, 0), (16, 0), (17, 0), (18, 0), (19, 0), (20, 0), (21, 0), (22, 0)] T.mixed rfl rfl rfl (fun W => W.heap[b4]? = w12.heap[b4]? ∧ True) ⟨rfl, trivial⟩ ?_
   have o17 := hb14
   have c16 := Chg.drew w12
   generalize World.drew w12 = w15 at c16 ⊢
   replace HC := HC.then c16
   replace hv := hv.tr0 c16
   replace hb14 := hb14.tr0 c16
   refine sq_q rfl (fun W hT => r_move (v := .int _ _) rfl) <| sq_q rfl (fun W hT => r_gtr rfl rfl) <| sq_q rfl (fun W hT => r_move (v := .bool _) rfl) <| sq_split (d := 14) rfl (fun g18 => ?_) (fun g18 => ?_)
   ·try simp only [nm, ne_eq] at g18
    exfalso; omega
   ·try simp only [nm, ne_eq] at g18
    refine sq_no rfl rfl <| sq_no rfl rfl <| sq_no rfl rfl <| sq_no rfl rfl <| sq_no rfl rfl <| sq_no rfl rfl <| sq_no rfl rfl <| sq_no rfl rfl <| sq_no rfl rfl <| sq_q rfl (fun W hT => r_pick (b := false) (v := .bool _) rfl rfl) <| sq_q rfl (fun W hT => r_move (v := .bool _) rfl) <| sq_q rfl (fun W hT => r_fieldAddr T.fld42_0 rfl) <| sq_q rfl (fun W hT => r_load1 (v := S _) T.one9 rfl (Blk.cell (show Blk W b4 _ _ from hT.1.trans o17) rfl)) <| sq_q rfl (fun W hT => r_slen (ct := #[9]) T.u9 rfl) <| sq_q rfl (fun W hT => r_fieldAddr T.fld42_1 rfl) <| sq_q rfl (fun W hT => r_load1 (v := S _) T.one9 rfl (Blk.cell (show Blk W b4 _ _ from hT.1.trans o17) rfl)) <| sq_q rfl (fun W hT => r_slen (ct := #[9]) T.u9 rfl) <| sq_q rfl (fun W hT => r_addn rfl rfl (by constructor <;> omega)) <| sq_q rfl (fun W hT => r_gtr rfl rfl) <| sq_q rfl (fun W hT => r_pick (b := false) (v := .bool _) rfl rfl) ?_
    clear o17
    refine sq_nil <| then_n <| x_cond rfl (fun h1 => ?_) (fun h1 => ?_)
    ·try simp only [nm, ne_eq] at h1
     refine sr rfl <| aB rfl <| en <| x_ret <| block_r <| then_r <| then_r <| block_r <| then_r <| ret_tmp (v := .bool _) rfl rfl ?_
     exact ⟨⟨_, rfl, fun h => by cases h⟩, HC⟩
    ·try simp only [nm, ne_eq] at h1
     refine x_skip <| block_n <| then_n <| x_region rfl <| Wp rfl <| st_addn rfl rfl (by constructor <;> omega) <| mI rfl <| en <| ⟨i + 1, ?_, ?_, rfl, ⟨rfl, trivial⟩, ?_⟩
     ·refine ⟨?_, HC, hv⟩
      exact ⟨by omega, rise_snoc hri hxi (fun h0 y hy => by omega), fun p hp => by rw [← take_snoc hxi] at hp; rcases List.mem_append.1 hp with hp | hp; exact hle p hp; rw [List.mem_singleton.1 hp]; omega⟩
     ·show vs.length - (i + 1) < vs.length - i; omega
     repeat (first | exact agree_upds agree_over rfl | refine agree_upd ?_ rfl | refine agree_upds ?_ rfl | refine agree_over_sub ?_ rfl)
  ·obtain ⟨yp, hyp⟩ : ∃ y, vs[i - 1]? = some y := ⟨_, List.getElem?_eq_getElem (by omega)⟩
   obtain ⟨lb23, _, vs22, hA19, hR21, hC20⟩ := hv.at (i := (i - 1)) (x := yp) (hyp)
   obtain rfl : vs22 = [S yp.1, S yp.2] := hR21
   refine x_draw [(0, 0), (1, 0), (2, 0), (3, 0), (4, 0), (5, 0), (6, 0), (7, 0), (8, 0), (9, 0), (10, 0), (11, 0), (12, 0), (13, 0), (14, 0), (15, 0), (16, 0), (17, 0), (18, 0), (19, 0), (20, 0), (21, 0), (22, 0)] T.mixed rfl rfl rfl (fun W => W.heap[b4]? = w12.heap[b4]? ∧ W.heap[lb23]? = w12.heap[lb23]? ∧ True) ⟨rfl, rfl, trivial⟩ ?_
   have o26 := hb14
   have c25 := Chg.drew w12
   generalize World.drew w12 = w24 at c25 ⊢
   have ht_lb23 : lb23 < w24.heap.size ∧ w24.heap[lb23]? = w12.heap[lb23]? := ⟨Nat.lt_of_lt_of_le hC20.lt c25.size, c25.block lb23 hC20.lt (by simp)⟩
   replace HC := HC.then c25
   replace hv := hv.tr0 c25
   replace hb14 := hb14.tr0 c25
   refine sq_q rfl (fun W hT => r_move (v := .int _ _) rfl) <| sq_q rfl (fun W hT => r_gtr rfl rfl) <| sq_q rfl (fun W hT => r_move (v := .bool _) rfl) <| sq_split (d := 14) rfl (fun g27 => ?_) (fun g27 => ?_)
   ·try simp only [nm, ne_eq] at g27
    refine sq_q rfl (fun W hT => r_move (v := .slice _ _ _) rfl) <| sq_q rfl (fun W hT => r_move (v := .int _ _) rfl) <| sq_q rfl (fun W hT => r_subk rfl rfl (by exact (show IntKind.i64.wrap _ = ((i - 1 : Nat) : Int) by rw [wrap64_id (by omega) (by omega)]; omega))) <| sq_q rfl (fun W hT => r_indexAddr T.u22 T.size42 (congrArg (fun z => Value.slice z _ _) hA19) rfl (by omega) (by omega)) <| sq_q rfl (fun W hT => r_fieldAddr T.fld42_0 rfl) <| sq_q rfl (fun W hT => r_load1 (v := S _) T.one9 rfl (Cells.at (j := 0) (Cells.tr hC20 hT.2.1) rfl)) <| sq_q rfl (fun W hT => r_fieldAddr T.fld42_0 rfl) <| sq_q rfl (fun W hT => r_load1 (v := S _) T.one9 rfl (Blk.cell (show Blk W b4 _ _ from hT.1.trans o26) rfl)) <| sq_q rfl (fun W hT => r_sgeq rfl rfl) <| sq_q rfl (fun W hT => r_pick (b := true) (v := .bool _) rfl rfl) <| sq_q rfl (fun W hT => r_move (v := .bool _) rfl) <| sq_split (d := 25) rfl (fun g28 => ?_) (fun g28 => ?_)
    ·try simp only [nm, ne_eq] at g28
     refine sq_no rfl rfl <| sq_no rfl rfl <| sq_no rfl rfl <| sq_no rfl rfl <| sq_no rfl rfl <| sq_no rfl rfl <| sq_no rfl rfl <| sq_no rfl rfl <| sq_q rfl (fun W hT => r_pick (b := true) (v := .bool _) rfl rfl) ?_
     clear o26
     refine sq_nil <| then_n <| x_cond (t := true) rfl (fun h1 => ?_) (fun h1 => ?_)
     rotate_left
     · exact absurd h1 (by decide)
     refine sr rfl <| aB rfl <| en <| x_ret <| block_r <| then_r <| then_r <| block_r <| then_r <| ret_tmp (v := .bool _) rfl rfl ?_
     exact ⟨⟨_, rfl, fun h => by cases h⟩, HC⟩
    ·try simp only [nm, ne_eq] at g28
     have hls : Op.bytesLess yp.1 x.1 = true := (by assumption)
     refine sq_q rfl (fun W hT => r_fieldAddr T.fld42_0 rfl) <| sq_q rfl (fun W hT => r_load1 (v := S _) T.one9 rfl (Blk.cell (show Blk W b4 _ _ from hT.1.trans o26) rfl)) <| sq_q rfl (fun W hT => r_slen (ct := #[9]) T.u9 rfl) <| sq_q rfl (fun W hT => r_fieldAddr T.fld42_1 rfl) <| sq_q rfl (fun W hT => r_load1 (v := S _) T.one9 rfl (Blk.cell (show Blk W b4 _ _ from hT.1.trans o26) rfl)) <| sq_q rfl (fun W hT => r_slen (ct := #[9]) T.u9 rfl) <| sq_q rfl (fun W hT => r_addn rfl rfl (by constructor <;> omega)) <| sq_q rfl (fun W hT => r_gtr rfl rfl) <| sq_q rfl (fun W hT => r_pick (b := false) (v := .bool _) rfl rfl) ?_
     clear o26
     refine sq_nil <| then_n <| x_cond rfl (fun h1 => ?_) (fun h1 => ?_)
     ·try simp only [nm, ne_eq] at h1
      refine sr rfl <| aB rfl <| en <| x_ret <| block_r <| then_r <| then_r <| block_r <| then_r <| ret_tmp (v := .bool _) rfl rfl ?_
      exact ⟨⟨_, rfl, fun h => by cases h⟩, HC⟩
     ·try simp only [nm, ne_eq] at h1
      refine x_skip <| block_n <| then_n <| x_region rfl <| Wp rfl <| st_addn rfl rfl (by constructor <;> omega) <| mI rfl <| en <| ⟨i + 1, ?_, ?_, rfl, ⟨rfl, trivial⟩, ?_⟩
      ·refine ⟨?_, HC, hv⟩
       exact ⟨by omega, rise_snoc hri hxi (fun h0 y hy => by obtain rfl := Option.some.inj (hyp.symm.trans hy); exact hls), fun p hp => by rw [← take_snoc hxi] at hp; rcases List.mem_append.1 hp with hp | hp; exact hle p hp; rw [List.mem_singleton.1 hp]; omega⟩
      ·show vs.length - (i + 1) < vs.length - i; omega
      repeat (first | exact agree_upds agree_over rfl | refine agree_upd ?_ rfl | refine agree_upds ?_ rfl | refine agree_over_sub ?_ rfl)
   ·try simp only [nm, ne_eq] at g27
    exfalso; omega
 ·try simp only [nm, ne_eq] at h0
  refine x_exit <| then_x <| then_x <| block_x <| then_n <| sr rfl <| mL rfl <| Wp rfl <| st_len (ct := #[22]) (by rw [show ((#[22] : Array TypeId)[0]?).bind Tryz.prog.underlying = some (.slice 42) from T.u22]; rfl) rfl <| Wp rfl <| st_leq rfl rfl <| aB rfl <| en <| x_ret <| ret_tmp (v := .bool _) rfl rfl ?_
  have hil : i = vs.length := by omega
  rw [hil, List.take_length] at hri hle
  exact ⟨⟨_, rfl, fun h => ⟨hri, hle, by have h9 : (vs.length : Int) ≤ 100 := (by simpa using h); omega⟩⟩, HC⟩

end Go.Proofs.YtmbbhgglllfelaaGreatDoor.K
set_option linter.unusedVariables false
set_option linter.unusedSimpArgs false
set_option autoImplicit false
set_option maxRecDepth 20000
namespace Go.Proofs.YtmbbhgglllfelaaGreatDoor.K
open Go Go.Proofs Go.RowKit
open Tr
theorem tree_p {s : Bytes} {L : List Yd} {t : Tr} (h : (parseV s L).1 = t.row 0) (h2 : (parseV s L).2.2 = 0) : parseV s L = (t.row 0, 0, 0) := by
  have hne : (parseV s L).1 ≠ [] := by
    rw [h]; intro e
    have h1 := Tr.row_len t 0
    have h2 := t.sz_pos
    rw [e] at h1; simp at h1; omega
  have h3 : (parseV s L).2.1 = 0 := by
    unfold parseV at hne ⊢
    by_cases c : ¬ (tokV L).2.2 = 0
    · rw [if_pos c] at hne; exact absurd rfl hne
    · rw [if_neg c] at hne ⊢
      cases hw : wI (pP (fuelP (tokV L).1)) .asg 0 (tokV L).1 [] with
      | none => rfl
      | some q =>
        rw [hw] at hne
        cases q with
        | bad e a => exact absurd rfl hne
        | good k ts out =>
          dsimp only at hne ⊢
          by_cases c2 : ¬ (hdT ts).1.1 = 0
          · rw [if_pos c2] at hne; exact absurd rfl hne
          · rw [if_neg c2] at hne ⊢
            by_cases c3 : 1000 < out.length
            · rw [if_pos c3] at hne; exact absurd rfl hne
            · rw [if_neg c3]
  exact Prod.ext h (Prod.ext h3 h2)

theorem AvalEvals_spec {vs : List Vr} {Av : Option Addr} {cv : Nat} {Dv : Nat → Prop} {w : World} (s : Bytes) (hv : Sl prE w Dv Av vs) (hl : vs.length ≤ 1000000000000000) (hsz : ∀ p, p ∈ vs → p.1.length ≤ 1000000000000000 ∧ p.2.length ≤ 1000000000000000) (ht : Tab w) : CallR Tryz.prog 3 #[S s, .slice Av vs.length cv] w fun v w' => v = .bool true ∧ Chg [] w w' := by
 replace hv := hv.mono (D' := fun k => k < w.heap.size) (fun k hk _ => hk)
 refine callR_of_wp (args := [_, _]) Tryz.func3 rfl (Nat.le_of_ble_eq_true rfl) ?_
 have HC : Chg [] w w := .refl _
 have ht1 := ht.lt
 refine sr rfl <| aB rfl <| en <| x_seq <| sr rfl <| mS rfl <| Wp rfl <| st_slen (ct := #[9]) T.u9 rfl <| Wp rfl <| st_gtr rfl rfl <| mB rfl <| w_split (d := 14) rfl (fun g1 => ?_) (fun g1 => ?_)
 ·try simp only [nm, ne_eq] at g1
  iterate 3 refine w_no 3 14 false ?_
  refine pT rfl rfl <| en <| x_cond (t := true) rfl (fun h0 => ?_) (fun h0 => ?_)
  rotate_left
  · exact absurd h0 (by decide)
  refine sr rfl <| Wp rfl <| st_call (ags := []) rfl rfl T.ent7 rfl (awake14_spec _ ht) ?_
  rintro _ w2 ⟨rfl, c3⟩
  replace HC := HC.then c3
  replace ht := ht.tr0 c3
  replace hv := hv.tr0 c3
  refine aB rfl <| en <| x_ret <| then_r <| ret_tmp (v := .bool _) rfl rfl ?_
  exact ⟨rfl, HC⟩
 ·try simp only [nm, ne_eq] at g1
  refine w_yes 3 14 false <| st_move (v := .slice _ _ _) rfl <| w_yes 3 14 false <| st_call (ags := [_]) rfl rfl T.ent6 rfl (good_spec hv hl hsz) ?_
  rintro _ w4 ⟨⟨gd, rfl, hgd⟩, c5⟩
  replace HC := HC.then c5
  replace ht := ht.tr0 c5
  replace hv := hv.tr0 c5
  refine w_yes 3 14 false <| st_not rfl <| pF rfl rfl <| en <| x_cond rfl (fun h0 => ?_) (fun h0 => ?_)
  ·try simp only [nm, ne_eq] at h0
   refine sr rfl <| Wp rfl <| st_call (ags := []) rfl rfl T.ent7 rfl (awake14_spec _ ht) ?_
   rintro _ w6 ⟨rfl, c7⟩
   replace HC := HC.then c7
   replace ht := ht.tr0 c7
   replace hv := hv.tr0 c7
   refine aB rfl <| en <| x_ret <| then_r <| ret_tmp (v := .bool _) rfl rfl ?_
   exact ⟨rfl, HC⟩
  ·try simp only [nm, ne_eq] at h0
   have hgood : Gd vs := hgd (by first | assumption | simp_all)
   refine x_skip <| then_n <| x_seq ?_
   rcases parse_tree (L := toksF (s.length + 1) s 0) (by omega) rfl with ⟨hbad, _⟩ | ⟨hp2, t, hok, htz, hp1⟩
   ·obtain ⟨hgr, hgl, hgn⟩ := hgood
    have hvk := gd_vk ⟨hgr, hgl, hgn⟩
    refine x_region rfl <| mS rfl <| mL rfl <| Wp rfl <| st_call (ags := [_, _]) rfl rfl T.ent8 rfl (Eval_bad (vs := vs) (L := toksF (s.length + 1) s 0) s rfl (by omega) hbad ht) ?_
    rintro _ w8 ⟨rfl, c9⟩
    replace HC := HC.then c9
    replace ht := ht.tr0 c9
    replace hv := hv.tr0 c9
    refine mv (v := .tuple ⟨[_, _, _]⟩) rfl <| Wp rfl <| st_extract (vs := [_, _, _]) (v := .int _ _) rfl rfl <| Wp rfl <| st_extract (vs := [_, _, _]) (v := .slice _ _ _) rfl rfl <| Wp rfl <| st_extract (vs := [_, _, _]) (v := .int _ _) rfl rfl <| aI rfl <| aL rfl <| aI rfl <| en <| sr rfl <| mS rfl <| mL rfl <| Wp rfl <| st_call (ags := [_, _]) rfl rfl T.ent9 rfl (REval_bad (vs := vs) (L := toksF (s.length + 1) s 0) s rfl (by omega) hbad) ?_
    rintro _ w10 ⟨rfl, c11⟩
    replace HC := HC.then c11
    replace ht := ht.tr0 c11
    replace hv := hv.tr0 c11
    refine mv (v := .tuple ⟨[_, _, _]⟩) rfl <| Wp rfl <| st_extract (vs := [_, _, _]) (v := .int _ _) rfl rfl <| Wp rfl <| st_extract (vs := [_, _, _]) (v := .slice _ _ _) rfl rfl <| Wp rfl <| st_extract (vs := [_, _, _]) (v := .int _ _) rfl rfl <| aI rfl <| aL rfl <| aI rfl <| en <| sr rfl <| mI rfl <| mI rfl <| Wp rfl <| st_eql rfl rfl <| mB rfl <| w_split (d := 37) rfl (fun g12 => ?_) (fun g12 => ?_)
    ·try simp only [nm, ne_eq] at g12
     refine w_yes 3 37 true <| st_move (v := .slice _ _ _) rfl <| w_yes 3 37 true <| st_move (v := .slice _ _ _) rfl <| w_yes 3 37 true <| st_call (ags := [_, _]) rfl rfl T.ent10 rfl (RSameP_spec (a := vs) (b := vs) hv hv (by omega)) ?_
     rintro vS w13 ⟨hS, c14⟩
     rw [decide_eq_true rfl] at hS
     subst hS
     replace HC := HC.then c14
     replace ht := ht.tr0 c14
     replace hv := hv.tr0 c14
     refine pT rfl rfl <| mB rfl <| w_split (d := 42) rfl (fun g15 => ?_) (fun g15 => ?_)
     ·try simp only [nm, ne_eq] at g15
      refine w_yes 8 42 true <| st_move (v := .int _ _) rfl <| w_yes 8 42 true <| st_move (v := .int _ _) rfl <| w_yes 8 42 true <| st_eql rfl rfl <| pT rfl rfl <| mB rfl <| w_split (d := 47) rfl (fun g16 => ?_) (fun g16 => ?_)
      ·try simp only [nm, ne_eq] at g16
       refine w_yes 13 47 true <| st_call (ags := []) rfl rfl T.ent7 rfl (awake14_spec _ ht) ?_
       rintro _ w17 ⟨rfl, c18⟩
       replace HC := HC.then c18
       replace ht := ht.tr0 c18
       replace hv := hv.tr0 c18
       refine pT rfl rfl <| aB rfl <| en <| x_ret <| ret_tmp (v := .bool _) rfl rfl ?_
       exact ⟨rfl, HC⟩
      ·try simp only [nm, ne_eq] at g16
       first | exact absurd rfl g16 | exact absurd trivial g16 | (simp at g16; done)
     ·try simp only [nm, ne_eq] at g15
      first | exact absurd rfl g15 | exact absurd trivial g15 | (simp at g15; done)
    ·try simp only [nm, ne_eq] at g12
     first | exact absurd rfl g12 | exact absurd trivial g12 | (simp at g12; done)
   ·obtain ⟨hgr, hgl, hgn⟩ := hgood
    have hvk := gd_vk ⟨hgr, hgl, hgn⟩
    have hp := tree_p hp1 hp2
    obtain ⟨r, hr, hrp⟩ := runV_some t vs hok hvk
    have hrl : (evalR r vs).2.1.length ≤ 100000000 := by have h9 := (runV_vk t vs r hr hvk).2; unfold evalR; split; (have := hp1 ▸ Tr.row_len t 0); omega; (dsimp only; omega)
    refine x_region rfl <| mS rfl <| mL rfl <| Wp rfl <| st_call (ags := [_, _]) rfl rfl T.ent8 rfl (Eval_run (vs := vs) (L := toksF (s.length + 1) s 0) s t r rfl (by omega) hok htz hp hv (fun _ => trivial) hvk (by omega) hr ht) ?_
    rintro _ w19 ⟨⟨A1, cap1, rfl, hr1⟩, c20⟩
    replace HC := HC.then c20
    replace ht := ht.tr0 c20
    replace hv := hv.tr0 c20
    refine mv (v := .tuple ⟨[_, _, _]⟩) rfl <| Wp rfl <| st_extract (vs := [_, _, _]) (v := .int _ _) rfl rfl <| Wp rfl <| st_extract (vs := [_, _, _]) (v := .slice _ _ _) rfl rfl <| Wp rfl <| st_extract (vs := [_, _, _]) (v := .int _ _) rfl rfl <| aI rfl <| aL rfl <| aI rfl <| en <| sr rfl <| mS rfl <| mL rfl <| Wp rfl <| st_call (ags := [_, _]) rfl rfl T.ent9 rfl (REval_run (vs := vs) (L := toksF (s.length + 1) s 0) s t r rfl (by omega) hok htz hp hv hvk (by omega) hr) ?_
    rintro _ w21 ⟨⟨A2, cap2, rfl, hr2⟩, c22⟩
    replace HC := HC.then c22
    replace ht := ht.tr0 c22
    replace hv := hv.tr0 c22
    replace hr1 := hr1.tr0 c22
    refine mv (v := .tuple ⟨[_, _, _]⟩) rfl <| Wp rfl <| st_extract (vs := [_, _, _]) (v := .int _ _) rfl rfl <| Wp rfl <| st_extract (vs := [_, _, _]) (v := .slice _ _ _) rfl rfl <| Wp rfl <| st_extract (vs := [_, _, _]) (v := .int _ _) rfl rfl <| aI rfl <| aL rfl <| aI rfl <| en <| sr rfl <| mI rfl <| mI rfl <| Wp rfl <| st_eql rfl rfl <| mB rfl <| w_split (d := 37) rfl (fun g23 => ?_) (fun g23 => ?_)
    ·try simp only [nm, ne_eq] at g23
     refine w_yes 3 37 true <| st_move (v := .slice _ _ _) rfl <| w_yes 3 37 true <| st_move (v := .slice _ _ _) rfl <| w_yes 3 37 true <| st_call (ags := [_, _]) rfl rfl T.ent10 rfl (RSameP_spec (a := (evalR r vs).2.1) (b := (evalR r vs).2.1) hr1 hr2 (by omega)) ?_
     rintro vS w24 ⟨hS, c25⟩
     rw [decide_eq_true rfl] at hS
     subst hS
     replace HC := HC.then c25
     replace ht := ht.tr0 c25
     replace hv := hv.tr0 c25
     replace hr1 := hr1.tr0 c25
     replace hr2 := hr2.tr0 c25
     refine pT rfl rfl <| mB rfl <| w_split (d := 42) rfl (fun g26 => ?_) (fun g26 => ?_)
     ·try simp only [nm, ne_eq] at g26
      refine w_yes 8 42 true <| st_move (v := .int _ _) rfl <| w_yes 8 42 true <| st_move (v := .int _ _) rfl <| w_yes 8 42 true <| st_eql rfl rfl <| pT rfl rfl <| mB rfl <| w_split (d := 47) rfl (fun g27 => ?_) (fun g27 => ?_)
      ·try simp only [nm, ne_eq] at g27
       refine w_yes 13 47 true <| st_call (ags := []) rfl rfl T.ent7 rfl (awake14_spec _ ht) ?_
       rintro _ w28 ⟨rfl, c29⟩
       replace HC := HC.then c29
       replace ht := ht.tr0 c29
       replace hv := hv.tr0 c29
       replace hr1 := hr1.tr0 c29
       replace hr2 := hr2.tr0 c29
       refine pT rfl rfl <| aB rfl <| en <| x_ret <| ret_tmp (v := .bool _) rfl rfl ?_
       exact ⟨rfl, HC⟩
      ·try simp only [nm, ne_eq] at g27
       first | exact absurd rfl g27 | exact absurd trivial g27 | (simp at g27; done)
     ·try simp only [nm, ne_eq] at g26
      first | exact absurd rfl g26 | exact absurd trivial g26 | (simp at g26; done)
    ·try simp only [nm, ne_eq] at g23
     first | exact absurd rfl g23 | exact absurd trivial g23 | (simp at g23; done)

end Go.Proofs.YtmbbhgglllfelaaGreatDoor.K
