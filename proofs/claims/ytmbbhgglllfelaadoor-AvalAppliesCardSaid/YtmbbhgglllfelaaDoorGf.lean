/- Eval; the laws AvalApplies and AvalDivides. -/
import Derived.Test.YtmbbhgglllfelaaDoorGe
set_option linter.unusedVariables false
set_option linter.unusedSimpArgs false
set_option autoImplicit false
set_option maxRecDepth 20000
namespace Go.Proofs.YtmbbhgglllfelaaDoor.K
open Go Go.Proofs Go.RowKit
open Tr
theorem mrun_spec (b : Nat) (Al : Option Addr) (capl : Nat) (l : List Nd) (hll : l.length ≤ 1000000) : ∀ (n : Nat) (t : Tr) (p : Nat) (vs : List Vr) (r : Rs) (w : World), t.sz ≤ n → t.ok → SubAt l t p → p + t.sz ≤ l.length → MaAt w b Al capl l vs 0 → VK vs → vs.length + t.sz ≤ 100000000 → runV t vs = some r → CallR Tryd.prog 40 #[.pointer (some ⟨b, 0, none⟩), .int .i64 (t.root p)] w (PostM b Al capl l r w)
  | 0, t, _, _, _, _, h, _, _, _, _, _, _, _ => by have := t.sz_pos; omega
  | n + 1, t, p, vs, r, w, h1, h2, h3, h4, h5, h6, h7, h8 => run_step n b Al capl l hll (mrun_spec b Al capl l hll n) t p vs r w h1 h2 h3 h4 h5 h6 h7 h8
/-- What an expression comes to, with variables. -/
def evalR (r : Rs) (vs : List Vr) : Rs := if r.2.2 = 0 then r else (0, vs, r.2.2)

theorem Eval_bad {vs : List Vr} {Av : Option Addr} {cv : Nat} {w : World} {L : List Yd} (s : Bytes) (hL : toksF (s.length + 1) s 0 = L) (hs : s.length ≤ 100000) (hbad : (parseV s L).2.2 ≠ 0) (ht : Tab w) : CallR Tryd.prog 15 #[S s, .slice Av vs.length cv] w fun v w' => v = .tuple ⟨[.int .i64 0, .slice Av vs.length cv, .int .i64 (parseV s L).2.2]⟩ ∧ Chg [] w w' := by
 refine callR_of_wp (args := [_, _]) Tryd.func15 rfl (Nat.le_of_ble_eq_true rfl) ?_
 have HC : Chg [] w w := .refl _
 have ht1 := ht.lt
 refine sr rfl <| aI rfl <| aL rfl <| aI rfl <| en <| sr rfl <| mS rfl <| Wp rfl <| st_call (ags := [_]) rfl rfl T.ent39 rfl (Parse_spec (L := L) s _ hL hs ht) ?_
 rintro _ w1 ⟨Al, capl, rfl, hlo, c2⟩
 replace HC := HC.then c2
 replace ht := ht.tr0 c2
 refine mv (v := .tuple ⟨[_, _, _]⟩) rfl <| Wp rfl <| st_extract (vs := [_, _, _]) (v := .slice _ _ _) rfl rfl <| Wp rfl <| st_extract (vs := [_, _, _]) (v := .int _ _) rfl rfl <| Wp rfl <| st_extract (vs := [_, _, _]) (v := .int _ _) rfl rfl <| aL rfl <| aI rfl <| aI rfl <| en <| x_seq <| sr rfl <| mI rfl <| Wp rfl <| st_neq rfl rfl <| en <| x_cond rfl (fun h0 => ?_) (fun h0 => ?_)
 ·try simp only [nm, ne_eq] at h0
  refine sr rfl <| mL rfl <| mI rfl <| aI rfl <| aL rfl <| aI rfl <| en <| x_ret <| then_r <| ret_tmp3 (v := .int _ _) (v2 := .slice _ _ _) (v3 := .int _ _) rfl rfl rfl rfl ?_
  exact ⟨rfl, HC⟩
 ·try simp only [nm, ne_eq] at h0
  exact absurd (by first | exact h0 | simpa using h0) hbad

theorem Eval_run {vs : List Vr} {Av : Option Addr} {cv : Nat} {w : World} {L : List Yd} {Dv : Nat → Prop} (s : Bytes) (t : Tr) (r : Rs) (hL : toksF (s.length + 1) s 0 = L) (hs : s.length ≤ 100000) (hok : t.ok) (hsz : t.sz ≤ 1000) (hp : parseV s L = (t.row 0, 0, 0)) (hv0 : Sl prE w Dv Av vs) (hA : vs = [] → Av = none) (hvk : VK vs) (hvl : vs.length ≤ 1000000) (hr : runV t vs = some r) (ht : Tab w) : CallR Tryd.prog 15 #[S s, .slice Av vs.length cv] w fun v w' => (∃ A cap, v = .tuple ⟨[.int .i64 (evalR r vs).1, .slice A (evalR r vs).2.1.length cap, .int .i64 (evalR r vs).2.2]⟩ ∧ Sl prE w' (fun _ => True) A (evalR r vs).2.1) ∧ Chg [] w w' := by
 refine callR_of_wp (args := [_, _]) Tryd.func15 rfl (Nat.le_of_ble_eq_true rfl) ?_
 have HC : Chg [] w w := .refl _
 have ht1 := ht.lt
 have hrl := Tr.row_len t 0
 have hsp := t.sz_pos
 refine sr rfl <| aI rfl <| aL rfl <| aI rfl <| en <| sr rfl <| mS rfl <| Wp rfl <| st_call (ags := [_]) rfl rfl T.ent39 rfl (Parse_spec (L := L) s _ hL hs ht) ?_
 rintro _ w1 ⟨Al, capl, rfl, hlo, c2⟩
 rw [hp] at hlo ⊢
 dsimp only at hlo
 replace HC := HC.then c2
 replace ht := ht.tr0 c2
 replace hv0 := hv0.tr0 c2
 refine mv (v := .tuple ⟨[_, _, _]⟩) rfl <| Wp rfl <| st_extract (vs := [_, _, _]) (v := .slice _ _ _) rfl rfl <| Wp rfl <| st_extract (vs := [_, _, _]) (v := .int _ _) rfl rfl <| Wp rfl <| st_extract (vs := [_, _, _]) (v := .int _ _) rfl rfl <| aL rfl <| aI rfl <| aI rfl <| en <| x_seq <| sr rfl <| mI rfl <| Wp rfl <| st_neq rfl rfl <| en <| x_cond rfl (fun h0 => ?_) (fun h0 => ?_)
 ·try simp only [nm, ne_eq] at h0
  first | exact absurd rfl h0 | exact absurd trivial h0
 ·try simp only [nm, ne_eq] at h0
  refine x_skip <| then_n <| x_seq ?_
  have hlN := hlo.sl.mono (D' := fun k => k < w1.heap.size) (fun k hk _ => hk)
  have hvN := hv0.mono (D' := fun k => k < w1.heap.size) (fun k hk _ => hk)
  refine x_region rfl <| mL rfl <| mL rfl <| Wp rfl <| st_bld (ps := [(0, .tmp 22), (1, .tmp 23)]) (vs := [.slice _ _ _, .slice _ _ _, .int _ _]) T.bld57 rfl <| Wp rfl <| st_box (v := .agg ⟨[.slice _ _ _, .slice _ _ _, .int _ _]⟩) (vs := [_, _, _]) rfl rfl ?_
  intro b10 w3 e4 c5 hb6
  have ge_b10 : w.heap.size ≤ b10 := by rw [e4]; exact HC.size
  have nf_hv0_b10 : vs = [] ∨ b10 ∉ ob (Av) := hv0.fresh (by rw [e4]; exact Nat.le_refl _)
  have hkl_b10 : ∀ k, k < w1.heap.size → k ≠ b10 := fun k hk => by rw [e4]; omega
  replace HC := HC.then c5
  replace ht := ht.tr0 c5
  replace hv0 := hv0.tr0 c5
  replace hlN := hlN.tr0 c5
  replace hvN := hvN.tr0 c5
  clear e4
  refine aP rfl <| en <| x_seq ?_
  have hlB := hlN.mono (D' := fun k => k ≠ b10) (fun k _ hD => hkl_b10 k hD)
  have hvB := hvN.mono (D' := fun k => k ≠ b10) (fun k _ hD => hkl_b10 k hD)
  refine x_region rfl <| mP rfl <| mL rfl <| Wp rfl <| st_len (ct := #[52]) (by rw [show ((#[52] : Array TypeId)[0]?).bind Tryd.prog.underlying = some (.slice 72) from T.u52]; rfl) rfl <| Wp rfl <| st_subk rfl rfl (by exact (show _ = t.root 0 by rw [hrl, wrap64_id (by omega) (by omega)]; unfold Tr.root; omega)) ?_
  have hmA : MaAt w3 b10 Al capl (t.row 0) vs 0 := ⟨Av, cv, hb6, hlB, hvB, hA⟩
  refine Wp rfl <| st_call (ags := [_, _]) rfl rfl T.ent40 rfl (mrun_spec b10 Al capl (t.row 0) (by omega) t.sz t 0 vs r _ (Nat.le_refl _) hok (fun j x hj => by rw [Nat.zero_add]; exact hj) (by omega) hmA hvk (by omega) hr) ?_
  rintro _ w7 ⟨rfl, ⟨Av2, cv2, hb2, hl2, hv2, _⟩, c8⟩
  replace HC := HC.then1 c8 ge_b10
  replace ht := ht.tr c8 (by intro hx; have := ht.lt; have := ht1; simp only [List.mem_cons, List.mem_nil_iff, or_false] at hx; omega)
  replace hv0 := hv0.trF flat_flat c8 (by intro k hx; simp only [List.mem_singleton] at hx; subst hx; exact nf_hv0_b10)
  refine aI rfl <| en <| x_seq <| sr rfl <| mP rfl <| nc rfl <| fa T.fld57_2 rfl <| lI T.one22 rfl (hb2.cell rfl) <| Wp rfl <| st_neq rfl rfl <| en <| x_cond rfl (fun h1 => ?_) (fun h1 => ?_)
  ·try simp only [nm, ne_eq] at h1
   refine x_seq <| x_draw [(0, 0), (1, 0), (2, 0), (3, 0), (4, 0), (5, 0), (6, 0), (7, 0)] T.mixed rfl rfl rfl (fun W => W.heap[b10]? = w7.heap[b10]? ∧ True) ⟨rfl, trivial⟩ ?_
   have o11 := hb2
   have c10 := Chg.drew w7
   generalize World.drew w7 = w9 at c10 ⊢
   replace HC := HC.then c10
   replace ht := ht.tr0 c10
   replace hv0 := hv0.tr0 c10
   replace hb2 := hb2.tr0 c10
   replace hv2 := hv2.tr0 c10
   refine sq_q rfl (fun W hT => r_move (v := .slice _ _ _) rfl) <| sq_q rfl (fun W hT => r_move (v := .pointer _) rfl) <| sq_q rfl (fun W hT => r_nilCheck rfl) <| sq_q rfl (fun W hT => r_fieldAddr T.fld57_2 rfl) <| sq_q rfl (fun W hT => r_load1 (v := .int _ _) T.one22 rfl (Blk.cell (show Blk W b10 _ _ from hT.1.trans o11) rfl)) <| sq_q rfl (fun W hT => r_assign (v := .int _ _) rfl) <| sq_q rfl (fun W hT => r_assign (v := .slice _ _ _) rfl) <| sq_q rfl (fun W hT => r_assign (v := .int _ _) rfl) ?_
   clear o11
   refine sq_nil <| then_n <| x_ret <| then_r <| ret_tmp3 (v := .int _ _) (v2 := .slice _ _ _) (v3 := .int _ _) rfl rfl rfl rfl ?_
   rw [show evalR r vs = (0, vs, r.2.2) by unfold evalR; rw [if_neg h1]]
   exact ⟨⟨_, _, rfl, hv0.mono (fun _ _ _ => trivial)⟩, HC⟩
  ·try simp only [nm, ne_eq] at h1
   refine x_skip <| then_n <| x_seq <| x_draw [(0, 0), (1, 0), (2, 0), (3, 0), (4, 0), (5, 0), (6, 0), (7, 0)] T.mixed rfl rfl rfl (fun W => W.heap[b10]? = w7.heap[b10]? ∧ True) ⟨rfl, trivial⟩ ?_
   have o14 := hb2
   have c13 := Chg.drew w7
   generalize World.drew w7 = w12 at c13 ⊢
   replace HC := HC.then c13
   replace ht := ht.tr0 c13
   replace hv0 := hv0.tr0 c13
   replace hb2 := hb2.tr0 c13
   replace hv2 := hv2.tr0 c13
   refine sq_q rfl (fun W hT => r_move (v := .int _ _) rfl) <| sq_q rfl (fun W hT => r_move (v := .pointer _) rfl) <| sq_q rfl (fun W hT => r_nilCheck rfl) <| sq_q rfl (fun W hT => r_fieldAddr T.fld57_1 rfl) <| sq_q rfl (fun W hT => r_load1 (v := .slice _ _ _) T.one41 rfl (Blk.cell (show Blk W b10 _ _ from hT.1.trans o14) rfl)) <| sq_q rfl (fun W hT => r_assign (v := .int _ _) rfl) <| sq_q rfl (fun W hT => r_assign (v := .slice _ _ _) rfl) <| sq_q rfl (fun W hT => r_assign (v := .int _ _) rfl) ?_
   clear o14
   refine sq_nil <| then_n <| x_ret <| ret_tmp3 (v := .int _ _) (v2 := .slice _ _ _) (v3 := .int _ _) rfl rfl rfl rfl ?_
   rw [show evalR r vs = r by unfold evalR; rw [if_pos (by omega)]]
   exact ⟨⟨Av2, cv2, by rw [show r.2.2 = 0 by omega], hv2.mono (fun _ _ _ => trivial)⟩, HC⟩

theorem pr_same {x y : Vr} : (decide (x.1 = y.1) && decide (x.2 = y.2)) = decide (x = y) := by
  rw [Bool.eq_iff_iff]; simp [Prod.ext_iff]

theorem RSameP_spec {a b : List Vr} {Aa Ab : Option Addr} {capa capb : Nat} {D D2 : Nat → Prop} {w : World} (ha : Sl prE w D Aa a) (hb : Sl prE w D2 Ab b) (hla : a.length ≤ 9223372036854775807) :
    CallR Tryd.prog 16 #[.slice Aa a.length capa, .slice Ab b.length capb] w fun v w' => v = .bool (decide (a = b)) ∧ Chg [] w w' := by
 refine callR_of_wp (args := [_, _]) Tryd.func16 rfl (Nat.le_of_ble_eq_true rfl) ?_
 have HC : Chg [] w w := .refl _
 refine sr rfl <| aB rfl <| en <| x_seq <| sr rfl <| mL rfl <| Wp rfl <| st_len (ct := #[41]) (by rw [show ((#[41] : Array TypeId)[0]?).bind Tryd.prog.underlying = some (.slice 46) from T.u41]; rfl) rfl <| mL rfl <| Wp rfl <| st_len (ct := #[41]) (by rw [show ((#[41] : Array TypeId)[0]?).bind Tryd.prog.underlying = some (.slice 46) from T.u41]; rfl) rfl <| Wp rfl <| st_neq rfl rfl <| en <| x_cond rfl (fun h0 => ?_) (fun h0 => ?_)
 ·try simp only [nm, ne_eq] at h0
  refine sr rfl <| aB rfl <| en <| x_ret <| then_r <| ret_tmp (v := .bool _) rfl rfl <| ⟨?_, HC⟩
  rw [decide_eq_false (fun e => h0 (by rw [e]))]
 ·try simp only [nm, ne_eq] at h0
  have hll : a.length = b.length := by omega
  refine x_skip <| then_n <| x_seq <| sr rfl <| aI rfl <| en <| x_block <| x_loop (ι := Nat) [4, 5, 11, 12, 13, 14, 15, 16, 17, 18, 19, 20, 21, 22, 23, 24, 25] (fun i => [(5, .int .i64 (i : Int))]) (fun i W => (i ≤ a.length ∧ a.take i = b.take i) ∧ (Chg [] w W) ∧ (Sl prE W D Aa a) ∧ (Sl prE W D2 Ab b)) (fun i => a.length - i) 0 ?_ ?_ ?_
  · exact ⟨rfl, trivial⟩
  ·refine ⟨?_, HC, ha, hb⟩
   exact ⟨Nat.zero_le _, rfl⟩
  intro i G2 w1 ⟨⟨hi, ht⟩, HC, ha, hb⟩
  change wp _ _ _ _ _ (upds (over _ _ G2) [(5, .int .i64 (i : Int))]) _ _
  refine x_seq <| sr rfl <| mI rfl <| mL rfl <| Wp rfl <| st_len (ct := #[41]) (by rw [show ((#[41] : Array TypeId)[0]?).bind Tryd.prog.underlying = some (.slice 46) from T.u41]; rfl) rfl <| Wp rfl <| st_lss rfl rfl <| en <| x_cond rfl (fun h1 => ?_) (fun h1 => ?_)
  ·try simp only [nm, ne_eq] at h1
   refine x_skip <| then_n <| x_seq <| x_block <| x_seq ?_
   obtain ⟨x3, hx4⟩ : ∃ zz, a[i]? = some zz := ⟨_, List.getElem?_eq_getElem (by omega)⟩
   obtain ⟨lb9, _, vs8, hA5, hR7, hC6⟩ := ha.at hx4
   obtain rfl : vs8 = [S x3.1, S x3.2] := hR7
   obtain ⟨x10, hx11⟩ : ∃ zz, b[i]? = some zz := ⟨_, List.getElem?_eq_getElem (by omega)⟩
   obtain ⟨lb16, _, vs15, hA12, hR14, hC13⟩ := hb.at hx11
   obtain rfl : vs15 = [S x10.1, S x10.2] := hR14
   refine x_draw [(0, 0), (1, 0), (2, 0), (3, 0), (4, 0), (5, 0), (6, 0), (7, 0), (8, 0)] T.mixed rfl rfl rfl (fun W => W.heap[lb9]? = w1.heap[lb9]? ∧ W.heap[lb16]? = w1.heap[lb16]? ∧ True) ⟨rfl, rfl, trivial⟩ ?_
   have c18 := Chg.drew w1
   generalize World.drew w1 = w17 at c18 ⊢
   have ht_lb9 : lb9 < w17.heap.size ∧ w17.heap[lb9]? = w1.heap[lb9]? := ⟨Nat.lt_of_lt_of_le hC6.lt c18.size, c18.block lb9 hC6.lt (by simp)⟩
   have ht_lb16 : lb16 < w17.heap.size ∧ w17.heap[lb16]? = w1.heap[lb16]? := ⟨Nat.lt_of_lt_of_le hC13.lt c18.size, c18.block lb16 hC13.lt (by simp)⟩
   replace HC := HC.then c18
   replace ha := ha.tr0 c18
   replace hb := hb.tr0 c18
   refine sq_q rfl (fun W hT => r_move (v := .slice _ _ _) rfl) <| sq_q rfl (fun W hT => r_move (v := .int _ _) rfl) <| sq_q rfl (fun W hT => r_indexAddr T.u41 T.size46 (congrArg (fun z => Value.slice z _ _) hA5) rfl (by omega) (by omega)) <| sq_q rfl (fun W hT => r_loadA (vs := [_, _]) T.agg46 rfl (Cells.tr hC6 hT.1) rfl) <| sq_q rfl (fun W hT => r_move (v := .slice _ _ _) rfl) <| sq_q rfl (fun W hT => r_move (v := .int _ _) rfl) <| sq_q rfl (fun W hT => r_indexAddr T.u41 T.size46 (congrArg (fun z => Value.slice z _ _) hA12) rfl (by omega) (by omega)) <| sq_q rfl (fun W hT => r_loadA (vs := [_, _]) T.agg46 rfl (Cells.tr hC13 hT.2.1) rfl) <| sq_q rfl (fun W hT => r_aneq (va := [_, _]) (vb := [_, _]) T.eq46 rfl rfl rfl) <| sq_nil <| then_n <| x_cond rfl (fun h2 => ?_) (fun h2 => ?_)
   ·try simp only [nm, ne_eq] at h2
    rw [pr_same] at h2
    refine sr rfl <| aB rfl <| en <| x_ret <| block_r <| then_r <| then_r <| block_r <| then_r <| ret_tmp (v := .bool _) rfl rfl <| ⟨?_, HC⟩
    rw [decide_eq_false (fun e => by subst e; have := hx4.symm.trans hx11; exact absurd (Option.some.inj this) (of_decide_eq_false h2))]
   ·try simp only [nm, ne_eq] at h2
    rw [pr_same] at h2
    refine x_skip <| block_n <| then_n <| x_region rfl <| mI rfl <| Wp rfl <| st_addn rfl rfl (by constructor <;> omega) <| aI rfl <| en <| ⟨i + 1, ?_, ?_, rfl, ⟨rfl, trivial⟩, ?_⟩
    ·refine ⟨?_, HC, ha, hb⟩
     exact ⟨by omega, take_same ht hx4 hx11 (of_decide_eq_true h2)⟩
    ·show a.length - (i + 1) < a.length - i; omega
    repeat (first | exact agree_upds agree_over rfl | refine agree_upd ?_ rfl | refine agree_upds ?_ rfl | refine agree_over_sub ?_ rfl)
  ·try simp only [nm, ne_eq] at h1
   refine x_exit <| then_x <| then_x <| block_x <| then_n <| sr rfl <| aB rfl <| en <| x_ret <| ret_tmp (v := .bool _) rfl rfl <| ⟨?_, HC⟩
   rw [decide_eq_true (by rw [List.take_of_length_le (by omega), List.take_of_length_le (by omega)] at ht; exact ht)]

def ax1 : Bytes := [120, 61, 51, 44]
def ax2 : Bytes := [40, 120, 61, 51, 41, 42, 120]
def ax3 : Bytes := [49, 124, 124, 40, 121, 61, 49, 41]
def ax4 : Bytes := [55, 47, 48]
def at2 : Tr := .bin [42] (.asg [61] [120] (.num 3)) (.var [120])
def at3 : Tr := .bin [124, 124] (.num 1) (.asg [61] [121] (.num 1))
def at4 : Tr := .bin [47] (.num 7) (.num 0)
theorem ax1_p : (parseV ax1 (toksF (ax1.length + 1) ax1 0)).2.2 = 101 := by kernel_rfl
theorem ax2_p : parseV ax2 (toksF (ax2.length + 1) ax2 0) = (at2.row 0, 0, 0) := by kernel_rfl
theorem ax3_p : parseV ax3 (toksF (ax3.length + 1) ax3 0) = (at3.row 0, 0, 0) := by kernel_rfl
theorem ax4_p : parseV ax4 (toksF (ax4.length + 1) ax4 0) = (at4.row 0, 0, 0) := by kernel_rfl
theorem at2_v : runV at2 [] = some (9, [([120], [51])], 0) := by kernel_rfl
theorem at3_v : runV at3 [] = some (1, [], 0) := by kernel_rfl
theorem at4_v : runV at4 [] = some (0, [], 103) := by kernel_rfl
theorem nm_ok {c : UInt8} (h : nameV [c] = true) : Tr.Nm [c] := ⟨h, by simp⟩
theorem at2_ok : at2.ok := ⟨by decide, ⟨by decide, nm_ok (by kernel_rfl), by decide, by decide⟩, nm_ok (by kernel_rfl)⟩
theorem at3_ok : at3.ok := ⟨by decide, ⟨by decide, by decide⟩, by decide, nm_ok (by kernel_rfl), by decide, by decide⟩
theorem at4_ok : at4.ok := ⟨by decide, ⟨by decide, by decide⟩, by decide, by decide⟩
theorem vk_nil : VK [] := ⟨List.Pairwise.nil, fun _ h => by cases h⟩

set_option maxHeartbeats 800000 in
theorem awake14_spec (w : World) (ht : Tab w) : CallR Tryd.prog 9 #[] w fun v w' => v = .bool true ∧ Chg [] w w' := by
 refine callR_of_wp (args := []) Tryd.func9 rfl (Nat.le_of_ble_eq_true rfl) ?_
 have HC : Chg [] w w := .refl _
 have ht1 := ht.lt
 refine sr rfl <| aB rfl <| en <| sr rfl <| Wp rfl <| st_call (ags := [_, _]) rfl rfl T.ent15 rfl (Eval_bad (vs := []) (Av := none) (cv := 0) (L := toksF (ax1.length + 1) ax1 0) ax1 rfl (by decide) (by rw [ax1_p]; decide) ht) ?_
 rintro vE1 w1 ⟨hE1, c2⟩
 rw [ax1_p] at hE1
 subst hE1
 replace HC := HC.then c2
 replace ht := ht.tr0 c2
 refine mv (v := .tuple ⟨[_, _, _]⟩) rfl <| Wp rfl <| st_extract (vs := [_, _, _]) (v := .int _ _) rfl rfl <| Wp rfl <| st_extract (vs := [_, _, _]) (v := .slice _ _ _) rfl rfl <| Wp rfl <| st_extract (vs := [_, _, _]) (v := .int _ _) rfl rfl <| aI rfl <| aL rfl <| aI rfl <| en <| sr rfl <| Wp rfl <| st_call (ags := [_, _]) rfl rfl T.ent15 rfl (Eval_run (vs := []) (Av := none) (cv := 0) (Dv := fun _ => True) (L := toksF (ax2.length + 1) ax2 0) ax2 at2 _ rfl (by decide) at2_ok (by decide) ax2_p Sl.nil (fun _ => rfl) vk_nil (by decide) at2_v ht) ?_
 rintro vE2 w3 ⟨⟨A2, cap2, hE2, hr2⟩, c4⟩
 replace hE2 : vE2 = .tuple ⟨[.int .i64 9, .slice A2 1 cap2, .int .i64 0]⟩ := hE2
 subst hE2
 replace hr2 : Sl prE _ (fun _ => True) A2 ([([120], [51])] : List Vr) := hr2
 replace HC := HC.then c4
 replace ht := ht.tr0 c4
 refine mv (v := .tuple ⟨[_, _, _]⟩) rfl <| Wp rfl <| st_extract (vs := [_, _, _]) (v := .int _ _) rfl rfl <| Wp rfl <| st_extract (vs := [_, _, _]) (v := .slice _ _ _) rfl rfl <| Wp rfl <| st_extract (vs := [_, _, _]) (v := .int _ _) rfl rfl <| aI rfl <| aL rfl <| aI rfl <| en <| sr rfl <| Wp rfl <| st_call (ags := [_, _]) rfl rfl T.ent15 rfl (Eval_run (vs := []) (Av := none) (cv := 0) (Dv := fun _ => True) (L := toksF (ax3.length + 1) ax3 0) ax3 at3 _ rfl (by decide) at3_ok (by decide) ax3_p Sl.nil (fun _ => rfl) vk_nil (by decide) at3_v ht) ?_
 rintro vE3 w5 ⟨⟨A3, cap3, hE3, hr3⟩, c6⟩
 replace hE3 : vE3 = .tuple ⟨[.int .i64 1, .slice A3 0 cap3, .int .i64 0]⟩ := hE3
 subst hE3
 clear hr3
 replace HC := HC.then c6
 replace ht := ht.tr0 c6
 replace hr2 := hr2.tr0 c6
 refine mv (v := .tuple ⟨[_, _, _]⟩) rfl <| Wp rfl <| st_extract (vs := [_, _, _]) (v := .int _ _) rfl rfl <| Wp rfl <| st_extract (vs := [_, _, _]) (v := .slice _ _ _) rfl rfl <| Wp rfl <| st_extract (vs := [_, _, _]) (v := .int _ _) rfl rfl <| aI rfl <| aL rfl <| aI rfl <| en <| sr rfl <| Wp rfl <| st_call (ags := [_, _]) rfl rfl T.ent15 rfl (Eval_run (vs := []) (Av := none) (cv := 0) (Dv := fun _ => True) (L := toksF (ax4.length + 1) ax4 0) ax4 at4 _ rfl (by decide) at4_ok (by decide) ax4_p Sl.nil (fun _ => rfl) vk_nil (by decide) at4_v ht) ?_
 rintro vE4 w7 ⟨⟨A4, cap4, hE4, hr4⟩, c8⟩
 replace hE4 : vE4 = .tuple ⟨[.int .i64 0, .slice A4 0 cap4, .int .i64 103]⟩ := hE4
 subst hE4
 clear hr4
 replace HC := HC.then c8
 replace ht := ht.tr0 c8
 replace hr2 := hr2.tr0 c8
 refine mv (v := .tuple ⟨[_, _, _]⟩) rfl <| Wp rfl <| st_extract (vs := [_, _, _]) (v := .int _ _) rfl rfl <| Wp rfl <| st_extract (vs := [_, _, _]) (v := .slice _ _ _) rfl rfl <| Wp rfl <| st_extract (vs := [_, _, _]) (v := .int _ _) rfl rfl <| aI rfl <| aL rfl <| aI rfl <| en <| sr rfl <| mI rfl <| Wp rfl <| st_eql rfl rfl <| mB rfl <| w_split (d := 35) rfl (fun g9 => ?_) (fun g9 => ?_)
 ·try simp only [nm, ne_eq] at g9
  refine w_yes 2 35 true <| st_move (v := .int _ _) rfl <| w_yes 2 35 true <| st_eql rfl rfl <| pT rfl rfl <| mB rfl <| w_split (d := 39) rfl (fun g10 => ?_) (fun g10 => ?_)
  ·try simp only [nm, ne_eq] at g10
   refine w_yes 6 39 true <| st_move (v := .int _ _) rfl <| w_yes 6 39 true <| st_eql rfl rfl <| pT rfl rfl <| mB rfl <| w_split (d := 43) rfl (fun g11 => ?_) (fun g11 => ?_)
   ·try simp only [nm, ne_eq] at g11
    refine w_yes 10 43 true <| st_move (v := .slice _ _ _) rfl <| w_yes 10 43 true <| st_bld (ps := [(0, .const (S [120])), (1, .const (S [51]))]) (vs := [S _, S _]) T.bld46 rfl <| w_yes 10 43 true <| st_lit (ps := [(0, .tmp 45)]) (vs := [S _, S _]) T.lit41 (by decide) rfl (by simp only [List.forall_mem_cons, List.not_mem_nil, false_imp_iff, implies_true, and_true]; exact rfl) rfl ?_
    intro b12 w13 e14 c15 hb16
    have ge_b12 : w.heap.size ≤ b12 := by rw [e14]; exact HC.size
    have nf_hr2_b12 : ([([120], [51])] : List Vr) = [] ∨ b12 ∉ ob (A2) := hr2.fresh (by rw [e14]; exact Nat.le_refl _)
    replace HC := HC.then c15
    replace ht := ht.tr0 c15
    replace hr2 := hr2.tr0 c15
    clear e14
    refine w_yes 10 43 true <| st_call (ags := [_, _]) rfl rfl T.ent16 rfl (RSameP_spec (a := [(([120], [51]) : Vr)]) (b := [(([120], [51]) : Vr)]) (Aa := A2) (capa := cap2) (Ab := some ⟨b12, 0, none⟩) (capb := 1) hr2 (Sl.of_one (c := prE) (x := (([120], [51]) : Vr)) (D := fun _ => True) hb16 rfl trivial) (by decide)) ?_
    rintro vS w17 ⟨hS, c18⟩
    rw [decide_eq_true rfl] at hS
    subst hS
    replace HC := HC.then c18
    replace ht := ht.tr0 c18
    replace hr2 := hr2.tr0 c18
    replace hb16 := hb16.tr0 c18
    refine pT rfl rfl <| mB rfl <| w_split (d := 49) rfl (fun g19 => ?_) (fun g19 => ?_)
    ·try simp only [nm, ne_eq] at g19
     refine w_yes 16 49 true <| st_move (v := .int _ _) rfl <| w_yes 16 49 true <| st_eql rfl rfl <| pT rfl rfl <| mB rfl <| w_split (d := 53) rfl (fun g20 => ?_) (fun g20 => ?_)
     ·try simp only [nm, ne_eq] at g20
      refine w_yes 20 53 true <| st_move (v := .slice _ _ _) rfl <| w_yes 20 53 true <| st_len (ct := #[41]) (by rw [show ((#[41] : Array TypeId)[0]?).bind Tryd.prog.underlying = some (.slice 46) from T.u41]; rfl) rfl <| w_yes 20 53 true <| st_eql rfl rfl <| pT rfl rfl <| mB rfl <| w_split (d := 58) rfl (fun g21 => ?_) (fun g21 => ?_)
      ·try simp only [nm, ne_eq] at g21
       refine w_yes 25 58 true <| st_move (v := .int _ _) rfl <| w_yes 25 58 true <| st_eql rfl rfl <| pT rfl rfl <| mB rfl <| w_split (d := 62) rfl (fun g22 => ?_) (fun g22 => ?_)
       ·try simp only [nm, ne_eq] at g22
        refine w_yes 29 62 true <| st_move (v := .int _ _) rfl <| w_yes 29 62 true <| st_eql rfl rfl <| pT rfl rfl <| aB rfl <| en <| x_ret <| ret_tmp (v := .bool _) rfl rfl ?_
        exact ⟨rfl, HC⟩
       ·try simp only [nm, ne_eq] at g22
        first | exact absurd rfl g22 | exact absurd trivial g22 | (simp at g22; done)
      ·try simp only [nm, ne_eq] at g21
       first | exact absurd rfl g21 | exact absurd trivial g21 | (simp at g21; done)
     ·try simp only [nm, ne_eq] at g20
      first | exact absurd rfl g20 | exact absurd trivial g20 | (simp at g20; done)
    ·try simp only [nm, ne_eq] at g19
     first | exact absurd rfl g19 | exact absurd trivial g19 | (simp at g19; done)
   ·try simp only [nm, ne_eq] at g11
    first | exact absurd rfl g11 | exact absurd trivial g11 | (simp at g11; done)
  ·try simp only [nm, ne_eq] at g10
   first | exact absurd rfl g10 | exact absurd trivial g10 | (simp at g10; done)
 ·try simp only [nm, ne_eq] at g9
  first | exact absurd rfl g9 | exact absurd trivial g9 | (simp at g9; done)

theorem AvalApplies_spec (op : Bytes) (a b : Int) (s : Bytes) (w : World) (hs : s.length ≤ 9223372036854775807) (ht : Tab w) : CallR Tryd.prog 3 #[S op, .int .i64 a, .int .i64 b, S s] w fun v w' => v = .bool true ∧ Chg [] w w' := by
 refine callR_of_wp (args := [_, _, _, _]) Tryd.func3 rfl (Nat.le_of_ble_eq_true rfl) ?_
 have HC : Chg [] w w := .refl _
 have ht1 := ht.lt
 refine sr rfl <| aB rfl <| en <| sr rfl <| mS rfl <| mI rfl <| mI rfl <| Wp rfl <| st_call (ags := [_, _, _]) rfl rfl T.ent5 rfl (Apply_spec _ _ _ _) ?_
 rintro _ w1 ⟨rfl, c2⟩
 replace HC := HC.then c2
 replace ht := ht.tr0 c2
 refine mv (v := .tuple ⟨[_, _]⟩) rfl <| Wp rfl <| st_extract (vs := [_, _]) (v := .int _ _) rfl rfl <| Wp rfl <| st_extract (vs := [_, _]) (v := .int _ _) rfl rfl <| aI rfl <| aI rfl <| en <| sr rfl <| mS rfl <| mI rfl <| mI rfl <| Wp rfl <| st_call (ags := [_, _, _]) rfl rfl T.ent6 rfl (RApply_spec _ _ _ _) ?_
 rintro _ w3 ⟨rfl, c4⟩
 replace HC := HC.then c4
 replace ht := ht.tr0 c4
 refine mv (v := .tuple ⟨[_, _]⟩) rfl <| Wp rfl <| st_extract (vs := [_, _]) (v := .int _ _) rfl rfl <| Wp rfl <| st_extract (vs := [_, _]) (v := .int _ _) rfl rfl <| aI rfl <| aI rfl <| en <| sr rfl <| mS rfl <| Wp rfl <| st_call (ags := [_]) rfl rfl T.ent7 rfl (Value_spec _ _ hs) ?_
 rintro _ w5 ⟨rfl, c6⟩
 replace HC := HC.then c6
 replace ht := ht.tr0 c6
 refine mv (v := .tuple ⟨[_, _]⟩) rfl <| Wp rfl <| st_extract (vs := [_, _]) (v := .int _ _) rfl rfl <| Wp rfl <| st_extract (vs := [_, _]) (v := .int _ _) rfl rfl <| aI rfl <| aI rfl <| en <| sr rfl <| mS rfl <| Wp rfl <| st_call (ags := [_]) rfl rfl T.ent8 rfl (RValue_spec _ _ hs) ?_
 rintro _ w7 ⟨rfl, c8⟩
 replace HC := HC.then c8
 replace ht := ht.tr0 c8
 refine mv (v := .tuple ⟨[_, _]⟩) rfl <| Wp rfl <| st_extract (vs := [_, _]) (v := .int _ _) rfl rfl <| Wp rfl <| st_extract (vs := [_, _]) (v := .int _ _) rfl rfl <| aI rfl <| aI rfl <| en <| sr rfl <| mI rfl <| mI rfl <| Wp rfl <| st_eql rfl rfl <| mB rfl <| w_split (d := 44) rfl (fun g9 => ?_) (fun g9 => ?_)
 ·try simp only [nm, ne_eq] at g9
  refine w_yes 3 44 true <| st_move (v := .int _ _) rfl <| w_yes 3 44 true <| st_move (v := .int _ _) rfl <| w_yes 3 44 true <| st_eql rfl rfl <| pT rfl rfl <| mB rfl <| w_split (d := 49) rfl (fun g10 => ?_) (fun g10 => ?_)
  ·try simp only [nm, ne_eq] at g10
   refine w_yes 8 49 true <| st_move (v := .int _ _) rfl <| w_yes 8 49 true <| st_move (v := .int _ _) rfl <| w_yes 8 49 true <| st_eql rfl rfl <| pT rfl rfl <| mB rfl <| w_split (d := 54) rfl (fun g11 => ?_) (fun g11 => ?_)
   ·try simp only [nm, ne_eq] at g11
    refine w_yes 13 54 true <| st_move (v := .int _ _) rfl <| w_yes 13 54 true <| st_move (v := .int _ _) rfl <| w_yes 13 54 true <| st_eql rfl rfl <| pT rfl rfl <| mB rfl <| w_split (d := 59) rfl (fun g12 => ?_) (fun g12 => ?_)
    ·try simp only [nm, ne_eq] at g12
     refine w_yes 18 59 true <| st_call (ags := []) rfl rfl T.ent9 rfl (awake14_spec _ ht) ?_
     rintro _ w13 ⟨rfl, c14⟩
     replace HC := HC.then c14
     replace ht := ht.tr0 c14
     refine pT rfl rfl <| aB rfl <| en <| x_ret <| ret_tmp (v := .bool _) rfl rfl ?_
     exact ⟨rfl, HC⟩
    ·try simp only [nm, ne_eq] at g12
     first | exact absurd rfl g12 | exact absurd trivial g12 | (simp at g12; done)
   ·try simp only [nm, ne_eq] at g11
    first | exact absurd rfl g11 | exact absurd trivial g11 | (simp at g11; done)
  ·try simp only [nm, ne_eq] at g10
   first | exact absurd rfl g10 | exact absurd trivial g10 | (simp at g10; done)
 ·try simp only [nm, ne_eq] at g9
  first | exact absurd rfl g9 | exact absurd trivial g9 | (simp at g9; done)

theorem div_law {a b : Int} (h0 : -9223372036854775808 ≤ a) (h1 : a ≤ 9223372036854775807) : IntKind.i64.wrap (IntKind.i64.wrap (IntKind.i64.wrap (a.tdiv b) * b) + a.tmod b) = a := by
  have h2 : IntKind.i64.wrap (a.tdiv b * b + a.tmod b) = a := by
    rw [Int.mul_comm, Int.mul_tdiv_add_tmod]; exact wrap64_id h0 h1
  simp only [wrap_i64_eq] at h2 ⊢
  rw [Int.bmod_mul_bmod, Int.bmod_add_bmod]; exact h2
theorem rem_law {a b : Int} (h : a.tmod b ≠ 0) : (decide (a.tmod b < 0) == decide (a < 0)) = true := by
  by_cases ha : a < 0
  · have h1 : 0 ≤ (-a).tmod b := Int.tmod_nonneg _ (by omega)
    rw [Int.neg_tmod] at h1
    rw [decide_eq_true ha, decide_eq_true (by omega)]; rfl
  · have h1 : 0 ≤ a.tmod b := Int.tmod_nonneg _ (by omega)
    rw [decide_eq_false ha, decide_eq_false (by omega)]; rfl

theorem AvalDivides_spec (a b : Int) (ha0 : -9223372036854775808 ≤ a) (ha1 : a ≤ 9223372036854775807) (w : World) (ht : Tab w) : CallR Tryd.prog 4 #[.int .i64 a, .int .i64 b] w fun v w' => v = .bool true ∧ Chg [] w w' := by
 refine callR_of_wp (args := [_, _]) Tryd.func4 rfl (Nat.le_of_ble_eq_true rfl) ?_
 have HC : Chg [] w w := .refl _
 have ht1 := ht.lt
 refine sr rfl <| aB rfl <| en <| x_seq ?_
 rcases Decidable.em (b = 0) with hb0 | hb0
 ·have hq : applyV [47] a b = (0, 103) := by simp [applyV, opNum, hb0]
  have hq2 : applyV [37] a b = (0, 103) := by simp [applyV, opNum, hb0]
  refine x_region rfl <| mI rfl <| mI rfl <| Wp rfl <| st_call (ags := [_, _, _]) rfl rfl T.ent5 rfl (Apply_spec [47] _ _ _) ?_
  rintro vA1 w1 ⟨hA1, c2⟩
  rw [hq] at hA1
  subst hA1
  replace HC := HC.then c2
  replace ht := ht.tr0 c2
  refine mv (v := .tuple ⟨[_, _]⟩) rfl <| Wp rfl <| st_extract (vs := [_, _]) (v := .int _ _) rfl rfl <| Wp rfl <| st_extract (vs := [_, _]) (v := .int _ _) rfl rfl <| aI rfl <| aI rfl <| en <| sr rfl <| mI rfl <| mI rfl <| Wp rfl <| st_call (ags := [_, _, _]) rfl rfl T.ent5 rfl (Apply_spec [37] _ _ _) ?_
  rintro vA2 w3 ⟨hA2, c4⟩
  rw [hq2] at hA2
  subst hA2
  replace HC := HC.then c4
  replace ht := ht.tr0 c4
  refine mv (v := .tuple ⟨[_, _]⟩) rfl <| Wp rfl <| st_extract (vs := [_, _]) (v := .int _ _) rfl rfl <| Wp rfl <| st_extract (vs := [_, _]) (v := .int _ _) rfl rfl <| aI rfl <| aI rfl <| en <| x_seq <| sr rfl <| mI rfl <| Wp rfl <| st_eql rfl rfl <| en <| x_cond rfl (fun h0 => ?_) (fun h0 => ?_)
  ·try simp only [nm, ne_eq] at h0
   refine sr rfl <| mI rfl <| Wp rfl <| st_eql rfl rfl <| mB rfl <| w_split (d := 29) rfl (fun g5 => ?_) (fun g5 => ?_)
   ·try simp only [nm, ne_eq] at g5
    refine w_yes 2 29 true <| st_move (v := .int _ _) rfl <| w_yes 2 29 true <| st_eql rfl rfl <| pT rfl rfl <| mB rfl <| w_split (d := 33) rfl (fun g6 => ?_) (fun g6 => ?_)
    ·try simp only [nm, ne_eq] at g6
     refine w_yes 6 33 true <| st_call (ags := []) rfl rfl T.ent9 rfl (awake14_spec _ ht) ?_
     rintro _ w7 ⟨rfl, c8⟩
     replace HC := HC.then c8
     replace ht := ht.tr0 c8
     refine pT rfl rfl <| aB rfl <| en <| x_ret <| then_r <| ret_tmp (v := .bool _) rfl rfl ?_
     exact ⟨rfl, HC⟩
    ·try simp only [nm, ne_eq] at g6
     first | exact absurd rfl g6 | exact absurd trivial g6 | (simp at g6; done)
   ·try simp only [nm, ne_eq] at g5
    first | exact absurd rfl g5 | exact absurd trivial g5 | (simp at g5; done)
  ·try simp only [nm, ne_eq] at h0
   exact absurd hb0 h0
 ·have hq : applyV [47] a b = (IntKind.i64.wrap (a.tdiv b), 0) := by simp [applyV, opNum, hb0]
  have hq2 : applyV [37] a b = (a.tmod b, 0) := by simp [applyV, opNum, hb0]
  have hq3 : ∀ x, applyV [42] x b = (IntKind.i64.wrap (x * b), 0) := fun x => by simp [applyV, opNum]
  have hq4 : ∀ x y, applyV [43] x y = (IntKind.i64.wrap (x + y), 0) := fun x y => by simp [applyV, opNum]
  refine x_region rfl <| mI rfl <| mI rfl <| Wp rfl <| st_call (ags := [_, _, _]) rfl rfl T.ent5 rfl (Apply_spec [47] _ _ _) ?_
  rintro vA1 w9 ⟨hA1, c10⟩
  rw [hq] at hA1
  subst hA1
  replace HC := HC.then c10
  replace ht := ht.tr0 c10
  refine mv (v := .tuple ⟨[_, _]⟩) rfl <| Wp rfl <| st_extract (vs := [_, _]) (v := .int _ _) rfl rfl <| Wp rfl <| st_extract (vs := [_, _]) (v := .int _ _) rfl rfl <| aI rfl <| aI rfl <| en <| sr rfl <| mI rfl <| mI rfl <| Wp rfl <| st_call (ags := [_, _, _]) rfl rfl T.ent5 rfl (Apply_spec [37] _ _ _) ?_
  rintro vA2 w11 ⟨hA2, c12⟩
  rw [hq2] at hA2
  subst hA2
  replace HC := HC.then c12
  replace ht := ht.tr0 c12
  refine mv (v := .tuple ⟨[_, _]⟩) rfl <| Wp rfl <| st_extract (vs := [_, _]) (v := .int _ _) rfl rfl <| Wp rfl <| st_extract (vs := [_, _]) (v := .int _ _) rfl rfl <| aI rfl <| aI rfl <| en <| x_seq <| sr rfl <| mI rfl <| Wp rfl <| st_eql rfl rfl <| en <| x_cond rfl (fun h0 => ?_) (fun h0 => ?_)
  ·try simp only [nm, ne_eq] at h0
   exact absurd h0 hb0
  ·try simp only [nm, ne_eq] at h0
   refine x_skip <| then_n <| sr rfl <| mI rfl <| mI rfl <| Wp rfl <| st_call (ags := [_, _, _]) rfl rfl T.ent5 rfl (Apply_spec [42] _ _ _) ?_
   rintro vA3 w13 ⟨hA3, c14⟩
   rw [hq3] at hA3
   subst hA3
   replace HC := HC.then c14
   replace ht := ht.tr0 c14
   refine mv (v := .tuple ⟨[_, _]⟩) rfl <| Wp rfl <| st_extract (vs := [_, _]) (v := .int _ _) rfl rfl <| Wp rfl <| st_extract (vs := [_, _]) (v := .int _ _) rfl rfl <| aI rfl <| aI rfl <| en <| sr rfl <| mI rfl <| mI rfl <| Wp rfl <| st_call (ags := [_, _, _]) rfl rfl T.ent5 rfl (Apply_spec [43] _ _ _) ?_
   rintro vA4 w15 ⟨hA4, c16⟩
   rw [hq4] at hA4
   subst hA4
   replace HC := HC.then c16
   replace ht := ht.tr0 c16
   refine mv (v := .tuple ⟨[_, _]⟩) rfl <| Wp rfl <| st_extract (vs := [_, _]) (v := .int _ _) rfl rfl <| Wp rfl <| st_extract (vs := [_, _]) (v := .int _ _) rfl rfl <| aI rfl <| aI rfl <| en <| sr rfl <| mI rfl <| Wp rfl <| st_eql rfl rfl <| mB rfl <| w_split (d := 50) rfl (fun g17 => ?_) (fun g17 => ?_)
   ·try simp only [nm, ne_eq] at g17
    refine w_yes 2 50 true <| st_move (v := .int _ _) rfl <| w_yes 2 50 true <| st_eql rfl rfl <| pT rfl rfl <| mB rfl <| w_split (d := 54) rfl (fun g18 => ?_) (fun g18 => ?_)
    ·try simp only [nm, ne_eq] at g18
     refine w_yes 6 54 true <| st_move (v := .int _ _) rfl <| w_yes 6 54 true <| st_eql rfl rfl <| pT rfl rfl <| mB rfl <| w_split (d := 58) rfl (fun g19 => ?_) (fun g19 => ?_)
     ·try simp only [nm, ne_eq] at g19
      refine w_yes 10 58 true <| st_move (v := .int _ _) rfl <| w_yes 10 58 true <| st_eql rfl rfl <| pT rfl rfl <| mB rfl <| w_split (d := 62) rfl (fun g20 => ?_) (fun g20 => ?_)
      ·try simp only [nm, ne_eq] at g20
       refine w_yes 14 62 true <| st_move (v := .int _ _) rfl <| w_yes 14 62 true <| st_move (v := .int _ _) rfl <| w_yes 14 62 true <| st_eql rfl rfl <| pT rfl rfl <| mB rfl <| w_split (d := 67) rfl (fun g21 => ?_) (fun g21 => ?_)
       ·try simp only [nm, ne_eq] at g21
        refine w_yes 19 67 true <| st_move (v := .int _ _) rfl <| w_yes 19 67 true <| st_eql rfl rfl <| w_yes 19 67 true <| st_move (v := .bool _) rfl <| w_split (d := 70) rfl (fun g22 => ?_) (fun g22 => ?_)
        ·try simp only [nm, ne_eq] at g22
         iterate 5 refine w_no 22 70 false ?_
         refine w_yes 19 67 true <| st_pick (b := true) (v := .bool _) rfl rfl <| pT rfl rfl <| mB rfl <| w_yes 30 78 true <| st_call (ags := []) rfl rfl T.ent9 rfl (awake14_spec _ ht) ?_
         rintro _ w23 ⟨rfl, c24⟩
         replace HC := HC.then c24
         replace ht := ht.tr0 c24
         refine pT rfl rfl <| aB rfl <| en <| x_ret <| ret_tmp (v := .bool _) rfl rfl ?_
         exact ⟨rfl, HC⟩
        ·try simp only [nm, ne_eq] at g22
         refine w_yes 22 70 false <| st_move (v := .int _ _) rfl <| w_yes 22 70 false <| st_lss rfl rfl <| w_yes 22 70 false <| st_move (v := .int _ _) rfl <| w_yes 22 70 false <| st_lss rfl rfl <| w_yes 22 70 false <| st_beql T.u4 rfl rfl <| w_yes 19 67 true <| st_pick (b := false) (v := .bool _) rfl rfl <| pT rfl rfl <| mB rfl <| w_split (d := 78) rfl (fun g25 => ?_) (fun g25 => ?_)
         ·try simp only [nm, ne_eq] at g25
          refine w_yes 30 78 true <| st_call (ags := []) rfl rfl T.ent9 rfl (awake14_spec _ ht) ?_
          rintro _ w26 ⟨rfl, c27⟩
          replace HC := HC.then c27
          replace ht := ht.tr0 c27
          refine pT rfl rfl <| aB rfl <| en <| x_ret <| ret_tmp (v := .bool _) rfl rfl ?_
          exact ⟨rfl, HC⟩
         ·try simp only [nm, ne_eq] at g25
          first | exact absurd (rem_law (by assumption)) (by rw [g25]; simp) | exact absurd (rem_law (by assumption)) (by simpa using g25)
       ·try simp only [nm, ne_eq] at g21
        exact absurd (div_law ha0 ha1) g21
      ·try simp only [nm, ne_eq] at g20
       first | exact absurd rfl g20 | exact absurd trivial g20 | (simp at g20; done)
     ·try simp only [nm, ne_eq] at g19
      first | exact absurd rfl g19 | exact absurd trivial g19 | (simp at g19; done)
    ·try simp only [nm, ne_eq] at g18
     first | exact absurd rfl g18 | exact absurd trivial g18 | (simp at g18; done)
   ·try simp only [nm, ne_eq] at g17
    first | exact absurd rfl g17 | exact absurd trivial g17 | (simp at g17; done)

end Go.Proofs.YtmbbhgglllfelaaDoor.K
