import Derived.Test.YtmbbhgglllfelaaGreatDoorDa
import Derived.Test.YtmbbhgglllfelaaGreatDoorDc
import Derived.Test.YtmbbhgglllfelaaGreatDoorTree
import Derived.Test.YtmbbhgglllfelaaGreatDoorGt
set_option linter.unusedVariables false
set_option linter.unusedSimpArgs false
set_option autoImplicit false
set_option maxRecDepth 20000
namespace Go.Proofs.YtmbbhgglllfelaaGreatDoor.K
open Go Go.Proofs Go.RowKit
open Tr
/-- Variables that a law lets in. -/
def Gd (vs : List Vr) : Prop := Rise vs ∧ (∀ p, p ∈ vs → p.1.length + p.2.length ≤ 300) ∧ vs.length ≤ 100
theorem gd_vk {vs : List Vr} (h : Gd vs) : VK vs := ⟨h.1, fun p hp => by have := h.2.1 p hp; omega⟩
theorem rise_snoc {vs : List Vr} {i : Nat} {x : Vr} (h : Rise (vs.take i)) (hx : vs[i]? = some x) (hl : 0 < i → ∀ y, vs[i - 1]? = some y → Op.bytesLess y.1 x.1 = true) : Rise (vs.take (i + 1)) := by
  rw [← take_snoc hx]
  refine List.pairwise_append.2 ⟨h, List.pairwise_singleton _ _, fun a ha b hb => ?_⟩
  rw [List.mem_singleton.1 hb]
  obtain ⟨j, hj⟩ := List.getElem?_of_mem ha
  have hjl : j < (vs.take i).length := (List.getElem?_eq_some_iff.1 hj).1
  rw [List.length_take] at hjl
  have hi : 0 < i := by omega
  have hxl := (List.getElem?_eq_some_iff.1 hx).1
  obtain ⟨y, hy⟩ : ∃ y, vs[i - 1]? = some y := ⟨_, List.getElem?_eq_getElem (by omega)⟩
  have h2 := hl hi y hy
  by_cases e : j = i - 1
  · rw [List.getElem?_take, if_pos (by omega), e, hy] at hj; cases hj; exact h2
  · exact less_trans _ _ _ (rise_lt h (i := j) (j := i - 1) (by omega) hj (by rw [List.getElem?_take, if_pos (by omega)]; exact hy)) h2

theorem good_spec {vs : List Vr} {Av : Option Addr} {cv : Nat} {Dv : Nat → Prop} {w : World} (hv : Sl prE w Dv Av vs) (hl : vs.length ≤ 1000000000000000) (hsz : ∀ p, p ∈ vs → p.1.length ≤ 1000000000000000 ∧ p.2.length ≤ 1000000000000000) : CallR Tryz.prog 6 #[.slice Av vs.length cv] w fun v w' => (∃ g, v = .bool g ∧ (g = true → Gd vs)) ∧ Chg [] w w' := by
 replace hv := hv.mono (D' := fun k => k < w.heap.size) (fun k hk _ => hk)
 refine callR_of_wp (args := [_]) Tryz.func6 rfl (Nat.le_of_ble_eq_true rfl) ?_
 have HC : Chg [] w w := .refl _
 refine sr rfl <| aB rfl <| en <| x_seq <| sr rfl <| mL rfl <| Wp rfl <| st_len (ct := #[22]) (by rw [show ((#[22] : Array TypeId)[0]?).bind Tryz.prog.underlying = some (.slice 42) from T.u22]; rfl) rfl <| mI rfl <| en <| x_block <| x_loop (ι := Nat) [2, 3, 4, 7, 8, 9, 10, 11, 12, 13, 14, 15, 16, 17, 18, 19, 20, 21, 22, 23, 24, 25, 26, 27, 28, 29, 30, 31, 32, 33, 34, 35] (fun i => [(7, .int .i64 (i : Int))]) (fun i W => (i ≤ vs.length ∧ Rise (vs.take i) ∧ (∀ p, p ∈ vs.take i → p.1.length + p.2.length ≤ 300)) ∧ (Chg [] w W) ∧ (Sl prE W (fun k => k < w.heap.size) Av vs)) (fun i => vs.length - i) 0 ?_ ?_ ?_
 · exact ⟨rfl, trivial⟩
 ·refine ⟨?_, HC, hv⟩
  exact ⟨Nat.zero_le _, List.Pairwise.nil, fun p hp => by simp at hp⟩
 intro i G2 w1 ⟨⟨hi, hri, hle⟩, HC, hv⟩
 change wp _ _ _ _ _ (upds (over _ _ G2) [(7, .int .i64 (i : Int))]) _ _
 refine sr rfl <| Wp rfl <| st_lss rfl rfl <| en <| x_seq <| x_cond rfl (fun h0 => ?_) (fun h0 => ?_)
 ·try simp only [nm, ne_eq] at h0
  obtain ⟨x, hxi⟩ : ∃ x, vs[i]? = some x := ⟨_, List.getElem?_eq_getElem (by omega)⟩
  obtain ⟨hz1, hz2⟩ := hsz x (List.mem_of_getElem? hxi)
  refine x_skip <| then_n <| x_seq <| x_block <| sr rfl <| mI rfl ?_
  obtain ⟨lb7, _, vs6, hA3, hR5, hC4⟩ := hv.at (i := i) (x := x) (hxi)
  obtain rfl : vs6 = [S x.1, S x.2] := hR5
  refine Wp rfl <| st_indexAddr T.u22 T.size42 (congrArg (fun z => Value.slice z _ _) hA3) rfl (by omega) (by omega) <| Wp rfl <| st_loadA (vs := [_, _]) T.agg42 rfl hC4 rfl <| Wp rfl <| st_alloc T.zero42 ?_
  intro b4 w8 e9 c10 hb11
  have ge_b4 : w.heap.size ≤ b4 := by rw [e9]; exact HC.size
  have nf_hv_b4 : vs = [] ∨ b4 ∉ ob (Av) := hv.fresh (by rw [e9]; exact Nat.le_refl _)
  replace HC := HC.then c10
  replace hv := hv.tr0 c10
  clear e9
  refine aI rfl <| Wp rfl <| st_store (v := .agg ⟨[S _, S _]⟩) T.size42 rfl rfl rfl hb11 rfl (Nat.le_of_ble_eq_true rfl) (by simp [Value.oneCell', S]) rfl ?_
  intro w12 c13 hb14; simp only [setVs, setV] at hb14
  clear hb11
  replace HC := HC.then1 c13 ge_b4
  replace hv := hv.trF flat_flat c13 (by intro k hx; simp only [List.mem_singleton] at hx; subst hx; exact nf_hv_b4)
  refine en <| x_seq ?_
  rcases Nat.eq_zero_or_pos i with hz | hz
  ·refine x_draw [(0, 0), (1, 0), (2, 0), (3, 0), (4, 0), (5, 0), (6, 0), (7, 0), (8, 0), (9, 0), (10, 0), (11, 0), (12, 0), (13, 0), (14, 0), (15, 0), (16, 0), (17, 0), (18, 0), (19, 0), (20, 0), (21, 0), (22, 0)] T.mixed rfl rfl rfl (fun W => W.heap[b4]? = w12.heap[b4]? ∧ True) ⟨rfl, trivial⟩ ?_
   have o17 := hb14
   have c16 := Chg.drew w12
   generalize World.drew w12 = w15 at c16 ⊢
   replace HC := HC.then c16
   replace hv := hv.tr0 c16
   replace hb14 := hb14.tr0 c16
   refine sq_q rfl (fun W hT => r_move (v := .int _ _) rfl) <| sq_q rfl (fun W hT => r_gtr rfl rfl) <| sq_q rfl (fun W hT => r_move (v := .bool _) rfl) <| sq_split (d := 14) rfl (fun g18 => ?_) (fun g18 => ?_)
   ·try simp only [nm, ne_eq] at g18
    exfalso; omega
   ·try simp only [nm, ne_eq] at g18
    refine sq_no rfl rfl <| sq_no rfl rfl <| sq_no rfl rfl <| sq_no rfl rfl <| sq_no rfl rfl <| sq_no rfl rfl <| sq_no rfl rfl <| sq_no rfl rfl <| sq_no rfl rfl <| sq_q rfl (fun W hT => r_pick (b := false) (v := .bool _) rfl rfl) <| sq_q rfl (fun W hT => r_move (v := .bool _) rfl) <| sq_q rfl (fun W hT => r_fieldAddr T.fld42_0 rfl) <| sq_q rfl (fun W hT => r_load1 (v := S _) T.one9 rfl (Blk.cell (show Blk W b4 _ _ from hT.1.trans o17) rfl)) <| sq_q rfl (fun W hT => r_slen (ct := #[9]) T.u9 rfl) <| sq_q rfl (fun W hT => r_fieldAddr T.fld42_1 rfl) <| sq_q rfl (fun W hT => r_load1 (v := S _) T.one9 rfl (Blk.cell (show Blk W b4 _ _ from hT.1.trans o17) rfl)) <| sq_q rfl (fun W hT => r_slen (ct := #[9]) T.u9 rfl) <| sq_q rfl (fun W hT => r_addn rfl rfl (by constructor <;> omega)) <| sq_q rfl (fun W hT => r_gtr rfl rfl) <| sq_q rfl (fun W hT => r_pick (b := false) (v := .bool _) rfl rfl) ?_
    clear o17
    refine sq_nil <| then_n <| x_cond rfl (fun h1 => ?_) (fun h1 => ?_)
    ·try simp only [nm, ne_eq] at h1
     refine sr rfl <| aB rfl <| en <| x_ret <| block_r <| then_r <| then_r <| block_r <| then_r <| ret_tmp (v := .bool _) rfl rfl ?_
     exact ⟨⟨_, rfl, fun h => by cases h⟩, HC⟩
    ·try simp only [nm, ne_eq] at h1
     refine x_skip <| block_n <| then_n <| x_region rfl <| Wp rfl <| st_addn rfl rfl (by constructor <;> omega) <| mI rfl <| en <| ⟨i + 1, ?_, ?_, rfl, ⟨rfl, trivial⟩, ?_⟩
     ·refine ⟨?_, HC, hv⟩
      exact ⟨by omega, rise_snoc hri hxi (fun h0 y hy => by omega), fun p hp => by rw [← take_snoc hxi] at hp; rcases List.mem_append.1 hp with hp | hp; exact hle p hp; rw [List.mem_singleton.1 hp]; omega⟩
     ·show vs.length - (i + 1) < vs.length - i; omega
     repeat (first | exact agree_upds agree_over rfl | refine agree_upd ?_ rfl | refine agree_upds ?_ rfl | refine agree_over_sub ?_ rfl)
  ·obtain ⟨yp, hyp⟩ : ∃ y, vs[i - 1]? = some y := ⟨_, List.getElem?_eq_getElem (by omega)⟩
   obtain ⟨lb23, _, vs22, hA19, hR21, hC20⟩ := hv.at (i := (i - 1)) (x := yp) (hyp)
   obtain rfl : vs22 = [S yp.1, S yp.2] := hR21
   refine x_draw [(0, 0), (1, 0), (2, 0), (3, 0), (4, 0), (5, 0), (6, 0), (7, 0), (8, 0), (9, 0), (10, 0), (11, 0), (12, 0), (13, 0), (14, 0), (15, 0), (16, 0), (17, 0), (18, 0), (19, 0), (20, 0), (21, 0), (22, 0)] T.mixed rfl rfl rfl (fun W => W.heap[b4]? = w12.heap[b4]? ∧ W.heap[lb23]? = w12.heap[lb23]? ∧ True) ⟨rfl, rfl, trivial⟩ ?_
   have o26 := hb14
   have c25 := Chg.drew w12
   generalize World.drew w12 = w24 at c25 ⊢
   have ht_lb23 : lb23 < w24.heap.size ∧ w24.heap[lb23]? = w12.heap[lb23]? := ⟨Nat.lt_of_lt_of_le hC20.lt c25.size, c25.block lb23 hC20.lt (by simp)⟩
   replace HC := HC.then c25
   replace hv := hv.tr0 c25
   replace hb14 := hb14.tr0 c25
   refine sq_q rfl (fun W hT => r_move (v := .int _ _) rfl) <| sq_q rfl (fun W hT => r_gtr rfl rfl) <| sq_q rfl (fun W hT => r_move (v := .bool _) rfl) <| sq_split (d := 14) rfl (fun g27 => ?_) (fun g27 => ?_)
   ·try simp only [nm, ne_eq] at g27
    refine sq_q rfl (fun W hT => r_move (v := .slice _ _ _) rfl) <| sq_q rfl (fun W hT => r_move (v := .int _ _) rfl) <| sq_q rfl (fun W hT => r_subk rfl rfl (by exact (show IntKind.i64.wrap _ = ((i - 1 : Nat) : Int) by rw [wrap64_id (by omega) (by omega)]; omega))) <| sq_q rfl (fun W hT => r_indexAddr T.u22 T.size42 (congrArg (fun z => Value.slice z _ _) hA19) rfl (by omega) (by omega)) <| sq_q rfl (fun W hT => r_fieldAddr T.fld42_0 rfl) <| sq_q rfl (fun W hT => r_load1 (v := S _) T.one9 rfl (Cells.at (j := 0) (Cells.tr hC20 hT.2.1) rfl)) <| sq_q rfl (fun W hT => r_fieldAddr T.fld42_0 rfl) <| sq_q rfl (fun W hT => r_load1 (v := S _) T.one9 rfl (Blk.cell (show Blk W b4 _ _ from hT.1.trans o26) rfl)) <| sq_q rfl (fun W hT => r_sgeq rfl rfl) <| sq_q rfl (fun W hT => r_pick (b := true) (v := .bool _) rfl rfl) <| sq_q rfl (fun W hT => r_move (v := .bool _) rfl) <| sq_split (d := 25) rfl (fun g28 => ?_) (fun g28 => ?_)
    ·try simp only [nm, ne_eq] at g28
     refine sq_no rfl rfl <| sq_no rfl rfl <| sq_no rfl rfl <| sq_no rfl rfl <| sq_no rfl rfl <| sq_no rfl rfl <| sq_no rfl rfl <| sq_no rfl rfl <| sq_q rfl (fun W hT => r_pick (b := true) (v := .bool _) rfl rfl) ?_
     clear o26
     refine sq_nil <| then_n <| x_cond (t := true) rfl (fun h1 => ?_) (fun h1 => ?_)
     rotate_left
     · exact absurd h1 (by decide)
     refine sr rfl <| aB rfl <| en <| x_ret <| block_r <| then_r <| then_r <| block_r <| then_r <| ret_tmp (v := .bool _) rfl rfl ?_
     exact ⟨⟨_, rfl, fun h => by cases h⟩, HC⟩
    ·try simp only [nm, ne_eq] at g28
     have hls : Op.bytesLess yp.1 x.1 = true := (by assumption)
     refine sq_q rfl (fun W hT => r_fieldAddr T.fld42_0 rfl) <| sq_q rfl (fun W hT => r_load1 (v := S _) T.one9 rfl (Blk.cell (show Blk W b4 _ _ from hT.1.trans o26) rfl)) <| sq_q rfl (fun W hT => r_slen (ct := #[9]) T.u9 rfl) <| sq_q rfl (fun W hT => r_fieldAddr T.fld42_1 rfl) <| sq_q rfl (fun W hT => r_load1 (v := S _) T.one9 rfl (Blk.cell (show Blk W b4 _ _ from hT.1.trans o26) rfl)) <| sq_q rfl (fun W hT => r_slen (ct := #[9]) T.u9 rfl) <| sq_q rfl (fun W hT => r_addn rfl rfl (by constructor <;> omega)) <| sq_q rfl (fun W hT => r_gtr rfl rfl) <| sq_q rfl (fun W hT => r_pick (b := false) (v := .bool _) rfl rfl) ?_
     clear o26
     refine sq_nil <| then_n <| x_cond rfl (fun h1 => ?_) (fun h1 => ?_)
     ·try simp only [nm, ne_eq] at h1
      refine sr rfl <| aB rfl <| en <| x_ret <| block_r <| then_r <| then_r <| block_r <| then_r <| ret_tmp (v := .bool _) rfl rfl ?_
      exact ⟨⟨_, rfl, fun h => by cases h⟩, HC⟩
     ·try simp only [nm, ne_eq] at h1
      refine x_skip <| block_n <| then_n <| x_region rfl <| Wp rfl <| st_addn rfl rfl (by constructor <;> omega) <| mI rfl <| en <| ⟨i + 1, ?_, ?_, rfl, ⟨rfl, trivial⟩, ?_⟩
      ·refine ⟨?_, HC, hv⟩
       exact ⟨by omega, rise_snoc hri hxi (fun h0 y hy => by obtain rfl := Option.some.inj (hyp.symm.trans hy); exact hls), fun p hp => by rw [← take_snoc hxi] at hp; rcases List.mem_append.1 hp with hp | hp; exact hle p hp; rw [List.mem_singleton.1 hp]; omega⟩
      ·show vs.length - (i + 1) < vs.length - i; omega
      repeat (first | exact agree_upds agree_over rfl | refine agree_upd ?_ rfl | refine agree_upds ?_ rfl | refine agree_over_sub ?_ rfl)
   ·try simp only [nm, ne_eq] at g27
    exfalso; omega
 ·try simp only [nm, ne_eq] at h0
  refine x_exit <| then_x <| then_x <| block_x <| then_n <| sr rfl <| mL rfl <| Wp rfl <| st_len (ct := #[22]) (by rw [show ((#[22] : Array TypeId)[0]?).bind Tryz.prog.underlying = some (.slice 42) from T.u22]; rfl) rfl <| Wp rfl <| st_leq rfl rfl <| aB rfl <| en <| x_ret <| ret_tmp (v := .bool _) rfl rfl ?_
  have hil : i = vs.length := by omega
  rw [hil, List.take_length] at hri hle
  exact ⟨⟨_, rfl, fun h => ⟨hri, hle, by have h9 : (vs.length : Int) ≤ 100 := (by simpa using h); omega⟩⟩, HC⟩

end Go.Proofs.YtmbbhgglllfelaaGreatDoor.K
set_option linter.unusedVariables false
set_option linter.unusedSimpArgs false
set_option autoImplicit false
set_option maxRecDepth 20000
namespace Go.Proofs.YtmbbhgglllfelaaGreatDoor.K
open Go Go.Proofs Go.RowKit
open Tr
theorem tree_p {s : Bytes} {L : List Yd} {t : Tr} (h : (parseV s L).1 = t.row 0) (h2 : (parseV s L).2.2 = 0) : parseV s L = (t.row 0, 0, 0) := by
  have hne : (parseV s L).1 ≠ [] := by
    rw [h]; intro e
    have h1 := Tr.row_len t 0
    have h2 := t.sz_pos
    rw [e] at h1; simp at h1; omega
  have h3 : (parseV s L).2.1 = 0 := by
    unfold parseV at hne ⊢
    by_cases c : ¬ (tokV L).2.2 = 0
    · rw [if_pos c] at hne; exact absurd rfl hne
    · rw [if_neg c] at hne ⊢
      cases hw : wI (pP (fuelP (tokV L).1)) .asg 0 (tokV L).1 [] with
      | none => rfl
      | some q =>
        rw [hw] at hne
        cases q with
        | bad e a => exact absurd rfl hne
        | good k ts out =>
          dsimp only at hne ⊢
          by_cases c2 : ¬ (hdT ts).1.1 = 0
          · rw [if_pos c2] at hne; exact absurd rfl hne
          · rw [if_neg c2] at hne ⊢
            by_cases c3 : 1000 < out.length
            · rw [if_pos c3] at hne; exact absurd rfl hne
            · rw [if_neg c3]
  exact Prod.ext h (Prod.ext h3 h2)

end Go.Proofs.YtmbbhgglllfelaaGreatDoor.K
set_option linter.unusedVariables false
set_option linter.unusedSimpArgs false
set_option autoImplicit false
set_option maxRecDepth 20000
namespace Go.Proofs.YtmbbhgglllfelaaGreatDoor.K
open Go Go.Proofs Go.RowKit Tr
/-! ### digits -/
theorem num_dec : ∀ (m n : Nat) (z : Bytes), n ≤ 9223372036854775807 → NumI 10 n m z → (0 < m ∨ z = []) → NumI 10 n 0 (decT m ++ z)
  | m, n, z, hn, h, hc => by
    have hs := h.step (by omega) (by omega) hn hc
    rw [decT]
    by_cases h10 : m < 10
    · rw [dif_pos h10]
      rw [Nat.div_eq_of_lt h10, Nat.mod_eq_of_lt h10] at hs
      exact hs
    · rw [dif_neg h10, List.append_assoc]
      exact num_dec (m / 10) n _ hn hs (.inl (by omega))
termination_by m => m
decreasing_by omega
theorem decT_ne (n : Nat) : decT n ≠ [] := by
  rw [decT]; split <;> simp
theorem dec_num {n : Nat} (hn : n ≤ 9223372036854775807) : constV (decT n) = ((n : Int), true) ∧ digB (byte (decT n) 0) = true ∧ (decT n).all wordB = true := by
  have h := num_dec n n [] hn (NumI.start 10 n) (.inr rfl)
  rw [List.append_nil] at h
  exact number_10 hn h (decT_ne n)
theorem byte_app0 {a b : Bytes} (h : a ≠ []) : byte (a ++ b) 0 = byte a 0 := by
  cases a with
  | nil => exact absurd rfl h
  | cons c a => rfl
theorem next_dec {n : Nat} {r : Bytes} (hn : n ≤ 9223372036854775807) (hr : runN wordB r = 0) : nextV (decT n ++ r) = ((1, (n : Int), []), (((decT n).length : Nat) : Int), 0) := by
  obtain ⟨h1, h2, h3⟩ := dec_num hn
  have hl := runN_app (t := r) h3
  rw [hr, Nat.add_zero] at hl
  have hp := List.length_pos_iff.2 (decT_ne n)
  have := next_num (s := decT n ++ r) (i := 0) (W := decT n) (by rw [List.length_append]; omega) (by rw [byte_app0 (decT_ne n)]; exact h2) (by rw [List.drop_zero, hl, List.take_left]) (by rw [h1])
  rw [List.drop_zero, hl, h1] at this; exact this
/-! ### operators -/
theorem find_congr {q q' : Bytes → Bool} : ∀ (l : List Bytes), (∀ p, p ∈ l → q p = q' p) → l.find? q = l.find? q'
  | [], _ => rfl
  | x :: l, h => by rw [List.find?_cons, List.find?_cons, h x (by simp), find_congr l (fun p hp => h p (by simp [hp]))]
theorem op_same {o r : Bytes} (h : ∀ p, p ∈ opsL → Lib.hasPrefix (o ++ r) p = Lib.hasPrefix o p) : opV (o ++ r) = opV o := by unfold opV; rw [find_congr _ h]
theorem ops_all : (opsL.all fun o => decide (o ≠ []) && !(digB (byte o 0)) && !(begB (byte o 0)) && !(blankB (byte o 0)) && decide (opV o = o) && (o.drop 1).all (fun c => decide (c ≠ 40) && !(wordB c)) && (!([40, 41, 63, 58].contains (byte o 0)) || decide (o.length = 1))) = true := by kernel_rfl
theorem ops_atT {o : Bytes} (h : o ∈ opsL) : o ≠ [] ∧ digB (byte o 0) = false ∧ begB (byte o 0) = false ∧ blankB (byte o 0) = false ∧ opV o = o ∧ (∀ c, c ∈ o.drop 1 → c ≠ 40 ∧ wordB c = false) ∧ (byte o 0 ∈ [40, 41, 63, 58] → o.length = 1) := by
  have := List.all_eq_true.1 ops_all o h
  simp only [Bool.and_eq_true, decide_eq_true_eq, Bool.not_eq_true', List.all_eq_true, Bool.or_eq_true] at this
  obtain ⟨⟨⟨⟨⟨⟨a1, a2⟩, a3⟩, a4⟩, a5⟩, a6⟩, a7⟩ := this
  exact ⟨a1, a2, a3, a4, a5, a6, fun hm => a7.resolve_left (by rw [List.contains_iff_mem.2 hm]; simp)⟩
theorem next_at {o r : Bytes} (ho : o ∈ opsL) (h : ∀ p, p ∈ opsL → Lib.hasPrefix (o ++ r) p = Lib.hasPrefix o p) : nextV (o ++ r) = ((3, 0, o), ((o.length : Nat) : Int), 0) := by
  obtain ⟨h1, h2, h3, h4, h5, _⟩ := ops_atT ho
  have h6 : opV (o ++ r) = o := by rw [op_same h, h5]
  have hp := List.length_pos_iff.2 h1
  have := next_op (s := o ++ r) (i := 0) (by rw [List.length_append]; omega) (by rw [byte_app0 h1]; exact h2) (by rw [byte_app0 h1]; exact h3) (by rw [List.drop_zero, h6]; exact h1)
  rw [List.drop_zero, h6] at this; exact this
theorem next_oper {o r : Bytes} {c : UInt8} (ho : o ∈ opsL) (hc : c = 40 ∨ wordB c = true) : nextV (o ++ c :: r) = ((3, 0, o), ((o.length : Nat) : Int), 0) := by
  refine next_at ho fun p hp => ?_
  have ho1 := (ops_atT ho).1
  have hfr : c ∉ p.drop 1 := fun hm => by
    obtain ⟨a, b⟩ := (ops_atT hp).2.2.2.2.2.1 c hm
    rcases hc with hc | hc
    · exact a hc
    · rw [hc] at b; cases b
  rw [Bool.eq_iff_iff, pre_iff, pre_iff]
  constructor
  · rintro ⟨t, ht⟩
    rcases List.append_eq_append_iff.1 ht with ⟨a, h1, h2⟩ | ⟨a, h1, h2⟩
    · cases a with
      | nil => exact ⟨[], by rw [h1]; simp⟩
      | cons x a =>
        have hx : c = x := (List.cons.inj h2).1
        refine absurd ?_ hfr
        rw [h1]
        cases o with
        | nil => exact absurd rfl ho1
        | cons y o => simp [hx]
    · exact ⟨a, h1⟩
  · rintro ⟨t, ht⟩; exact ⟨t ++ c :: r, by rw [ht, List.append_assoc]⟩
theorem next_solo {c : UInt8} {r : Bytes} (hc : [c] ∈ opsL) (h4 : c ∈ ([40, 41, 63, 58] : Bytes)) : nextV (c :: r) = ((3, 0, [c]), ((1 : Nat) : Int), 0) := by
  refine next_at (o := [c]) hc fun p hp => ?_
  rw [Bool.eq_iff_iff, pre_iff, pre_iff]
  constructor
  · rintro ⟨t, ht⟩
    cases p with
    | nil => exact absurd rfl (ops_atT hp).1
    | cons x p =>
      have hx : c = x := (List.cons.inj ht).1
      subst hx
      have := (ops_atT hp).2.2.2.2.2.2 h4
      have : p = [] := List.length_eq_zero_iff.1 (by simpa using this)
      subst this; exact ⟨[], rfl⟩
  · rintro ⟨t, ht⟩; exact ⟨t ++ r, by rw [ht, List.append_assoc]⟩
/-! ### a tree's tokens -/
def yd (x : Tk) : Yd := (x.1, x.2, 0)
def opT (o : Bytes) (i : Nat) : Tk := ((3, 0, o), (i : Int))
def toks : Tr → Nat → List Tk
  | num n, i => [((1, n, []), (i : Int))]
  | var s, i => [((2, 0, s), (i : Int))]
  | asg o n t, i => opT [40] i :: ((2, 0, n), ((i + 1 : Nat) : Int)) :: opT o (i + 1 + n.length) :: (toks t (i + 1 + n.length + o.length) ++ [opT [41] (i + 1 + n.length + o.length + (str t).length)])
  | un o t, i => opT [40] i :: opT o (i + 1) :: (toks t (i + 1 + o.length) ++ [opT [41] (i + 1 + o.length + (str t).length)])
  | cnd a b c, i => opT [40] i :: (toks a (i + 1) ++ opT [63] (i + 1 + (str a).length) :: (toks b (i + 1 + (str a).length + 1) ++ opT [58] (i + 1 + (str a).length + 1 + (str b).length) :: (toks c (i + 1 + (str a).length + 1 + (str b).length + 1) ++ [opT [41] (i + 1 + (str a).length + 1 + (str b).length + 1 + (str c).length)])))
  | bin o a b, i => opT [40] i :: (toks a (i + 1) ++ opT o (i + 1 + (str a).length) :: (toks b (i + 1 + (str a).length + o.length) ++ [opT [41] (i + 1 + (str a).length + o.length + (str b).length)]))
/-- A tree's text begins with '(' or a byte of a word. -/
theorem str_hd : ∀ t : Tr, t.ok → ∃ c s, str t = c :: s ∧ (c = 40 ∨ wordB c = true)
  | num n, h => by
    have h1 := (dec_num (n := n.toNat) (by have := h.2; omega)).2.2
    cases e : decT n.toNat with
    | nil => exact absurd e (decT_ne _)
    | cons c s =>
      rw [e] at h1; simp only [List.all_cons, Bool.and_eq_true] at h1
      exact ⟨c, s, e, .inr h1.1⟩
  | var s, h => by
    obtain ⟨c, r, e, h1, h2⟩ := nameV_cons h.1
    exact ⟨c, r, e, .inr (beg_word h1)⟩
  | asg o n t, h => ⟨40, _, rfl, .inl rfl⟩
  | un o t, h => ⟨40, _, rfl, .inl rfl⟩
  | cnd a b c, h => ⟨40, _, rfl, .inl rfl⟩
  | bin o a b, h => ⟨40, _, rfl, .inl rfl⟩
theorem tok_step {S b : Bytes} {i k n : Nat} {x : Int × Int × Bytes} (hd : S.drop i = b) (hi : i ≤ S.length) (hb : b ≠ []) (h : blankB (byte b 0) = false) (hn : nextV b = (x, (n : Int), 0)) (ht : ¬ x.1 = 0) : toksF (k + 1) S i = yd (x, (i : Int)) :: toksF k S (i + n) := by
  subst hd
  exact toksF_at' (a := S.take i) (List.take_append_drop _ _).symm (by rw [List.length_take]; omega) hb h hn ht
theorem word_blank {c : UInt8} (h : c = 40 ∨ wordB c = true) : blankB c = false := by
  rcases h with rfl | h
  · decide
  · simp only [wordB, begB, alphaB, upB, loB, digB, blankB, Bool.or_eq_true, decide_eq_true_eq, Bool.or_eq_false_iff, decide_eq_false_iff_not] at *; omega
theorem drop_more {S a b : Bytes} {i n : Nat} (h : S.drop i = a ++ b) (hn : a.length = n) : S.drop (i + n) = b := by
  subst hn; rw [← List.drop_drop, h, List.drop_left]
theorem drop_le {S b : Bytes} {i : Nat} (h : S.drop i = b) (hb : b ≠ []) : i ≤ S.length := by
  by_cases hi : i ≤ S.length
  · exact hi
  · exact absurd (h.symm.trans (List.drop_of_length_le (by omega))) hb
theorem solo_step {S r : Bytes} {c : UInt8} {i k : Nat} (hd : S.drop i = c :: r) (hc : [c] ∈ opsL) (h4 : c ∈ ([40, 41, 63, 58] : Bytes)) : toksF (k + 1) S i = yd (opT [c] i) :: toksF k S (i + 1) :=
  tok_step hd (drop_le hd (by simp)) (by simp) ((ops_atT hc).2.2.2.1) (next_solo hc h4) (by simp)
theorem oper_step {S o r : Bytes} {c : UInt8} {i k : Nat} (hd : S.drop i = o ++ c :: r) (ho : o ∈ opsL) (hc : c = 40 ∨ wordB c = true) : toksF (k + 1) S i = yd (opT o i) :: toksF k S (i + o.length) :=
  tok_step hd (drop_le hd (by simp)) (by simp) (by rw [byte_app0 (ops_atT ho).1]; exact (ops_atT ho).2.2.2.1) (next_oper ho hc) (by simp)
theorem asg_ops {o : Bytes} (h : o ∈ asgL) : o ∈ opsL ∧ wordB (byte o 0) = false ∧ o ≠ [] := by revert o; decide
theorem un_ops {o : Bytes} (h : o ∈ unL) : o ∈ opsL := by revert o; decide
theorem lv_ops {o : Bytes} (h : 0 < levelV o) : o ∈ opsL ∧ wordB (byte o 0) = false ∧ o ≠ [] := by
  have h1 := lvl_in h
  have : ∀ o, o ∈ opsB → o ∈ opsL ∧ wordB (byte o 0) = false ∧ o ≠ [] := by decide
  exact this o h1
theorem run_off0 {o r : Bytes} (ho : o ≠ []) (h : wordB (byte o 0) = false) : runN wordB (o ++ r) = 0 := by
  cases o with
  | nil => exact absurd rfl ho
  | cons c o => show (if wordB c = true then _ else 0) = 0; rw [if_neg (by rw [show wordB c = false from h]; simp)]
theorem toks_str : ∀ (t : Tr) (S r : Bytes) (i k : Nat), t.ok → S.drop i = str t ++ r → runN wordB r = 0 → toksF ((toks t i).length + k) S i = (toks t i).map yd ++ toksF k S (i + (str t).length)
  | num n, S, r, i, k, h, hd, hr => by
    have hn : ((n.toNat : Nat) : Int) = n := by have := h.1; omega
    have h1 := next_dec (n := n.toNat) (by have := h.2; omega) hr
    rw [hn] at h1
    have hne := decT_ne n.toNat
    have hbl : blankB (byte (decT n.toNat ++ r) 0) = false := by
      rw [byte_app0 hne]; exact word_blank (.inr (by have := (dec_num (n := n.toNat) (by have := h.2; omega)).2.1; unfold wordB; rw [this, Bool.or_true]))
    show toksF ([_].length + k) S i = _
    rw [show ([((1, n, []), (i : Int))] : List Tk).length + k = k + 1 by simp [Nat.add_comm]]
    rw [tok_step (k := k) hd (drop_le hd (by simp [str, hne])) (by simp [str, hne]) hbl h1 (by simp)]; rfl
  | var s, S, r, i, k, h, hd, hr => by
    obtain ⟨c, q, e, h1, h2⟩ := nameV_cons h.1
    have hn := next_name' (t := r) h.1 hr
    show toksF ([_].length + k) S i = _
    rw [show ([((2, 0, s), (i : Int))] : List Tk).length + k = k + 1 by simp [Nat.add_comm]]
    have hne : s ≠ [] := by rw [e]; simp
    rw [tok_step (k := k) hd (drop_le hd (by simp [str, hne])) (by simp [str, hne]) (by rw [show str (var s) = s from rfl, byte_app0 hne, e]; exact beg_blank h1) hn (by simp)]; rfl
  | asg o n t, S, r, i, k, h, hd, hr => by
    obtain ⟨ho, hn, ht⟩ := h
    obtain ⟨hol, how, hoe⟩ := asg_ops ho
    obtain ⟨c, q, e, h1, h2⟩ := nameV_cons hn.1
    obtain ⟨tc, tr, et, hc⟩ := str_hd t ht
    have hne : n ≠ [] := by rw [e]; simp
    have d0 : S.drop i = 40 :: (n ++ (o ++ (str t ++ (41 :: r)))) := by rw [hd]; simp [str]
    have d1 : S.drop (i + 1) = n ++ (o ++ (str t ++ (41 :: r))) := drop_more (a := [40]) d0 rfl
    have d2 : S.drop (i + 1 + n.length) = o ++ (str t ++ (41 :: r)) := drop_more d1 rfl
    have d3 : S.drop (i + 1 + n.length + o.length) = str t ++ (41 :: r) := drop_more d2 rfl
    have d4 : S.drop (i + 1 + n.length + o.length + (str t).length) = 41 :: r := drop_more d3 rfl
    have s1 := fun k => solo_step (k := k) d0 (by decide) (by decide)
    have s2 := fun k => tok_step (k := k) d1 (drop_le d1 (by simp [hne])) (by simp [hne]) (by rw [byte_app0 hne, e]; exact beg_blank h1) (next_name' hn.1 (run_off0 hoe how)) (by simp)
    have s3 := fun k => oper_step (k := k) (c := tc) (r := tr ++ (41 :: r)) (by rw [d2, et]; rfl) hol hc
    have s4 := fun k => toks_str t S (41 :: r) (i + 1 + n.length + o.length) k ht d3 (by rfl)
    have s5 := fun k => solo_step (k := k) d4 (by decide) (by decide)
    have hl : (toks (asg o n t) i).length + k = ((toks t (i + 1 + n.length + o.length)).length + (k + 1)) + 1 + 1 + 1 := by simp only [toks, List.length_cons, List.length_append, List.length_nil]; omega
    have hp : i + (str (asg o n t)).length = i + 1 + n.length + o.length + (str t).length + 1 := by simp only [str, List.length_append, List.length_cons, List.length_nil]; omega
    rw [hl, s1, s2, s3, s4, s5]
    rw [hp]
    simp only [toks, List.map_cons, List.map_append, List.map_nil, List.cons_append, List.append_assoc, List.nil_append]
    try rfl
  | un o t, S, r, i, k, h, hd, hr => by
    obtain ⟨ho, ht⟩ := h
    have hol := un_ops ho
    obtain ⟨tc, tr, et, hc⟩ := str_hd t ht
    have d0 : S.drop i = 40 :: (o ++ (str t ++ (41 :: r))) := by rw [hd]; simp [str]
    have d2 : S.drop (i + 1) = o ++ (str t ++ (41 :: r)) := drop_more (a := [40]) d0 rfl
    have d3 : S.drop (i + 1 + o.length) = str t ++ (41 :: r) := drop_more d2 rfl
    have d4 : S.drop (i + 1 + o.length + (str t).length) = 41 :: r := drop_more d3 rfl
    have s1 := fun k => solo_step (k := k) d0 (by decide) (by decide)
    have s3 := fun k => oper_step (k := k) (c := tc) (r := tr ++ (41 :: r)) (by rw [d2, et]; rfl) hol hc
    have s4 := fun k => toks_str t S (41 :: r) (i + 1 + o.length) k ht d3 (by rfl)
    have s5 := fun k => solo_step (k := k) d4 (by decide) (by decide)
    have hl : (toks (un o t) i).length + k = ((toks t (i + 1 + o.length)).length + (k + 1)) + 1 + 1 := by simp only [toks, List.length_cons, List.length_append, List.length_nil]; omega
    have hp : i + (str (un o t)).length = i + 1 + o.length + (str t).length + 1 := by simp only [str, List.length_append, List.length_cons, List.length_nil]; omega
    rw [hl, s1, s3, s4, s5]
    rw [hp]
    simp only [toks, List.map_cons, List.map_append, List.map_nil, List.cons_append, List.append_assoc, List.nil_append]
    try rfl
  | cnd a b c, S, r, i, k, h, hd, hr => by
    obtain ⟨ha, hb, hc⟩ := h
    have d0 : S.drop i = 40 :: (str a ++ (63 :: (str b ++ (58 :: (str c ++ (41 :: r)))))) := by rw [hd]; simp [str]
    have d1 : S.drop (i + 1) = str a ++ (63 :: (str b ++ (58 :: (str c ++ (41 :: r))))) := drop_more (a := [40]) d0 rfl
    have d2 := drop_more d1 rfl
    have d3 := drop_more (a := [63]) d2 rfl
    have d4 := drop_more d3 rfl
    have d5 := drop_more (a := [58]) d4 rfl
    have d6 := drop_more d5 rfl
    have s1 := fun k => solo_step (k := k) d0 (by decide) (by decide)
    have s2 := fun k => toks_str a S _ (i + 1) k ha d1 (by rfl)
    have s3 := fun k => solo_step (k := k) d2 (by decide) (by decide)
    have s4 := fun k => toks_str b S _ (i + 1 + (str a).length + 1) k hb d3 (by rfl)
    have s5 := fun k => solo_step (k := k) d4 (by decide) (by decide)
    have s6 := fun k => toks_str c S _ (i + 1 + (str a).length + 1 + (str b).length + 1) k hc d5 (by rfl)
    have s7 := fun k => solo_step (k := k) d6 (by decide) (by decide)
    simp only [List.length_cons, List.length_nil, Nat.zero_add] at s3 s4 s5 s6 s7
    have hl : (toks (cnd a b c) i).length + k = ((toks a (i + 1)).length + (((toks b (i + 1 + (str a).length + 1)).length + (((toks c (i + 1 + (str a).length + 1 + (str b).length + 1)).length + (k + 1)) + 1)) + 1)) + 1 := by simp only [toks, List.length_cons, List.length_append, List.length_nil]; omega
    have hp : i + (str (cnd a b c)).length = i + 1 + (str a).length + 1 + (str b).length + 1 + (str c).length + 1 := by simp only [str, List.length_append, List.length_cons, List.length_nil]; omega
    rw [hl, s1, s2, s3, s4, s5, s6, s7]
    rw [hp]
    simp only [toks, List.map_cons, List.map_append, List.map_nil, List.cons_append, List.append_assoc, List.nil_append]
    try rfl
  | bin o a b, S, r, i, k, h, hd, hr => by
    obtain ⟨ho, ha, hb⟩ := h
    obtain ⟨hol, how, hoe⟩ := lv_ops ho
    obtain ⟨tc, tr, et, hc⟩ := str_hd b hb
    have d0 : S.drop i = 40 :: (str a ++ (o ++ (str b ++ (41 :: r)))) := by rw [hd]; simp [str]
    have d1 : S.drop (i + 1) = str a ++ (o ++ (str b ++ (41 :: r))) := drop_more (a := [40]) d0 rfl
    have d2 : S.drop (i + 1 + (str a).length) = o ++ (str b ++ (41 :: r)) := drop_more d1 rfl
    have d3 : S.drop (i + 1 + (str a).length + o.length) = str b ++ (41 :: r) := drop_more d2 rfl
    have d4 : S.drop (i + 1 + (str a).length + o.length + (str b).length) = 41 :: r := drop_more d3 rfl
    have s1 := fun k => solo_step (k := k) d0 (by decide) (by decide)
    have s2 := fun k => toks_str a S _ (i + 1) k ha d1 (run_off0 hoe how)
    have s3 := fun k => oper_step (k := k) (c := tc) (r := tr ++ (41 :: r)) (by rw [d2, et]; rfl) hol hc
    have s4 := fun k => toks_str b S (41 :: r) (i + 1 + (str a).length + o.length) k hb d3 (by rfl)
    have s5 := fun k => solo_step (k := k) d4 (by decide) (by decide)
    have hl : (toks (bin o a b) i).length + k = ((toks a (i + 1)).length + (((toks b (i + 1 + (str a).length + o.length)).length + (k + 1)) + 1)) + 1 := by simp only [toks, List.length_cons, List.length_append, List.length_nil]; omega
    have hp : i + (str (bin o a b)).length = i + 1 + (str a).length + o.length + (str b).length + 1 := by simp only [str, List.length_append, List.length_cons, List.length_nil]; omega
    rw [hl, s1, s2, s3, s4, s5]
    rw [hp]
    simp only [toks, List.map_cons, List.map_append, List.map_nil, List.cons_append, List.append_assoc, List.nil_append]
    try rfl
end Go.Proofs.YtmbbhgglllfelaaGreatDoor.K
set_option linter.unusedVariables false
set_option linter.unusedSimpArgs false
set_option autoImplicit false
set_option maxRecDepth 20000
namespace Go.Proofs.YtmbbhgglllfelaaGreatDoor.K
open Go Go.Proofs Go.RowKit Tr
/-- Just this, or too deep. -/
def Is (k : Int) (ts : List Tk) (out : List Nd) (p : PR) : Prop := p = .good k ts out ∨ ∃ a, p = .bad 104 a
def Gives (q : NT → Nat → List Tk → List Nd → Option PR) (nt : NT) (d : Nat) (X : List Tk) (out : List Nd) (k : Int) (ts : List Tk) (out' : List Nd) : Prop := ∀ p, q nt d X out = some p → Is k ts out' p
theorem bind_is {r : Option PR} {f : Int → List Tk → List Nd → Option PR} {k k2 : Int} {ts ts2 : List Tk} {out out2 : List Nd} (hr : ∀ p, r = some p → Is k ts out p) (hf : ∀ p, f k ts out = some p → Is k2 ts2 out2 p) : ∀ p, PR.bind r f = some p → Is k2 ts2 out2 p := by
  intro p hp
  unfold PR.bind at hp
  split at hp
  · cases hp
  · cases hp
    rcases hr _ rfl with e | ⟨a, e⟩
    · cases e
    · cases e; exact .inr ⟨_, rfl⟩
  · rcases hr _ rfl with e | ⟨a, e⟩
    · cases e; exact hf p hp
    · cases e
theorem wI_is {q : NT → Nat → List Tk → List Nd → Option PR} {nt : NT} {d : Nat} {X ts : List Tk} {out out2 : List Nd} {k : Int} (h : Gives q nt (d + 1) X out k ts out2) : ∀ p, wI q nt d X out = some p → Is k ts out2 p := by
  intro p hp
  unfold wI at hp
  split at hp
  · cases hp; exact .inr ⟨_, rfl⟩
  · exact h p hp
/-- No level from n on goes on with these tokens. -/
def Cl (n : Nat) (ts : List Tk) : Prop := ∀ m, n ≤ m → m < 10 → inOp ts (lvls.getD m []) = false
theorem lev_of {X R : List Tk} {out out' : List Nd} {k : Int} (hT : ∀ f d, Gives (pP f) .trm d X out k R out') : ∀ (f n d : Nat), n ≤ 10 → Cl n R → Gives (pP f) (.lev n) d X out k R out'
  | 0, n, d, hn, hc => fun p h => by cases h
  | f + 1, n, d, hn, hc => fun p hp => by
    rw [pP] at hp
    split at hp
    · exact wI_is (hT f (d + 1)) p hp
    · rename_i h10
      refine bind_is (lev_of hT f (n + 1) d (by omega) (fun m h1 h2 => hc m (by omega) h2)) (fun q hq => ?_) p hp
      cases f with
      | zero => cases hq
      | succ f =>
        rw [pP, if_neg (by rw [hc n (Nat.le_refl _) (by omega)]; simp)] at hq
        cases hq; exact .inl rfl
theorem cho_of {X R : List Tk} {out out' : List Nd} {k : Int} (hL : ∀ f d, Gives (pP f) (.lev 0) d X out k R out') (hq : inOp R [[63]] = false) : ∀ (f d : Nat), Gives (pP f) .cho d X out k R out'
  | 0, d => fun p h => by cases h
  | f + 1, d => fun p hp => by
    rw [pP] at hp
    refine bind_is (hL f d) (fun q h => ?_) p hp
    rw [if_neg (by rw [hq]; simp)] at h
    cases h; exact .inl rfl
theorem asg_of {X R : List Tk} {out out' : List Nd} {k : Int} (hC : ∀ f d, Gives (pP f) .cho d X out k R out') (ha : isAsg X = false) : ∀ (f d : Nat), Gives (pP f) .asg d X out k R out'
  | 0, d => fun p h => by cases h
  | f + 1, d => fun p hp => by
    rw [pP, if_neg (by rw [ha]; simp)] at hp
    exact wI_is (hC f (d + 1)) p hp
theorem inOp_op {o : Bytes} {j : Nat} {r : List Tk} {l : List Bytes} : inOp (opT o j :: r) l = l.contains o := by simp [inOp, hdT, opT]
/-- Tokens that no reader goes on with. -/
def Clo (R : List Tk) : Prop := Cl 0 R ∧ inOp R [[63]] = false ∧ inOp R asgL = false
theorem clo_op {c : UInt8} {j : Nat} {r : List Tk} (h : c = 41 ∨ c = 58) : Clo (opT [c] j :: r) := by
  refine ⟨fun m _ hm => ?_, ?_, ?_⟩
  · rw [inOp_op]
    have : ∀ m, m < 10 → (lvls.getD m []).contains [41] = false ∧ (lvls.getD m []).contains [58] = false := by decide
    rcases h with rfl | rfl
    · exact (this m hm).1
    · exact (this m hm).2
  · rw [inOp_op]; rcases h with rfl | rfl <;> rfl
  · rw [inOp_op]; rcases h with rfl | rfl <;> rfl
theorem clo_end {a : Int} {r : List Tk} : Clo (((0, 0, []), a) :: r) := ⟨fun m _ hm => by simp [inOp, hdT], by simp [inOp, hdT], by simp [inOp, hdT]⟩
theorem isAsg_toks {t : Tr} {i : Nat} {R : List Tk} (h : inOp R asgL = false) : isAsg (toks t i ++ R) = false := by
  cases t <;> simp [isAsg, toks, hdT, opT, h]
/-- Brackets about it. -/
theorem par_of {X r : List Tk} {i j : Nat} {out out' : List Nd} {k : Int} (hA : ∀ f d, Gives (pP f) .asg d X out k (opT [41] j :: r) out') : ∀ (f d : Nat), Gives (pP f) .trm d (opT [40] i :: X) out k r out'
  | 0, d => fun p h => by cases h
  | f + 1, d => fun p hp => by
    rw [pP, if_neg (by simp [hdT, opT]), if_neg (by simp [hdT, opT]), if_neg (by rw [inOp_op]; decide), if_pos (by rw [inOp_op]; decide)] at hp
    refine bind_is (wI_is (hA f (d + 1))) (fun q hq => ?_) p hp
    rw [if_pos (by rw [inOp_op]; decide)] at hq
    cases hq; exact .inl rfl
theorem lv_at {o : Bytes} (h : 0 < levelV o) : ∃ m, m < 10 ∧ (lvls.getD m []).contains o = true ∧ ∀ n, n < 10 → n ≠ m → (lvls.getD n []).contains o = false := by
  have h1 := lvl_in h
  have : ∀ o, o ∈ opsB → ∃ m, m < 10 ∧ (lvls.getD m []).contains o = true ∧ ∀ n, n < 10 → n ≠ m → (lvls.getD n []).contains o = false := by decide
  exact this o h1
theorem trm_lev {t : Tr} {i : Nat} {R : List Tk} {out : List Nd} {n : Nat} (hT : ∀ f d, Gives (pP f) .trm d (toks t i ++ R) out (t.root out.length) R (out ++ t.row out.length)) (hn : n ≤ 10) (hc : Cl n R) : ∀ f d, Gives (pP f) (.lev n) d (toks t i ++ R) out (t.root out.length) R (out ++ t.row out.length) := fun f d => lev_of hT f n d hn hc
theorem trm_cho {t : Tr} {i : Nat} {R : List Tk} {out : List Nd} (hT : ∀ f d, Gives (pP f) .trm d (toks t i ++ R) out (t.root out.length) R (out ++ t.row out.length)) (hc : Clo R) : ∀ f d, Gives (pP f) .cho d (toks t i ++ R) out (t.root out.length) R (out ++ t.row out.length) := cho_of (trm_lev hT (by omega) hc.1) hc.2.1
theorem trm_asg {t : Tr} {i : Nat} {R : List Tk} {out : List Nd} (hT : ∀ f d, Gives (pP f) .trm d (toks t i ++ R) out (t.root out.length) R (out ++ t.row out.length)) (hc : Clo R) : ∀ f d, Gives (pP f) .asg d (toks t i ++ R) out (t.root out.length) R (out ++ t.row out.length) := asg_of (trm_cho hT hc) (isAsg_toks hc.2.2)
/-- A level with an operator. -/
theorem lev_bin {a b : Tr} {o : Bytes} {i j j2 m : Nat} {R : List Tk} {out : List Nd} (hm : m < 10) (hin : (lvls.getD m []).contains o = true) (hno : ∀ n, n < 10 → n ≠ m → (lvls.getD n []).contains o = false) (hR : Cl 0 R)
    (hA : ∀ f d, Gives (pP f) .trm d (toks a i ++ (opT o j :: (toks b j2 ++ R))) out (a.root out.length) (opT o j :: (toks b j2 ++ R)) (out ++ a.row out.length))
    (hB : ∀ f d, Gives (pP f) .trm d (toks b j2 ++ R) (out ++ a.row out.length) (b.root (out ++ a.row out.length).length) R ((out ++ a.row out.length) ++ b.row (out ++ a.row out.length).length)) :
    ∀ (f n d : Nat), n ≤ m → Gives (pP f) (.lev n) d (toks a i ++ (opT o j :: (toks b j2 ++ R))) out ((bin o a b).root out.length) R (out ++ (bin o a b).row out.length)
  | 0, n, d, hn => fun p h => by cases h
  | f + 1, n, d, hn => fun p hp => by
    rw [pP, if_neg (by omega)] at hp
    by_cases hnm : n = m
    · subst hnm
      refine bind_is (trm_lev hA (by omega) (fun m' h1 h2 => by rw [inOp_op]; exact hno m' h2 (by omega)) f d) (fun q hq => ?_) p hp
      cases f with
      | zero => cases hq
      | succ f =>
        rw [pP, if_pos (by rw [inOp_op]; exact hin)] at hq
        refine bind_is (trm_lev hB (by omega) (fun m' _ h2 => hR m' (by omega) h2) f d) (fun q2 hq2 => ?_) q hq
        cases f with
        | zero => cases hq2
        | succ f =>
          rw [pP, if_neg (by rw [hR n (by omega) hm]; simp)] at hq2
          cases hq2
          refine .inl ?_
          have e1 : ((out ++ a.row out.length) ++ b.row (out ++ a.row out.length).length) ++ [⟨(hdT (opT o j :: (toks b j2 ++ R))).1.2.2, 0, [], [a.root out.length, b.root (out ++ a.row out.length).length]⟩] = out ++ (bin o a b).row out.length := by
            simp only [row, List.length_append, row_len, List.append_assoc, hdT, opT, List.headD_cons]
          have e2 : ((((out ++ a.row out.length) ++ b.row (out ++ a.row out.length).length).length : Nat) : Int) = (bin o a b).root out.length := by
            rw [List.length_append, List.length_append, row_len, row_len, Nat.add_assoc]; exact root_put (bin o a b) out (a.sz + b.sz) rfl
          rw [e1, e2]
    · refine bind_is (lev_bin hm hin hno hR hA hB f (n + 1) d (by omega)) (fun q hq => ?_) p hp
      cases f with
      | zero => cases hq
      | succ f =>
        rw [pP, if_neg (by rw [hR n (by omega) (by omega)]; simp)] at hq
        cases hq; exact .inl rfl
theorem trm_is : ∀ (t : Tr) (i : Nat) (R : List Tk) (out : List Nd), t.ok → ∀ f d, Gives (pP f) .trm d (toks t i ++ R) out (t.root out.length) R (out ++ t.row out.length)
  | num n, i, R, out, h, 0, d => fun p h => by cases h
  | num n, i, R, out, h, f + 1, d => fun p hp => by
    rw [pP, if_pos (by rfl)] at hp
    cases hp; exact .inl (by rw [← root_put (num n) out 0 rfl]; rfl)
  | var s, i, R, out, h, 0, d => fun p h => by cases h
  | var s, i, R, out, h, f + 1, d => fun p hp => by
    rw [pP, if_neg (by show ¬ (2 : Int) = 1; decide), if_pos (by rfl)] at hp
    cases hp; exact .inl (by rw [← root_put (var s) out 0 rfl]; rfl)
  | asg o n t, i, R, out, h, f, d => by
    have ht := trm_asg (R := opT [41] (i + 1 + n.length + o.length + (str t).length) :: R) (out := out) (trm_is t (i + 1 + n.length + o.length) _ out h.2.2) (clo_op (.inl rfl))
    simp only [toks, List.cons_append, List.append_assoc, List.nil_append]
    refine par_of (j := i + 1 + n.length + o.length + (str t).length) (fun f d => ?_) f d
    cases f with
    | zero => exact fun p h => by cases h
    | succ f =>
      intro p hp
      rw [pP, if_pos (by
        unfold isAsg
        rw [List.drop_succ_cons, List.drop_zero, inOp_op, List.contains_iff_mem.2 h.1]; rfl)] at hp
      refine bind_is (wI_is (ht f (d + 1))) (fun q hq => ?_) p hp
      cases hq
      refine .inl ?_
      have e2 : (((out ++ t.row out.length).length : Nat) : Int) = (asg o n t).root out.length := by rw [List.length_append, row_len]; exact root_put (asg o n t) out t.sz rfl
      rw [e2, List.append_assoc]; rfl
  | un o t, i, R, out, h, f, d => by
    have ht := trm_is t (i + 1 + o.length) (opT [41] (i + 1 + o.length + (str t).length) :: R) out h.2
    simp only [toks, List.cons_append, List.append_assoc, List.nil_append]
    refine par_of (j := i + 1 + o.length + (str t).length) ?_ f d
    have hc := clo_op (c := 41) (j := i + 1 + o.length + (str t).length) (r := R) (.inl rfl)
    refine asg_of (cho_of (fun f d => lev_of (fun f d => ?_) f 0 d (by omega) hc.1) hc.2.1) (by simp [isAsg, hdT, opT])
    cases f with
    | zero => exact fun p h => by cases h
    | succ f =>
      intro p hp
      rw [pP, if_neg (by simp [hdT, opT]), if_neg (by simp [hdT, opT]), if_pos (by rw [inOp_op]; exact List.contains_iff_mem.2 h.1)] at hp
      refine bind_is (wI_is (ht f (d + 1))) (fun q hq => ?_) p hp
      cases hq
      refine .inl ?_
      have e2 : (((out ++ t.row out.length).length : Nat) : Int) = (un o t).root out.length := by rw [List.length_append, row_len]; exact root_put (un o t) out t.sz rfl
      rw [e2, List.append_assoc]; rfl
  | cnd a b c, i, R, out, h, f, d => by
    obtain ⟨j1, hj1⟩ : ∃ j, i + 1 + (str a).length = j := ⟨_, rfl⟩
    obtain ⟨j2, hj2⟩ : ∃ j, j1 + 1 + (str b).length = j := ⟨_, rfl⟩
    obtain ⟨j3, hj3⟩ : ∃ j, j2 + 1 + (str c).length = j := ⟨_, rfl⟩
    simp only [toks, List.cons_append, List.append_assoc, List.nil_append, hj1, hj2, hj3]
    obtain ⟨o1, ho1⟩ : ∃ o1, out ++ a.row out.length = o1 := ⟨_, rfl⟩
    obtain ⟨o2, ho2⟩ : ∃ o2, o1 ++ b.row o1.length = o2 := ⟨_, rfl⟩
    have hA := trm_lev (n := 0) (trm_is a (i + 1) (opT [63] j1 :: (toks b (j1 + 1) ++ (opT [58] j2 :: (toks c (j2 + 1) ++ (opT [41] j3 :: R))))) out h.1) (by omega) (fun m _ hm => by
      rw [inOp_op]
      have : ∀ m, m < 10 → (lvls.getD m []).contains [63] = false := by decide
      exact this m hm)
    have hB := trm_asg (trm_is b (j1 + 1) (opT [58] j2 :: (toks c (j2 + 1) ++ (opT [41] j3 :: R))) o1 h.2.1) (clo_op (.inr rfl))
    have hC := trm_cho (trm_is c (j2 + 1) (opT [41] j3 :: R) o2 h.2.2) (clo_op (.inl rfl))
    refine par_of (j := j3) ?_ f d
    refine asg_of (fun f d => ?_) (isAsg_toks (by rw [inOp_op]; decide))
    cases f with
    | zero => exact fun p h => by cases h
    | succ f =>
      intro p hp
      rw [pP] at hp
      refine bind_is (hA f d) (fun q hq => ?_) p hp
      rw [if_pos (by rw [inOp_op]; decide), ho1] at hq
      refine bind_is (wI_is (hB f (d + 1))) (fun q2 hq2 => ?_) q hq
      rw [if_pos (by rw [inOp_op]; decide), ho2] at hq2
      refine bind_is (wI_is (hC f (d + 1))) (fun q3 hq3 => ?_) q2 hq2
      cases hq3
      refine .inl ?_
      have l1 : o1.length = out.length + a.sz := by rw [← ho1, List.length_append, row_len]
      have l2 : o2.length = out.length + a.sz + b.sz := by rw [← ho2, List.length_append, row_len, l1]
      have e2 : (((o2 ++ c.row o2.length).length : Nat) : Int) = (cnd a b c).root out.length := by
        rw [List.length_append, row_len, l2, Nat.add_assoc, Nat.add_assoc]; exact root_put (cnd a b c) out (a.sz + (b.sz + c.sz)) (by simp only [sz]; omega)
      rw [e2, l2, ← ho2, l1, ← ho1]
      simp only [row, List.append_assoc]
  | bin o a b, i, R, out, h, f, d => by
    obtain ⟨m, h1, h2, h3⟩ := lv_at h.1
    obtain ⟨q1, q2, q3, q4, q5⟩ := lv_op h.1
    obtain ⟨j1, hj1⟩ : ∃ j, i + 1 + (str a).length = j := ⟨_, rfl⟩
    obtain ⟨j2, hj2⟩ : ∃ j, j1 + o.length + (str b).length = j := ⟨_, rfl⟩
    simp only [toks, List.cons_append, List.append_assoc, List.nil_append, hj1, hj2]
    have hc := clo_op (c := 41) (j := j2) (r := R) (.inl rfl)
    refine par_of (j := j2) ?_ f d
    refine asg_of (cho_of (fun f d => lev_bin h1 h2 h3 hc.1 (trm_is a (i + 1) _ out h.2.1) (trm_is b (j1 + o.length) _ _ h.2.2) f 0 d (by omega)) hc.2.1) (isAsg_toks (by rw [inOp_op]; cases hx : asgL.contains o with | false => rfl | true => exact absurd (List.contains_iff_mem.1 hx) q3))
theorem toks_len : ∀ (t : Tr) (i : Nat), t.ok → (toks t i).length ≤ (str t).length
  | num n, i, h => List.length_pos_iff.2 (decT_ne _)
  | var s, i, h => by
    obtain ⟨c, q, e, _⟩ := nameV_cons h.1
    show 1 ≤ s.length; rw [e]; simp
  | asg o n t, i, h => by
    have h1 := toks_len t (i + 1 + n.length + o.length) h.2.2
    obtain ⟨c, q, e, _⟩ := nameV_cons h.2.1.1
    have h2 := List.length_pos_iff.2 (asg_ops h.1).2.2
    have h3 : 0 < n.length := by rw [e]; simp
    simp only [toks, str, List.length_cons, List.length_append, List.length_nil]; omega
  | un o t, i, h => by
    have h1 := toks_len t (i + 1 + o.length) h.2
    have h2 := List.length_pos_iff.2 (ops_atT (un_ops h.1)).1
    simp only [toks, str, List.length_cons, List.length_append, List.length_nil]; omega
  | cnd a b c, i, h => by
    have h1 := toks_len a (i + 1) h.1
    have h2 := toks_len b (i + 1 + (str a).length + 1) h.2.1
    have h3 := toks_len c (i + 1 + (str a).length + 1 + (str b).length + 1) h.2.2
    simp only [toks, str, List.length_cons, List.length_append, List.length_nil]; omega
  | bin o a b, i, h => by
    have h1 := toks_len a (i + 1) h.2.1
    have h2 := toks_len b (i + 1 + (str a).length + o.length) h.2.2
    have h3 := List.length_pos_iff.2 (lv_ops h.1).2.2
    simp only [toks, str, List.length_cons, List.length_append, List.length_nil]; omega
theorem tokV_str {t : Tr} (h : t.ok) {L : List Yd} (hL : toksF ((str t).length + 1) (str t) 0 = L) : tokV L = (toks t 0 ++ [((0, 0, []), ((str t).length : Int))], 0, 0) := by
  have hl := toks_len t 0 h
  have h1 := toks_str t (str t) [] 0 ((str t).length - (toks t 0).length + 1) h (by simp) rfl
  rw [show (toks t 0).length + ((str t).length - (toks t 0).length + 1) = (str t).length + 1 by omega, hL, Nat.zero_add, toksF_end] at h1
  have hz : L.find? errV = none := by
    rw [List.find?_eq_none]
    intro y hy
    rw [h1] at hy
    rcases List.mem_append.1 hy with hy | hy
    · obtain ⟨x, _, rfl⟩ := List.mem_map.1 hy; simp [errV, yd]
    · rw [List.mem_singleton.1 hy]; simp [errV]
  unfold tokV
  rw [hz, h1]
  have e : ∀ l : List Tk, (l.map yd).map toTk = l := fun l => by rw [List.map_map]; exact List.map_id' l
  simp only [List.map_append, e]; rfl
/-- THERE AND BACK: a tree's text is read as the tree, or is too deep. -/
theorem parse_str {t : Tr} (h : t.ok) (hs : t.sz ≤ 1000) {L : List Yd} (hL : toksF ((str t).length + 1) (str t) 0 = L) : parseV (str t) L = (t.row 0, 0, 0) ∨ ∃ a, parseV (str t) L = ([], a, 104) := by
  obtain ⟨T, hT⟩ : ∃ T, toks t 0 ++ [(((0, 0, []), ((str t).length : Int)) : Tk)] = T := ⟨_, rfl⟩
  have h1 := tokV_str h hL
  rw [hT] at h1
  unfold parseV
  rw [h1]
  simp only [not_true_eq_false, if_false]
  obtain ⟨r, hr, _⟩ := parse_tot T
  rw [hr]
  have h2 := wI_is (trm_asg (trm_is t 0 [((0, 0, []), ((str t).length : Int))] [] h) clo_end (fuelP T) 1) r (by rw [hT]; exact hr)
  rcases h2 with rfl | ⟨a, rfl⟩
  · left
    simp only [List.nil_append, List.length_nil]
    rw [if_neg (by simp [hdT]), if_neg (by rw [row_len]; omega)]
  · exact .inr ⟨a, rfl⟩
end Go.Proofs.YtmbbhgglllfelaaGreatDoor.K
set_option linter.unusedVariables false
set_option linter.unusedSimpArgs false
set_option autoImplicit false
set_option maxRecDepth 20000
namespace Go.Proofs.YtmbbhgglllfelaaGreatDoor.K
open Go Go.Proofs Go.RowKit
open Tr
/-- Names of tokens, of operations, that are not too long. -/
def TB (N : Nat) (ts : List Tk) : Prop := ∀ x, x ∈ ts → x.1.1 = 2 → x.1.2.2.length ≤ N
def NB (N : Nat) (out : List Nd) : Prop := ∀ x, x ∈ out → x.name.length ≤ N
def NG (N : Nat) : PR → Prop
  | .bad _ _ => True
  | .good _ ts out => TB N ts ∧ NB N out
theorem TB.drop {N : Nat} {ts : List Tk} (h : TB N ts) (n : Nat) : TB N (ts.drop n) := fun x hx => h x (List.mem_of_mem_drop hx)
theorem TB.hd {N : Nat} {ts : List Tk} (h : TB N ts) (h2 : (hdT ts).1.1 = 2) : (hdT ts).1.2.2.length ≤ N := by
  cases ts with
  | nil => exact absurd h2 (by decide)
  | cons x l => exact h x (by simp) h2
theorem NB.put {N : Nat} {out : List Nd} {x : Nd} (h : NB N out) (hx : x.name.length ≤ N) : NB N (out ++ [x]) := fun y hy => by
  rcases List.mem_append.1 hy with hy | hy
  · exact h y hy
  · rw [List.mem_singleton.1 hy]; exact hx
theorem pP_nb {N : Nat} : ∀ (f : Nat) (nt : NT) (d : Nat) (ts : List Tk) (out : List Nd), TB N ts → NB N out → ∀ p, pP f nt d ts out = some p → NG N p
  | 0, _, _, _, _, _, _, p, h => by cases h
  | f + 1, nt, d, ts, out, ht, ho, p, hp => by
    have ih := pP_nb (N := N) f
    have hw : ∀ nt ts out, TB N ts → NB N out → ∀ p, wI (pP f) nt d ts out = some p → NG N p := fun nt ts out h1 h2 p h => wI_to (G := NG N) (fun _ => trivial) (ih nt (d + 1) ts out h1 h2) p h
    have hb : ∀ e a, NG N (.bad e a) → NG N (.bad e a) := fun _ _ h => h
    cases nt with
    | asg =>
      rw [pP] at hp
      split at hp
      · rename_i ha
        unfold isAsg at ha
        rw [Bool.and_eq_true, decide_eq_true_eq] at ha
        exact bind_to (hw .asg _ _ (ht.drop 2) ho) hb (fun k ts' out' hg q hq => by cases hq; exact ⟨hg.1, hg.2.put (ht.hd ha.1)⟩) p hp
      · exact hw .cho _ _ ht ho p hp
    | cho =>
      rw [pP] at hp
      refine bind_to (ih (.lev 0) d ts out ht ho) hb (fun k ts1 out1 hg q hq => ?_) p hp
      split at hq
      · refine bind_to (hw .asg _ _ (hg.1.drop 1) hg.2) hb (fun k ts2 out2 hg2 q2 hq2 => ?_) q hq
        split at hq2
        · exact bind_to (hw .cho _ _ (hg2.1.drop 1) hg2.2) hb (fun k ts3 out3 hg3 q3 hq3 => by cases hq3; exact ⟨hg3.1, hg3.2.put (Nat.zero_le _)⟩) q2 hq2
        · cases hq2; trivial
      · cases hq; exact hg
    | lev n =>
      rw [pP] at hp
      split at hp
      · exact hw .trm _ _ ht ho p hp
      · exact bind_to (ih (.lev (n + 1)) d ts out ht ho) hb (fun k ts1 out1 hg q hq => ih (.lop n k) d ts1 out1 hg.1 hg.2 q hq) p hp
    | lop n k =>
      rw [pP] at hp
      split at hp
      · exact bind_to (ih (.lev (n + 1)) d (ts.drop 1) out (ht.drop 1) ho) hb (fun k2 ts2 out2 hg q hq => ih (.lop n _) d ts2 _ hg.1 (hg.2.put (Nat.zero_le _)) q hq) p hp
      · cases hp; exact ⟨ht, ho⟩
    | trm =>
      rw [pP] at hp
      split at hp
      · cases hp; exact ⟨ht.drop 1, ho.put (Nat.zero_le _)⟩
      split at hp
      · rename_i h2; cases hp; exact ⟨ht.drop 1, ho.put (ht.hd h2)⟩
      split at hp
      · exact bind_to (hw .trm _ _ (ht.drop 1) ho) hb (fun k ts' out' hg q hq => by cases hq; exact ⟨hg.1, hg.2.put (Nat.zero_le _)⟩) p hp
      split at hp
      · refine bind_to (hw .asg _ _ (ht.drop 1) ho) hb (fun k ts' out' hg q hq => ?_) p hp
        split at hq
        · cases hq; exact ⟨hg.1.drop 1, hg.2⟩
        · cases hq; trivial
      · cases hp; trivial
theorem next_tb (s : Bytes) : (nextV s).1.1 = 2 → (nextV s).1.2.2.length ≤ s.length := by
  unfold nextV
  split
  · exact fun e => absurd e (by simp)
  split
  · split
    · exact fun e => absurd e (by simp)
    · exact fun e => absurd e (by simp)
  split
  · exact fun _ => List.length_take_le' _ _
  split
  · exact fun e => absurd e (by simp)
  · exact fun e => absurd e (by simp)
theorem toks_tb {s : Bytes} : ∀ (k i : Nat), ∀ y, y ∈ toksF k s i → (toTk y).1.1 = 2 → (toTk y).1.2.2.length ≤ s.length
  | 0, i, y, hy => by cases hy
  | k + 1, i, y, hy => by
    rw [toksF_succ] at hy
    rcases List.mem_cons.1 hy with rfl | hy
    · exact fun e => Nat.le_trans (next_tb _ e) (by rw [List.length_drop]; omega)
    · split at hy
      · cases hy
      · exact toks_tb k _ y hy
theorem parse_nb {s : Bytes} {L : List Yd} (hL : toksF (s.length + 1) s 0 = L) : NB s.length (parseV s L).1 := by
  have htb : TB s.length (tokV L).1 := by
    subst hL
    unfold tokV
    split
    · exact fun x hx => by cases hx
    · intro x hx
      obtain ⟨y, hy, rfl⟩ := List.mem_map.1 hx
      exact toks_tb _ _ y hy
  have hn : NB s.length ([] : List Nd) := fun x hx => by cases hx
  unfold parseV
  split
  · exact hn
  · cases hr : wI (pP (fuelP (tokV L).1)) .asg 0 (tokV L).1 [] with
    | none => exact hn
    | some q =>
      have hg := wI_to (G := NG s.length) (fun _ => trivial) (pP_nb _ .asg 1 _ _ htb hn) q hr
      cases q with
      | bad e a => exact hn
      | good k ts out =>
        dsimp only
        split
        · exact hn
        · split
          · exact hn
          · exact hg.2
theorem light_len {N : Nat} : ∀ l : List Nd, NB N l → lightN l ≤ l.length * (N + 30)
  | [], _ => Nat.zero_le _
  | x :: l, h => by
    have h1 := light_len l (fun y hy => h y (by simp [hy]))
    have h2 := h x (by simp)
    rw [lightN, List.length_cons, Nat.add_mul]; omega
theorem str_short {s : Bytes} {t : Tr} (hs : s.length ≤ 2000) (hok : t.ok) (hp : parseV s (toksF (s.length + 1) s 0) = (t.row 0, 0, 0)) (hz : t.sz ≤ 200) : lightN (t.row 0) ≤ 406000 := by
  have h1 := light_len (t.row 0) (N := s.length) (by have := parse_nb (s := s) rfl; rw [hp] at this; exact this)
  rw [Tr.row_len] at h1
  have h2 := Nat.mul_le_mul hz (show s.length + 30 ≤ 2030 by omega)
  omega

end Go.Proofs.YtmbbhgglllfelaaGreatDoor.K
