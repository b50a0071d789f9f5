import Derived.Test.YtmbbhgglllfelaaGreatDoorDa
import Derived.Test.YtmbbhgglllfelaaGreatDoorDc
set_option linter.unusedVariables false
set_option linter.unusedSimpArgs false
set_option autoImplicit false
set_option maxRecDepth 20000
namespace Go.Proofs.YtmbbhgglllfelaaGreatDoor.K
open Go Go.Proofs Go.RowKit
open Tr
/-- Variables that a law lets in. -/
def Gd (vs : List Vr) : Prop := Rise vs ∧ (∀ p, p ∈ vs → p.1.length + p.2.length ≤ 300) ∧ vs.length ≤ 100
theorem gd_vk {vs : List Vr} (h : Gd vs) : VK vs := ⟨h.1, fun p hp => by have := h.2.1 p hp; omega⟩
theorem rise_snoc {vs : List Vr} {i : Nat} {x : Vr} (h : Rise (vs.take i)) (hx : vs[i]? = some x) (hl : 0 < i → ∀ y, vs[i - 1]? = some y → Op.bytesLess y.1 x.1 = true) : Rise (vs.take (i + 1)) := by
  rw [← take_snoc hx]
  refine List.pairwise_append.2 ⟨h, List.pairwise_singleton _ _, fun a ha b hb => ?_⟩
  rw [List.mem_singleton.1 hb]
  obtain ⟨j, hj⟩ := List.getElem?_of_mem ha
  have hjl : j < (vs.take i).length := (List.getElem?_eq_some_iff.1 hj).1
  rw [List.length_take] at hjl
  have hi : 0 < i := by omega
  have hxl := (List.getElem?_eq_some_iff.1 hx).1
  obtain ⟨y, hy⟩ : ∃ y, vs[i - 1]? = some y := ⟨_, List.getElem?_eq_getElem (by omega)⟩
  have h2 := hl hi y hy
  by_cases e : j = i - 1
  · rw [List.getElem?_take, if_pos (by omega), e, hy] at hj; cases hj; exact h2
  · exact less_trans _ _ _ (rise_lt h (i := j) (j := i - 1) (by omega) hj (by rw [List.getElem?_take, if_pos (by omega)]; exact hy)) h2

theorem good_spec {vs : List Vr} {Av : Option Addr} {cv : Nat} {Dv : Nat → Prop} {w : World} (hv : Sl prE w Dv Av vs) (hl : vs.length ≤ 1000000000000000) (hsz : ∀ p, p ∈ vs → p.1.length ≤ 1000000000000000 ∧ p.2.length ≤ 1000000000000000) : CallR Tryz.prog 6 #[.slice Av vs.length cv] w fun v w' => (∃ g, v = .bool g ∧ (g = true → Gd vs)) ∧ Chg [] w w' := by
 replace hv := hv.mono (D' := fun k => k < w.heap.size) (fun k hk _ => hk)
 refine callR_of_wp (args := [_]) Tryz.func6 rfl (Nat.le_of_ble_eq_true rfl) ?_
 have HC : Chg [] w w := .refl _
 refine sr rfl <| aB rfl <| en <| x_seq <| sr rfl <| mL rfl <| Wp rfl <| st_len (ct := #[22]) (by rw [show ((#[22] : Array TypeId)[0]?).bind Tryz.prog.underlying = some (.slice 42) from T.u22]; rfl) rfl <| mI rfl <| en <| x_block <| x_loop (ι := Nat) [2, 3, 4, 7, 8, 9, 10, 11, 12, 13, 14, 15, 16, 17, 18, 19, 20, 21, 22, 23, 24, 25, 26, 27, 28, 29, 30, 31, 32, 33, 34, 35] (fun i => [(7, .int .i64 (i : Int))]) (fun i W => (i ≤ vs.length ∧ Rise (vs.take i) ∧ (∀ p, p ∈ vs.take i → p.1.length + p.2.length ≤ 300)) ∧ (Chg [] w W) ∧ (Sl prE W (fun k => k < w.heap.size) Av vs)) (fun i => vs.length - i) 0 ?_ ?_ ?_
 · exact ⟨rfl, trivial⟩
 ·refine ⟨?_, HC, hv⟩
  exact ⟨Nat.zero_le _, List.Pairwise.nil, fun p hp => by simp at hp⟩
 intro i G2 w1 ⟨⟨hi, hri, hle⟩, HC, hv⟩
 change wp _ _ _ _ _ (upds (over _ _ G2) [(7, .int .i64 (i : Int))]) _ _
 refine sr rfl <| Wp rfl <| st_lss rfl rfl <| en <| x_seq <| x_cond rfl (fun h0 => ?_) (fun h0 => ?_)
 ·try simp only [nm, ne_eq] at h0
  obtain ⟨x, hxi⟩ : ∃ x, vs[i]? = some x := ⟨_, List.getElem?_eq_getElem (by omega)⟩
  obtain ⟨hz1, hz2⟩ := hsz x (List.mem_of_getElem? hxi)
  refine x_skip <| then_n <| x_seq <| x_block <| sr rfl <| mI rfl ?_
  obtain ⟨lb7, _, vs6, hA3, hR5, hC4⟩ := hv.at (i := i) (x := x) (hxi)
  obtain rfl : vs6 = [S x.1, S x.2] := hR5
  refine Wp rfl <| st_indexAddr T.u22 T.size42 (congrArg (fun z => Value.slice z _ _) hA3) rfl (by omega) (by omega) <| Wp rfl <| st_loadA (vs := [_, _]) T.agg42 rfl hC4 rfl <| Wp rfl <| st_alloc T.zero42 ?_
  intro b4 w8 e9 c10 hb11
  have ge_b4 : w.heap.size ≤ b4 := by rw [e9]; exact HC.size
  have nf_hv_b4 : vs = [] ∨ b4 ∉ ob (Av) := hv.fresh (by rw [e9]; exact Nat.le_refl _)
  replace HC := HC.then c10
  replace hv := hv.tr0 c10
  clear e9
  refine aI rfl <| Wp rfl <| st_store (v := .agg ⟨[S _, S _]⟩) T.size42 rfl rfl rfl hb11 rfl (Nat.le_of_ble_eq_true rfl) (by simp [Value.oneCell', S]) rfl ?_
  intro w12 c13 hb14; simp only [setVs, setV] at hb14
  clear hb11
  replace HC := HC.then1 c13 ge_b4
  replace hv := hv.trF flat_flat c13 (by intro k hx; simp only [List.mem_singleton] at hx; subst hx; exact nf_hv_b4)
  refine en <| x_seq ?_
  rcases Nat.eq_zero_or_pos i with hz | hz
  ·refine x_draw [(0, 0), (1, 0), (2, 0), (3, 0), (4, 0), (5, 0), (6, 0), (7, 0), (8, 0), (9, 0), (10, 0), (11, 0), (12, 0), (13, 0), (14, 0), (15, 0), (16, 0), (17, 0), (18, 0), (19, 0), (20, 0), (21, 0), (22, 0)] T.mixed rfl rfl rfl (fun W => W.heap[b4]? = w12.heap[b4]? ∧ True) ⟨rfl, trivial⟩ ?_
   have o17 := hb14
   have c16 := Chg.drew w12
   generalize World.drew w12 = w15 at c16 ⊢
   replace HC := HC.then c16
   replace hv := hv.tr0 c16
   replace hb14 := hb14.tr0 c16
   refine sq_q rfl (fun W hT => r_move (v := .int _ _) rfl) <| sq_q rfl (fun W hT => r_gtr rfl rfl) <| sq_q rfl (fun W hT => r_move (v := .bool _) rfl) <| sq_split (d := 14) rfl (fun g18 => ?_) (fun g18 => ?_)
   ·try simp only [nm, ne_eq] at g18
    exfalso; omega
   ·try simp only [nm, ne_eq] at g18
    refine sq_no rfl rfl <| sq_no rfl rfl <| sq_no rfl rfl <| sq_no rfl rfl <| sq_no rfl rfl <| sq_no rfl rfl <| sq_no rfl rfl <| sq_no rfl rfl <| sq_no rfl rfl <| sq_q rfl (fun W hT => r_pick (b := false) (v := .bool _) rfl rfl) <| sq_q rfl (fun W hT => r_move (v := .bool _) rfl) <| sq_q rfl (fun W hT => r_fieldAddr T.fld42_0 rfl) <| sq_q rfl (fun W hT => r_load1 (v := S _) T.one9 rfl (Blk.cell (show Blk W b4 _ _ from hT.1.trans o17) rfl)) <| sq_q rfl (fun W hT => r_slen (ct := #[9]) T.u9 rfl) <| sq_q rfl (fun W hT => r_fieldAddr T.fld42_1 rfl) <| sq_q rfl (fun W hT => r_load1 (v := S _) T.one9 rfl (Blk.cell (show Blk W b4 _ _ from hT.1.trans o17) rfl)) <| sq_q rfl (fun W hT => r_slen (ct := #[9]) T.u9 rfl) <| sq_q rfl (fun W hT => r_addn rfl rfl (by constructor <;> omega)) <| sq_q rfl (fun W hT => r_gtr rfl rfl) <| sq_q rfl (fun W hT => r_pick (b := false) (v := .bool _) rfl rfl) ?_
    clear o17
    refine sq_nil <| then_n <| x_cond rfl (fun h1 => ?_) (fun h1 => ?_)
    ·try simp only [nm, ne_eq] at h1
     refine sr rfl <| aB rfl <| en <| x_ret <| block_r <| then_r <| then_r <| block_r <| then_r <| ret_tmp (v := .bool _) rfl rfl ?_
     exact ⟨⟨_, rfl, fun h => by cases h⟩, HC⟩
    ·try simp only [nm, ne_eq] at h1
     refine x_skip <| block_n <| then_n <| x_region rfl <| Wp rfl <| st_addn rfl rfl (by constructor <;> omega) <| mI rfl <| en <| ⟨i + 1, ?_, ?_, rfl, ⟨rfl, trivial⟩, ?_⟩
     ·refine ⟨?_, HC, hv⟩
      exact ⟨by omega, rise_snoc hri hxi (fun h0 y hy => by omega), fun p hp => by rw [← take_snoc hxi] at hp; rcases List.mem_append.1 hp with hp | hp; exact hle p hp; rw [List.mem_singleton.1 hp]; omega⟩
     ·show vs.length - (i + 1) < vs.length - i; omega
     repeat (first | exact agree_upds agree_over rfl | refine agree_upd ?_ rfl | refine agree_upds ?_ rfl | refine agree_over_sub ?_ rfl)
  ·obtain ⟨yp, hyp⟩ : ∃ y, vs[i - 1]? = some y := ⟨_, List.getElem?_eq_getElem (by omega)⟩
   obtain ⟨lb23, _, vs22, hA19, hR21, hC20⟩ := hv.at (i := (i - 1)) (x := yp) (hyp)
   obtain rfl : vs22 = [S yp.1, S yp.2] := hR21
   refine x_draw [(0, 0), (1, 0), (2, 0), (3, 0), (4, 0), (5, 0), (6, 0), (7, 0), (8, 0), (9, 0), (10, 0), (11, 0), (12, 0), (13, 0), (14, 0), (15, 0), (16, 0), (17, 0), (18, 0), (19, 0), (20, 0), (21, 0), (22, 0)] T.mixed rfl rfl rfl (fun W => W.heap[b4]? = w12.heap[b4]? ∧ W.heap[lb23]? = w12.heap[lb23]? ∧ True) ⟨rfl, rfl, trivial⟩ ?_
   have o26 := hb14
   have c25 := Chg.drew w12
   generalize World.drew w12 = w24 at c25 ⊢
   have ht_lb23 : lb23 < w24.heap.size ∧ w24.heap[lb23]? = w12.heap[lb23]? := ⟨Nat.lt_of_lt_of_le hC20.lt c25.size, c25.block lb23 hC20.lt (by simp)⟩
   replace HC := HC.then c25
   replace hv := hv.tr0 c25
   replace hb14 := hb14.tr0 c25
   refine sq_q rfl (fun W hT => r_move (v := .int _ _) rfl) <| sq_q rfl (fun W hT => r_gtr rfl rfl) <| sq_q rfl (fun W hT => r_move (v := .bool _) rfl) <| sq_split (d := 14) rfl (fun g27 => ?_) (fun g27 => ?_)
   ·try simp only [nm, ne_eq] at g27
    refine sq_q rfl (fun W hT => r_move (v := .slice _ _ _) rfl) <| sq_q rfl (fun W hT => r_move (v := .int _ _) rfl) <| sq_q rfl (fun W hT => r_subk rfl rfl (by exact (show IntKind.i64.wrap _ = ((i - 1 : Nat) : Int) by rw [wrap64_id (by omega) (by omega)]; omega))) <| sq_q rfl (fun W hT => r_indexAddr T.u22 T.size42 (congrArg (fun z => Value.slice z _ _) hA19) rfl (by omega) (by omega)) <| sq_q rfl (fun W hT => r_fieldAddr T.fld42_0 rfl) <| sq_q rfl (fun W hT => r_load1 (v := S _) T.one9 rfl (Cells.at (j := 0) (Cells.tr hC20 hT.2.1) rfl)) <| sq_q rfl (fun W hT => r_fieldAddr T.fld42_0 rfl) <| sq_q rfl (fun W hT => r_load1 (v := S _) T.one9 rfl (Blk.cell (show Blk W b4 _ _ from hT.1.trans o26) rfl)) <| sq_q rfl (fun W hT => r_sgeq rfl rfl) <| sq_q rfl (fun W hT => r_pick (b := true) (v := .bool _) rfl rfl) <| sq_q rfl (fun W hT => r_move (v := .bool _) rfl) <| sq_split (d := 25) rfl (fun g28 => ?_) (fun g28 => ?_)
    ·try simp only [nm, ne_eq] at g28
     refine sq_no rfl rfl <| sq_no rfl rfl <| sq_no rfl rfl <| sq_no rfl rfl <| sq_no rfl rfl <| sq_no rfl rfl <| sq_no rfl rfl <| sq_no rfl rfl <| sq_q rfl (fun W hT => r_pick (b := true) (v := .bool _) rfl rfl) ?_
     clear o26
     refine sq_nil <| then_n <| x_cond (t := true) rfl (fun h1 => ?_) (fun h1 => ?_)
     rotate_left
     · exact absurd h1 (by decide)
     refine sr rfl <| aB rfl <| en <| x_ret <| block_r <| then_r <| then_r <| block_r <| then_r <| ret_tmp (v := .bool _) rfl rfl ?_
     exact ⟨⟨_, rfl, fun h => by cases h⟩, HC⟩
    ·try simp only [nm, ne_eq] at g28
     have hls : Op.bytesLess yp.1 x.1 = true := (by assumption)
     refine sq_q rfl (fun W hT => r_fieldAddr T.fld42_0 rfl) <| sq_q rfl (fun W hT => r_load1 (v := S _) T.one9 rfl (Blk.cell (show Blk W b4 _ _ from hT.1.trans o26) rfl)) <| sq_q rfl (fun W hT => r_slen (ct := #[9]) T.u9 rfl) <| sq_q rfl (fun W hT => r_fieldAddr T.fld42_1 rfl) <| sq_q rfl (fun W hT => r_load1 (v := S _) T.one9 rfl (Blk.cell (show Blk W b4 _ _ from hT.1.trans o26) rfl)) <| sq_q rfl (fun W hT => r_slen (ct := #[9]) T.u9 rfl) <| sq_q rfl (fun W hT => r_addn rfl rfl (by constructor <;> omega)) <| sq_q rfl (fun W hT => r_gtr rfl rfl) <| sq_q rfl (fun W hT => r_pick (b := false) (v := .bool _) rfl rfl) ?_
     clear o26
     refine sq_nil <| then_n <| x_cond rfl (fun h1 => ?_) (fun h1 => ?_)
     ·try simp only [nm, ne_eq] at h1
      refine sr rfl <| aB rfl <| en <| x_ret <| block_r <| then_r <| then_r <| block_r <| then_r <| ret_tmp (v := .bool _) rfl rfl ?_
      exact ⟨⟨_, rfl, fun h => by cases h⟩, HC⟩
     ·try simp only [nm, ne_eq] at h1
      refine x_skip <| block_n <| then_n <| x_region rfl <| Wp rfl <| st_addn rfl rfl (by constructor <;> omega) <| mI rfl <| en <| ⟨i + 1, ?_, ?_, rfl, ⟨rfl, trivial⟩, ?_⟩
      ·refine ⟨?_, HC, hv⟩
       exact ⟨by omega, rise_snoc hri hxi (fun h0 y hy => by obtain rfl := Option.some.inj (hyp.symm.trans hy); exact hls), fun p hp => by rw [← take_snoc hxi] at hp; rcases List.mem_append.1 hp with hp | hp; exact hle p hp; rw [List.mem_singleton.1 hp]; omega⟩
      ·show vs.length - (i + 1) < vs.length - i; omega
      repeat (first | exact agree_upds agree_over rfl | refine agree_upd ?_ rfl | refine agree_upds ?_ rfl | refine agree_over_sub ?_ rfl)
   ·try simp only [nm, ne_eq] at g27
    exfalso; omega
 ·try simp only [nm, ne_eq] at h0
  refine x_exit <| then_x <| then_x <| block_x <| then_n <| sr rfl <| mL rfl <| Wp rfl <| st_len (ct := #[22]) (by rw [show ((#[22] : Array TypeId)[0]?).bind Tryz.prog.underlying = some (.slice 42) from T.u22]; rfl) rfl <| Wp rfl <| st_leq rfl rfl <| aB rfl <| en <| x_ret <| ret_tmp (v := .bool _) rfl rfl ?_
  have hil : i = vs.length := by omega
  rw [hil, List.take_length] at hri hle
  exact ⟨⟨_, rfl, fun h => ⟨hri, hle, by have h9 : (vs.length : Int) ≤ 100 := (by simpa using h); omega⟩⟩, HC⟩

end Go.Proofs.YtmbbhgglllfelaaGreatDoor.K
set_option linter.unusedVariables false
set_option linter.unusedSimpArgs false
set_option autoImplicit false
set_option maxRecDepth 20000
namespace Go.Proofs.YtmbbhgglllfelaaGreatDoor.K
open Go Go.Proofs Go.RowKit
open Tr
theorem tree_p {s : Bytes} {L : List Yd} {t : Tr} (h : (parseV s L).1 = t.row 0) (h2 : (parseV s L).2.2 = 0) : parseV s L = (t.row 0, 0, 0) := by
  have hne : (parseV s L).1 ≠ [] := by
    rw [h]; intro e
    have h1 := Tr.row_len t 0
    have h2 := t.sz_pos
    rw [e] at h1; simp at h1; omega
  have h3 : (parseV s L).2.1 = 0 := by
    unfold parseV at hne ⊢
    by_cases c : ¬ (tokV L).2.2 = 0
    · rw [if_pos c] at hne; exact absurd rfl hne
    · rw [if_neg c] at hne ⊢
      cases hw : wI (pP (fuelP (tokV L).1)) .asg 0 (tokV L).1 [] with
      | none => rfl
      | some q =>
        rw [hw] at hne
        cases q with
        | bad e a => exact absurd rfl hne
        | good k ts out =>
          dsimp only at hne ⊢
          by_cases c2 : ¬ (hdT ts).1.1 = 0
          · rw [if_pos c2] at hne; exact absurd rfl hne
          · rw [if_neg c2] at hne ⊢
            by_cases c3 : 1000 < out.length
            · rw [if_pos c3] at hne; exact absurd rfl hne
            · rw [if_neg c3]
  exact Prod.ext h (Prod.ext h3 h2)

end Go.Proofs.YtmbbhgglllfelaaGreatDoor.K
set_option linter.unusedVariables false
set_option linter.unusedSimpArgs false
set_option autoImplicit false
set_option maxRecDepth 20000
namespace Go.Proofs.YtmbbhgglllfelaaGreatDoor.K
open Go Go.Proofs Go.RowKit
open Tr
/-- A variable's text, if it is there. -/
def findV : List Vr → Bytes → Option Bytes
  | [], _ => none
  | p :: vs, n => if p.1 = n then some p.2 else findV vs n
def lastV : List Vr → Bytes → Option Bytes
  | [], _ => none
  | p :: vs, n => (lastV vs n).or (if p.1 = n then some p.2 else none)
theorem lastV_snoc {vs : List Vr} {p : Vr} {n : Bytes} : lastV (vs ++ [p]) n = if p.1 = n then some p.2 else lastV vs n := by
  induction vs with
  | nil => simp [lastV]
  | cons a vs ih =>
    rw [List.cons_append, lastV, ih, lastV]
    split <;> simp
theorem findV_app (a b : List Vr) (n : Bytes) : findV (a ++ b) n = (findV a n).or (findV b n) := by
  induction a with
  | nil => simp [findV]
  | cons p a ih => rw [List.cons_append, findV, findV, ih]; split <;> simp
theorem findV_none {vs : List Vr} {n : Bytes} (h : ∀ p, p ∈ vs → p.1 ≠ n) : findV vs n = none := by
  induction vs with
  | nil => rfl
  | cons a vs ih => rw [findV, if_neg (h a (List.mem_cons_self ..))]; exact ih fun p hp => h p (List.mem_cons_of_mem _ hp)
theorem lastV_none {vs : List Vr} {n : Bytes} (h : ∀ p, p ∈ vs → p.1 ≠ n) : lastV vs n = none := by
  induction vs with
  | nil => rfl
  | cons a vs ih => rw [lastV, if_neg (h a (List.mem_cons_self ..)), ih fun p hp => h p (List.mem_cons_of_mem _ hp)]; rfl
theorem lastV_find {vs : List Vr} (hr : Rise vs) (n : Bytes) : lastV vs n = findV vs n := by
  induction vs with
  | nil => rfl
  | cons a vs ih =>
    have h2 := List.pairwise_cons.1 hr
    rw [lastV, findV]
    by_cases e : a.1 = n
    · rw [if_pos e, if_pos e, lastV_none fun p hp => fun e2 => less_ne (h2.1 p hp) (by rw [e, e2])]; rfl
    · rw [if_neg e, if_neg e, ih h2.2]; simp
theorem findV_mem {vs : List Vr} (hr : Rise vs) {p : Vr} (hp : p ∈ vs) : findV vs p.1 = some p.2 := by
  induction vs with
  | nil => cases hp
  | cons a vs ih =>
    have h2 := List.pairwise_cons.1 hr
    rw [findV]
    rcases List.mem_cons.1 hp with rfl | hp
    · rw [if_pos rfl]
    · rw [if_neg (less_ne (h2.1 p hp)), ih h2.2 hp]
theorem findV_put {vs : List Vr} {m n : Bytes} {x : Int} : findV (putL vs m x) n = if m = n then some (textV x) else findV vs n := by
  have ht : ∀ p, p ∈ vs.take (plN vs m) → p.1 ≠ m := fun p hp => less_ne (plN_take p hp)
  have key : ∀ e, e = 0 ∨ (e = 1 ∧ isAt vs m = true) → findV (vs.take (plN vs m) ++ (m, textV x) :: vs.drop (plN vs m + e)) n = if m = n then some (textV x) else findV vs n := by
    intro e he
    rw [findV_app, findV]
    by_cases h : m = n
    · subst h
      rw [if_pos rfl, if_pos rfl, findV_none ht]; rfl
    · rw [if_neg h, if_neg h, ← findV_app]
      rcases he with rfl | ⟨rfl, ha⟩
      · rw [Nat.add_zero, List.take_append_drop]
      · have hlt := isAt_lt ha
        conv => rhs; rw [← List.take_append_drop (plN vs m) vs]
        rw [findV_app, findV_app, List.drop_eq_getElem_cons hlt, findV]
        have h5 : vs[plN vs m].1 = m := by
          unfold isAt at ha; rw [decide_eq_true_eq, List.getElem?_eq_getElem hlt] at ha
          simpa using ha
        rw [if_neg (by rw [h5]; exact h)]
  unfold putL
  split
  · rename_i ha
    have hlt := isAt_lt ha
    rw [List.set_eq_take_append_cons_drop, if_pos hlt]; exact key 1 (.inr ⟨rfl, ha⟩)
  · exact key 0 (.inl rfl)
/-- Does a row assign a name. -/
def asgB (l : List Nd) (n : Bytes) : Bool := l.any fun x => decide (x.op ∈ asgL) && decide (x.name = n)
def asgT : Tr → Bytes → Bool
  | .num _, _ => false
  | .var _, _ => false
  | .asg _ m t, n => asgT t n || decide (m = n)
  | .un _ t, n => asgT t n
  | .cnd a b c, n => asgT a n || asgT b n || asgT c n
  | .bin _ a b, n => asgT a n || asgT b n
theorem asgB_app (a b : List Nd) (n : Bytes) : asgB (a ++ b) n = (asgB a n || asgB b n) := by simp [asgB]
theorem asgB_one (x : Nd) (n : Bytes) : asgB [x] n = (decide (x.op ∈ asgL) && decide (x.name = n)) := by simp [asgB]
theorem asgB_row : ∀ (t : Tr) (b : Nat) (n : Bytes), t.ok → asgB (t.row b) n = asgT t n
  | .num k, b, n, _ => by simp only [row, asgT, asgB_one]; rw [decide_eq_false (by decide)]; rfl
  | .var k, b, n, _ => by simp only [row, asgT, asgB_one]; rw [decide_eq_false (by decide)]; rfl
  | .asg o m t, b, n, h => by simp only [row, asgT, asgB_app, asgB_one]; rw [asgB_row t b n h.2.2, decide_eq_true h.1]; simp
  | .un o t, b, n, h => by simp only [row, asgT, asgB_app, asgB_one]; rw [asgB_row t b n h.2, decide_eq_false (un_op h.1).2.2.1]; simp
  | .cnd x y z, b, n, h => by simp only [row, asgT, asgB_app, asgB_one]; rw [asgB_row x b n h.1, asgB_row y _ n h.2.1, asgB_row z _ n h.2.2, decide_eq_false (by decide)]; simp [Bool.or_assoc]
  | .bin o x y, b, n, h => by simp only [row, asgT, asgB_app, asgB_one]; rw [asgB_row x b n h.2.1, asgB_row y _ n h.2.2, decide_eq_false (lv_op h.1).2.2.1]; simp
/-- What an evaluation may do to variables, if it assigns no name but those of F. -/
def Kp (F : Bytes → Bool) (u v : List Vr) : Prop := (∀ n, F n = false → findV v n = findV u n) ∧ ∀ n, (findV u n).isSome = true → (findV v n).isSome = true
theorem Kp.refl (F : Bytes → Bool) (u : List Vr) : Kp F u u := ⟨fun _ _ => rfl, fun _ h => h⟩
theorem Kp.trans {F : Bytes → Bool} {u v z : List Vr} (h : Kp F u v) (k : Kp F v z) : Kp F u z := ⟨fun n hn => (k.1 n hn).trans (h.1 n hn), fun n hn => k.2 n (h.2 n hn)⟩
theorem putV_kp {F : Bytes → Bool} {u q : List Vr} {m : Bytes} {x : Int} (h : putV u m x = some q) (hF : F m = true) : Kp F u q := by
  unfold putV at h
  split at h
  · obtain rfl := Option.some.inj h
    refine ⟨fun n hn => ?_, fun n hn => ?_⟩
    · rw [findV_put, if_neg (fun e => by rw [← e, hF] at hn; cases hn)]
    · rw [findV_put]; split
      · rfl
      · exact hn
  · cases h
theorem asgV_kp {F : Bytes → Bool} {o n : Bytes} {a : Int} {vs : List Vr} {r : Rs} (h : asgV o n a vs = some r) (hF : F n = true) : Kp F vs r.2.1 := by
  unfold asgV at h
  split at h
  · obtain ⟨q, h1, h2⟩ := obind h; obtain rfl := Option.some.inj h2; exact putV_kp h1 hF
  · split at h
    · obtain rfl := Option.some.inj h; exact .refl _ _
    · split at h
      · obtain rfl := Option.some.inj h; exact .refl _ _
      · obtain ⟨q, h1, h2⟩ := obind h; obtain rfl := Option.some.inj h2; exact putV_kp h1 hF
theorem evalN_kp {F : Bytes → Bool} {x : Nd} {k : Nat → List Vr → Option Rs} {vs : List Vr} {r : Rs} (h : evalN x k vs = some r) (hn : x.op ≠ [36] → x.name ≠ [] → F x.name = true) (hk : ∀ i u r, k i u = some r → Kp F u r.2.1) : Kp F vs r.2.1 := by
  unfold evalN at h
  by_cases c1 : x.op = [35]
  · rw [if_pos c1] at h; obtain rfl := Option.some.inj h; exact .refl _ _
  rw [if_neg c1] at h
  by_cases c2 : x.op = [36]
  · rw [if_pos c2] at h; obtain rfl := Option.some.inj h; exact .refl _ _
  rw [if_neg c2] at h
  obtain ⟨q, hq, h⟩ := obind h
  have hq0 := hk _ _ _ hq
  by_cases c3 : q.2.2 = 0
  case neg => rw [if_pos c3] at h; obtain rfl := Option.some.inj h; exact hq0
  rw [if_neg (fun h => h c3)] at h
  by_cases c4 : x.name = []
  case neg => rw [if_pos c4] at h; exact hq0.trans (asgV_kp h (hn c2 c4))
  rw [if_neg (fun h => h c4)] at h
  by_cases c5 : x.op = [117, 43]
  · rw [if_pos c5] at h; obtain rfl := Option.some.inj h; exact hq0
  rw [if_neg c5] at h
  by_cases c6 : x.op = [117, 45]
  · rw [if_pos c6] at h; obtain rfl := Option.some.inj h; exact hq0
  rw [if_neg c6] at h
  by_cases c7 : x.op = [117, 33]
  · rw [if_pos c7] at h; obtain rfl := Option.some.inj h; exact hq0
  rw [if_neg c7] at h
  by_cases c8 : x.op = [117, 126]
  · rw [if_pos c8] at h; obtain rfl := Option.some.inj h; exact hq0
  rw [if_neg c8] at h
  by_cases c9 : x.op = [63]
  · rw [if_pos c9] at h
    by_cases d : q.1 = 0
    · rw [if_neg (fun h => h d)] at h; exact hq0.trans (hk _ _ _ h)
    · rw [if_pos d] at h; exact hq0.trans (hk _ _ _ h)
  rw [if_neg c9] at h
  by_cases c10 : x.op = [38, 38]
  · rw [if_pos c10] at h
    by_cases d : q.1 = 0
    · rw [if_neg (fun h => h d)] at h; obtain rfl := Option.some.inj h; exact hq0
    · rw [if_pos d] at h; obtain ⟨z, hz, h⟩ := obind h; have hz1 := hk _ _ _ hz; obtain rfl := Option.some.inj h; exact hq0.trans hz1
  rw [if_neg c10] at h
  by_cases c11 : x.op = [124, 124]
  · rw [if_pos c11] at h
    by_cases d : q.1 = 0
    · rw [if_neg (fun h => h d)] at h; obtain ⟨z, hz, h⟩ := obind h; have hz1 := hk _ _ _ hz; obtain rfl := Option.some.inj h; exact hq0.trans hz1
    · rw [if_pos d] at h; obtain rfl := Option.some.inj h; exact hq0
  rw [if_neg c11] at h
  obtain ⟨z, hz, h⟩ := obind h; have hz1 := hk _ _ _ hz; obtain rfl := Option.some.inj h; exact hq0.trans hz1
theorem runV_kp : ∀ (t : Tr) (vs : List Vr) (r : Rs) (F : Bytes → Bool), (∀ n, asgT t n = true → F n = true) → runV t vs = some r → Kp F vs r.2.1
  | .num n, vs, r, F, hF, h => by rw [runV] at h; exact evalN_kp h (fun _ e => absurd rfl e) (fun _ _ _ h => by cases h)
  | .var n, vs, r, F, hF, h => by rw [runV] at h; exact evalN_kp h (fun e => absurd rfl e) (fun _ _ _ h => by cases h)
  | .asg o n t, vs, r, F, hF, h => by
    rw [runV] at h
    refine evalN_kp h (fun _ _ => hF n (by simp [asgT])) <| fun i u q h => ?_
    match i with
    | 0 => exact runV_kp t u q F (fun m hm => hF m (by simp [asgT, hm])) h
    | i + 1 => cases h
  | .un o t, vs, r, F, hF, h => by
    rw [runV] at h
    refine evalN_kp h (fun _ e => absurd rfl e) <| fun i u q h => ?_
    match i with
    | 0 => exact runV_kp t u q F (fun m hm => hF m (by simp [asgT, hm])) h
    | i + 1 => cases h
  | .cnd a b c, vs, r, F, hF, h => by
    rw [runV] at h
    refine evalN_kp h (fun _ e => absurd rfl e) <| fun i u q h => ?_
    match i with
    | 0 => exact runV_kp a u q F (fun m hm => hF m (by simp [asgT, hm])) h
    | 1 => exact runV_kp b u q F (fun m hm => hF m (by simp [asgT, hm])) h
    | 2 => exact runV_kp c u q F (fun m hm => hF m (by simp [asgT, hm])) h
    | i + 3 => cases h
  | .bin o a b, vs, r, F, hF, h => by
    rw [runV] at h
    refine evalN_kp h (fun _ e => absurd rfl e) <| fun i u q h => ?_
    match i with
    | 0 => exact runV_kp a u q F (fun m hm => hF m (by simp [asgT, hm])) h
    | 1 => exact runV_kp b u q F (fun m hm => hF m (by simp [asgT, hm])) h
    | i + 2 => cases h
theorem stay_cases {s : Bytes} {vs : List Vr} (hs : s.length ≤ 140737488355328) (hv : VK vs) : ((parseV s (toksF (s.length + 1) s 0)).2.2 ≠ 0) ∨ (∃ t r, t.ok ∧ t.sz ≤ 1000 ∧ (parseV s (toksF (s.length + 1) s 0)) = (t.row 0, 0, 0) ∧ runV t vs = some r ∧ r.2.2 ≠ 0) ∨ ∃ t r, t.ok ∧ t.sz ≤ 1000 ∧ (parseV s (toksF (s.length + 1) s 0)) = (t.row 0, 0, 0) ∧ runV t vs = some r ∧ r.2.2 = 0 ∧ Rise r.2.1 ∧ r.2.1.length ≤ vs.length + 1000 ∧ Kp (asgB (t.row 0)) vs r.2.1 := by
  rcases parse_tree (L := toksF (s.length + 1) s 0) hs rfl with ⟨hbad, _⟩ | ⟨hp2, t, hok, htz, hp1⟩
  · exact .inl hbad
  · obtain ⟨r, hr, _⟩ := runV_some t vs hok hv
    have hp := tree_p hp1 hp2
    by_cases e : r.2.2 = 0
    · have h3 := runV_vk t vs r hr hv
      exact .inr (.inr ⟨t, r, hok, htz, hp, hr, e, h3.1.1, by omega, runV_kp t vs r _ (fun n hn => by rw [asgB_row t 0 n hok]; exact hn) hr⟩)
    · exact .inr (.inl ⟨t, r, hok, htz, hp, hr, e⟩)

/-! ### maps of texts, told by what they have for a key -/
def MpAt (w : World) (b : Nat) (g : Bytes → Option Value) : Prop := ∃ es, MapAt w b es ∧ ∀ n, mget es n = g n
theorem MpAt.tr {w w' : World} {b : Nat} {g : Bytes → Option Value} {bs : List Nat} (h : MpAt w b g) (hc : Chg bs w w') (hb : b ∉ bs) : MpAt w' b g := by obtain ⟨es, h1, h2⟩ := h; exact ⟨es, h1.tr hc hb, h2⟩
theorem MpAt.tr0 {w w' : World} {b : Nat} {g : Bytes → Option Value} (h : MpAt w b g) (hc : Chg [] w w') : MpAt w' b g := h.tr hc (by simp)
theorem MpAt.fresh {w : World} {b k : Nat} {g : Bytes → Option Value} (h : MpAt w b g) (hk : w.heap.size ≤ k) : b ≠ k := by obtain ⟨es, h1, _⟩ := h; exact h1.fresh hk
theorem MpAt.same {w W : World} {b : Nat} {g : Bytes → Option Value} (h : MpAt w b g) (e : W.heap[b]? = w.heap[b]?) : MpAt W b g := by
  obtain ⟨es, ⟨ar, ck, h1, h2⟩, h3⟩ := h; exact ⟨es, ⟨ar, ck, e.trans h1, h2⟩, h3⟩
theorem MpAt.lt {w : World} {b : Nat} {g : Bytes → Option Value} (h : MpAt w b g) : b < w.heap.size := by obtain ⟨es, h1, _⟩ := h; exact h1.lt
theorem MpAt.of {w : World} {b : Nat} {g : Bytes → Option Value} (h : MapAt w b []) (hg : ∀ n, g n = none) : MpAt w b g := ⟨[], h, fun n => (hg n).symm⟩
theorem MpAt.put {w : World} {b : Nat} {g g' : Bytes → Option Value} {es : List (Bytes × Value)} {s : Bytes} {v : Value} (h : MapAt w b (mput es s v)) (hg : ∀ n, mget es n = g n) (h' : ∀ n, g' n = if s = n then some v else g n) : MpAt w b g' := ⟨_, h, fun n => by rw [mget_put, h', hg]⟩
section rules
variable {P : Program} {r : Option Nat} {n : Nat} {O : Array Oper} {Q : Post} {l : List Oper} {E : Env} {ds : List Deferred} {w : World} {dst : Option Nat} {ty : TypeId} {pos : String} {af : Array Edge} {gd : Option (Nat × Bool)}
theorem r_lookV {t e : TypeId} {x y : Operand} {b : Nat} {s : Bytes} {z v : Value} {g : Bytes → Option Value} (hB : mapB P t e) (hz : zvB P e z) (hx : ev E x = .map (some b)) (hy : ev E y = S s) (hm : MpAt w b g) (hv : (g s).getD z = v) : (execOp (ev E) ⟨dst, .lookup t x y false, ty, pos, af, gd⟩).run P w = .ok (.value v) w := by
  obtain ⟨es, h1, h2⟩ := hm
  rw [r_look hB hz hx hy h1, h2, hv]
theorem st_lookV {t e : TypeId} {x y : Operand} {b : Nat} {s : Bytes} {z v : Value} {g : Bytes → Option Value} (hB : mapB P t e) (hz : zvB P e z) (hx : ev E x = .map (some b)) (hy : ev E y = S s) (hm : MpAt w b g) (hv : (g s).getD z = v) (h : wops P r n O Q l (updo E dst v) ds w) : wop P r n O Q ⟨dst, .lookup t x y false, ty, pos, af, gd⟩ l E ds w := wop_run (fun _ => by simp) (r_lookV hB hz hx hy hm hv) h
theorem st_lookOkV {t e : TypeId} {x y : Operand} {b : Nat} {s : Bytes} {z v : Value} {q : Bool} {g : Bytes → Option Value} (hB : mapB P t e) (hz : zvB P e z) (hx : ev E x = .map (some b)) (hy : ev E y = S s) (hm : MpAt w b g) (hv : (g s).getD z = v) (hq : (g s).isSome = q) (h : wops P r n O Q l (updo E dst (.tuple ⟨[v, .bool q]⟩)) ds w) : wop P r n O Q ⟨dst, .lookup t x y true, ty, pos, af, gd⟩ l E ds w := by
  obtain ⟨es, h1, h2⟩ := hm
  exact st_lookOk hB hz hx hy h1 (by rw [h2]; exact hv) (by rw [h2]; exact hq) h
theorem st_mapPutV {t e : TypeId} {x y z : Operand} {b : Nat} {s : Bytes} {v : Value} {g : Bytes → Option Value} (g' : Bytes → Option Value) (hB : mapB P t e) (hx : ev E x = .map (some b)) (hy : ev E y = S s) (hz : ev E z = v) (hm : MpAt w b g) (hg : ∀ n, g' n = if s = n then some v else g n) (h : ∀ w', Chg [b] w w' → MpAt w' b g' → wops P r n O Q l (updo E dst undef) ds w') : wop P r n O Q ⟨dst, .mapUpdate t x y z, ty, pos, af, gd⟩ l E ds w := by
  obtain ⟨es, h1, h2⟩ := hm
  exact st_mapPut hB hx hy hz h1 fun w' hc hm' => h w' hc (MpAt.put hm' h2 hg)
end rules
def asgG (l : List Nd) (n : Bytes) : Option Value := if asgB l n = true then some (.bool true) else none
def varG (vs : List Vr) (n : Bytes) : Option Value := (lastV vs n).map fun x => S x
theorem asgG_get (l : List Nd) (n : Bytes) : (asgG l n).getD (.bool false) = .bool (asgB l n) := by unfold asgG; cases asgB l n <;> rfl
theorem varG_get (vs : List Vr) (n : Bytes) : (varG vs n).getD (S []) = S ((lastV vs n).getD []) := by unfold varG; cases lastV vs n <;> rfl
theorem varG_some (vs : List Vr) (n : Bytes) : (varG vs n).isSome = (lastV vs n).isSome := by unfold varG; cases lastV vs n <;> rfl
theorem asgG_yes {l : List Nd} {i : Nat} {x : Nd} (h : l[i]? = some x) (ho : x.op ∈ asgL) (n : Bytes) : asgG (l.take (i + 1)) n = if x.name = n then some (.bool true) else asgG (l.take i) n := by
  unfold asgG; rw [← take_snoc h, asgB_app, asgB_one, decide_eq_true ho]
  by_cases e : x.name = n <;> simp [e]
theorem asgG_no {l : List Nd} {i : Nat} {x : Nd} (h : l[i]? = some x) (ho : x.op ∉ asgL) : asgG (l.take (i + 1)) = asgG (l.take i) := by
  funext n; unfold asgG; rw [← take_snoc h, asgB_app, asgB_one, decide_eq_false ho]; simp
theorem varG_put {vs : List Vr} {i : Nat} {p : Vr} (h : vs[i]? = some p) (n : Bytes) : varG (vs.take (i + 1)) n = if p.1 = n then some (S p.2) else varG (vs.take i) n := by
  unfold varG; rw [← take_snoc h, lastV_snoc]; split <;> rfl

end Go.Proofs.YtmbbhgglllfelaaGreatDoor.K
