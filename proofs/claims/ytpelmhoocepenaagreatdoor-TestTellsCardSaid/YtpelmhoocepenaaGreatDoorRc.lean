/- The document's walk, third part. -/
import Derived.Test.YtpelmhoocepenaaGreatDoorRb
set_option linter.unusedVariables false
set_option linter.unusedSimpArgs false
set_option autoImplicit false
set_option maxRecDepth 20000
namespace Go.Proofs.YtpelmhoocepenaaGreatDoor.K
open Go Go.Proofs Go.RowKit

section
variable {P : Program} {r : Option Nat} {n : Nat} {O : Array Oper} {Q : Post} {E : Env} {ds : List Deferred} {w : World} {l : List Oper}
variable {dst : Option Nat} {ty : TypeId} {pos : String} {af : Array Edge} {g : Option (Nat × Bool)}
/-- Texts that lie elsewhere are appended. -/
theorem st_appendS {D Dl : Nat → Prop} {A B : Option Addr} {cap m k m2 : Nat} {xs ys : List Bytes} {t e : TypeId} {bytes : Nat} {x y : Operand} (hS : sliceB P t e 1 bytes)
    (hx : ev E x = .slice A m cap) (hm : m = xs.length) (ho : Own sE e w D A cap xs) (hyv : ev E y = .slice B k m2) (hk : k = ys.length) (hy : Sl sE w Dl B ys)
    (hfr : ∀ k, w.heap.size ≤ k → D k) (h63 : xs.length + ys.length ≤ 9223372036854775807) (hby : (xs.length + ys.length) * bytes ≤ 140737488355328)
    (h : ∀ A' cap' w', Own sE e w' D A' cap' (xs ++ ys) → Chg (ob A) w w' → wops P r n O Q l (updo E dst (.slice A' (xs ++ ys).length cap')) ds w') : wop P r n O Q ⟨dst, .call ⟨.builtin .append, #[x, y], #[t, t]⟩, ty, pos, af, g⟩ l E ds w := by
  cases ys with
  | nil =>
    subst hm hk
    have hr := r_append0 (dst := dst) (ty := ty) (pos := pos) (af := af) (g := g) (w := w) hS hx hyv ho.le.1
    have h2 := h A cap w (by rw [List.append_nil]; exact ho) (.refl _)
    rw [List.append_nil] at h2
    exact wop_run (fun _ => by simp) hr h2
  | cons y0 ys0 =>
    rcases hy with hy | ⟨b, o, rfl, _, _, hc⟩
    · cases hy
    obtain ⟨A', cap', w', h1, h2, h3, h4⟩ := r_append (dst := dst) (ty := ty) (pos := pos) (af := af) (g := g) (D2 := fun _ => False) hS hx hm ho hyv hk (fun j y hj => by obtain ⟨vs, q1, q2⟩ := hc j y hj; exact ⟨vs, q1, q2⟩) (fun _ _ h => h.elim) hfr h63 hby
    have h5 := h A' cap' w' h2 h3
    rw [List.length_append] at h5
    exact wop_run (fun _ => by simp) h1 h5
end
theorem sl_tail {w : World} {D : Nat → Prop} {A : Option Addr} {xs l : List Bytes} {x : Bytes} {c : Nat} (h : Sl sE w D A xs) (hx : xs = x :: l) (hc : xs.length ≤ c) : Sl sE w D (if c = 1 then A else A.map (·.add (1 * 1))) l := by
  subst hx
  split
  · rename_i e
    rw [List.length_cons] at hc
    exact .inl (List.length_eq_zero_iff.1 (by omega))
  · exact h.drop 1
theorem goV_cons {Z : Tre} {last : Bool} {k : Nat} {q : Wst} {x : Bytes} {l : List Bytes} (hk : mW q < k) (h : q.left = x :: l) : ∃ j, k = j + 1 ∧ goV Z last k q = if ¬ (nxtW Z last q x l).1 = 0 then (0, (nxtW Z last q x l).1) else goV Z last j (nxtW Z last q x l).2 := by
  cases k with
  | zero => omega
  | succ k => exact ⟨k, rfl, by rw [goV, h]⟩
theorem curV_in {n : Nat} {p : Bytes} {k : Int} (h0 : (0 : Int) ≤ 0 ∧ (0 : Int) < n) (h : 0 ≤ k ∧ k < n) : 0 ≤ curV p k ∧ curV p k < n := by unfold curV; split; (exact h0); exact h
theorem goV_err {Z : Tre} {last : Bool} : ∀ (k : Nat) (q : Wst), ¬ (goV Z last k q).2 = 0 → (goV Z last k q).1 = 0
  | 0, q, h => rfl
  | k + 1, q, h => by
    rw [goV] at h ⊢
    cases hq : q.left with
    | nil => rw [hq] at h; exact absurd rfl h
    | cons x l =>
      rw [hq] at h
      simp only at h ⊢
      by_cases e : ¬ (nxtW Z last q x l).1 = 0
      · rw [if_pos e]
      · rw [if_neg e] at h ⊢; exact goV_err k _ h
theorem hasSuf1 {p : Bytes} (h : p ≠ []) : Lib.hasSuffix p [47] = decide (((byte p (((p.length : Nat) : Int) - 1).toNat).toNat : Int) = 47) := by
  obtain ⟨a, c, rfl⟩ : ∃ a c, p = a ++ [c] := ⟨p.dropLast, p.getLast h, (List.dropLast_concat_getLast h).symm⟩
  have e : (((a ++ [c]).length : Int) - 1).toNat = a.length := by simp
  have hb : byte (a ++ [c]) a.length = c := by simp [byte]
  rw [e, hb, Bool.eq_iff_iff, decide_eq_true_eq]
  unfold Lib.hasSuffix List.isSuffixOf
  simp only [List.reverse_append, List.reverse_cons, List.reverse_nil, List.nil_append, List.cons_append, List.isPrefixOf, Bool.and_true, beq_iff_eq]
  constructor
  · rintro rfl; rfl
  · intro h; exact (UInt8.toNat_inj.1 (show c.toNat = (47 : UInt8).toNat by show c.toNat = 47; omega)).symm

theorem Rbegin_spec (cwd : Int) (p : Bytes) (w : World) : CallR Tryz.prog 48 #[.int .i64 cwd, S p] w fun v w' => v = .int .i64 (curV p cwd) ∧ Chg [] w w' := by
 refine callR_of_wp (args := [_, _]) Tryz.func48 rfl (Nat.le_of_ble_eq_true rfl) ?_
 have HC : Chg [] w w := .refl _
 refine sr rfl <| aI rfl <| en <| x_seq <| sr rfl <| mS rfl <| Wp rfl <| st_call (ags := [_]) rfl rfl T.ent63 rfl (RWhole_spec _ _) ?_
 rintro _ w1 ⟨rfl, c2⟩
 replace HC := HC.then c2
 refine en <| x_cond rfl (fun h0 => ?_) (fun h0 => ?_)
 ·try simp only [nm, ne_eq] at h0
  refine sr rfl <| aI rfl <| en <| x_ret <| then_r <| ret_tmp (v := .int _ _) rfl rfl <| ⟨congrArg (Value.int .i64) ?_, HC⟩
  unfold curV; rw [if_pos (by simpa using h0)]
 ·try simp only [nm, ne_eq] at h0
  refine x_skip <| then_n <| sr rfl <| mI rfl <| aI rfl <| en <| x_ret <| ret_tmp (v := .int _ _) rfl rfl <| ⟨congrArg (Value.int .i64) ?_, HC⟩
  unfold curV; rw [if_neg (by simpa using h0)]

theorem Rbad_spec {Z : Tre} {An : Option Addr} {capn : Nat} {mx my : Int} {D : Nat → Prop} {w : World} (hT : Sl inE w D An Z) (hTl : Z.length ≤ 1000000000) (cwd : Int) (p : Bytes) (hp : p.length ≤ 140737488351232) : CallR Tryz.prog 46 #[.agg ⟨[.slice An Z.length capn, .int .i64 mx, .int .i64 my]⟩, .int .i64 cwd, S p] w fun v w' => v = .int .i64 (badP Z cwd p) ∧ Chg [] w w' := by
 replace hT := hT.mono (D' := fun k => k < w.heap.size) (fun k hk _ => hk)
 refine callR_of_wp (args := [_, _, _]) Tryz.func46 rfl (Nat.le_of_ble_eq_true rfl) ?_
 have HC : Chg [] w w := .refl _
 refine sr rfl <| Wp rfl <| st_box (v := .agg ⟨[.slice _ _ _, .int _ _, .int _ _]⟩) (vs := [_, _, _]) rfl rfl ?_
 intro b3 w1 e2 c3 hb4
 have ge_b3 : w.heap.size ≤ b3 := by rw [e2]; exact HC.size
 replace HC := HC.then c3
 replace hT := hT.tr0 c3
 clear e2
 refine aI rfl <| en <| x_seq <| sr rfl <| mS rfl <| Wp rfl <| st_seql rfl rfl <| mB rfl <| w_split (d := 11) rfl (fun g5 => ?_) (fun g5 => ?_)
 ·try simp only [nm, ne_eq] at g5
  iterate 4 refine w_no 2 11 false ?_
  refine pT rfl rfl <| en <| x_cond (t := true) rfl (fun h0 => ?_) (fun h0 => ?_)
  rotate_left
  · exact absurd h0 (by decide)
  refine sr rfl <| aI rfl <| en <| x_ret <| then_r <| ret_tmp (v := .int _ _) rfl rfl <| ⟨congrArg (Value.int .i64) ?_, HC⟩
  unfold badP; rw [if_pos (by assumption)]
 ·try simp only [nm, ne_eq] at g5
  refine w_yes 2 11 false <| st_loadA (vs := [_, _, _]) T.agg24 rfl (hb4.cells (n := 3) (vs := [_, _, _]) rfl) rfl <| w_yes 2 11 false <| st_move (v := .int _ _) rfl <| w_yes 2 11 false <| st_call (ags := [_, _]) rfl rfl T.ent50 rfl (r4dir_spec hT hTl _) ?_
  rintro _ w6 ⟨rfl, c7⟩
  replace HC := HC.then c7
  replace hT := hT.tr0 c7
  replace hb4 := hb4.tr0 c7
  refine w_yes 2 11 false <| st_not rfl <| pF rfl rfl <| en <| x_cond rfl (fun h0 => ?_) (fun h0 => ?_)
  ·try simp only [nm, ne_eq] at h0
   refine sr rfl <| aI rfl <| en <| x_ret <| then_r <| ret_tmp (v := .int _ _) rfl rfl <| ⟨congrArg (Value.int .i64) ?_, HC⟩
   unfold badP; rw [if_neg (by assumption), if_pos (by first | assumption | simp_all)]
  ·try simp only [nm, ne_eq] at h0
   refine x_skip <| then_n <| x_seq <| sr rfl <| mS rfl <| Wp rfl <| st_slen (ct := #[9]) T.u9 rfl <| Wp rfl <| st_gtr rfl rfl <| en <| x_cond rfl (fun h1 => ?_) (fun h1 => ?_)
   ·try simp only [nm, ne_eq] at h1
    refine sr rfl <| aI rfl <| en <| x_ret <| then_r <| ret_tmp (v := .int _ _) rfl rfl <| ⟨congrArg (Value.int .i64) ?_, HC⟩
    unfold badP; rw [if_neg (by assumption), if_neg (by first | simp_all; done | assumption), if_pos (by omega)]
   ·try simp only [nm, ne_eq] at h1
    refine x_skip <| then_n <| sr rfl <| mS rfl <| Wp rfl <| st_call (ags := [_]) rfl rfl T.ent49 rfl (RParts_spec p _ (by omega)) ?_
    rintro _ w8 ⟨⟨Ap, cp, rfl, hsp⟩, c9⟩
    have hlp := hsp.sl.mono (D' := fun _ => True) (fun _ _ _ => trivial)
    have hlc := hsp.le.1
    have hpl : (partsV p).length ≤ _ := partsF_len _ _
    replace HC := HC.then c9
    replace hT := hT.tr0 c9
    replace hb4 := hb4.tr0 c9
    refine aL rfl <| en <| x_seq <| sr rfl <| aI rfl <| en <| x_block <| x_loop (ι := Nat) [6, 8, 22, 23, 24, 25, 26, 27, 28, 29, 30, 31, 32, 33] (fun i => [(8, .int .i64 (i : Int))]) (fun i W => (i ≤ (partsV p).length ∧ ∀ (j : Nat) n, j < i → (partsV p)[j]? = some n → ¬ 64 < n.length) ∧ (Chg [] w W) ∧ (Sl inE W (fun k => k < w.heap.size) An Z) ∧ (Blk W b3 [.slice An Z.length capn, .int .i64 mx, .int .i64 my] 24) ∧ (Sl sE W (fun _ => True) Ap (partsV p))) (fun i => (partsV p).length - i) 0 ?_ ?_ ?_
    · exact ⟨rfl, trivial⟩
    ·refine ⟨?_, HC, hT, hb4, hlp⟩
     exact ⟨Nat.zero_le _, fun j n hj => absurd hj (Nat.not_lt_zero _)⟩
    intro i G11 w10 ⟨⟨hi, hno⟩, HC, hT, hb4, hlp⟩
    change wp _ _ _ _ _ (upds (over _ _ G11) [(8, .int .i64 (i : Int))]) _ _
    refine x_seq <| sr rfl <| mI rfl <| mL rfl <| Wp rfl <| st_len (ct := #[25]) (by rw [show ((#[25] : Array TypeId)[0]?).bind Tryz.prog.underlying = some (.slice 9) from T.u25]; rfl) rfl <| Wp rfl <| st_lss rfl rfl <| en <| x_cond rfl (fun h2 => ?_) (fun h2 => ?_)
    ·try simp only [nm, ne_eq] at h2
     refine x_skip <| then_n <| x_seq <| x_block <| x_seq ?_
     obtain ⟨q, hq⟩ : ∃ q, (partsV p)[i]? = some q := ⟨_, List.getElem?_eq_getElem (by omega)⟩
     refine x_region rfl <| mL rfl <| mI rfl ?_
     obtain ⟨lb16, _, vs15, hA12, hR14, hC13⟩ := hlp.at (i := i) (x := q) (hq)
     obtain rfl : vs15 = [S q] := hR14
     refine Wp rfl <| st_indexAddr T.u25 T.size9 (congrArg (fun z => Value.slice z _ _) hA12) rfl (by omega) (by omega) <| lS T.one9 rfl (hC13.at (j := 0) rfl) <| Wp rfl <| st_slen (ct := #[9]) T.u9 rfl <| Wp rfl <| st_gtr rfl rfl <| en <| x_cond rfl (fun h3 => ?_) (fun h3 => ?_)
     ·try simp only [nm, ne_eq] at h3
      refine sr rfl <| aI rfl <| en <| x_ret <| block_r <| then_r <| then_r <| block_r <| then_r <| ret_tmp (v := .int _ _) rfl rfl <| ⟨congrArg (Value.int .i64) ?_, HC⟩
      unfold badP; rw [if_neg (by assumption), if_neg (by first | simp_all; done | assumption), if_neg (by omega), if_pos (List.any_eq_true.2 ⟨q, List.mem_of_getElem? hq, by unfold longB; exact decide_eq_true (by omega)⟩)]
     ·try simp only [nm, ne_eq] at h3
      refine x_skip <| block_n <| then_n <| x_region rfl <| mI rfl <| Wp rfl <| st_addn rfl rfl (by constructor <;> omega) <| aI rfl <| en <| ⟨i + 1, ?_, ?_, rfl, ⟨rfl, trivial⟩, ?_⟩
      ·refine ⟨?_, HC, hT, hb4, hlp⟩
       exact ⟨by omega, fun j y hj hy => by by_cases e : j = i; (subst e; rw [hq] at hy; obtain rfl := Option.some.inj hy; omega); exact hno j y (by omega) hy⟩
      ·show (partsV p).length - (i + 1) < (partsV p).length - i; omega
      repeat (first | exact agree_upds agree_over rfl | refine agree_upd ?_ rfl | refine agree_upds ?_ rfl | refine agree_over_sub ?_ rfl)
    ·try simp only [nm, ne_eq] at h2
     refine x_exit <| then_x <| then_x <| block_x <| then_n <| sr rfl <| aI rfl <| en <| x_ret <| ret_tmp (v := .int _ _) rfl rfl <| ⟨congrArg (Value.int .i64) ?_, HC⟩
     unfold badP; rw [if_neg (by assumption), if_neg (by first | simp_all; done | assumption), if_neg (by omega), if_neg (fun h => by obtain ⟨n, hn, hl⟩ := List.any_eq_true.1 h; obtain ⟨j, hj⟩ := List.mem_iff_getElem?.1 hn; unfold longB at hl; exact hno j n (by have := (List.getElem?_eq_some_iff.1 hj).1; omega) hj (of_decide_eq_true hl))]

set_option maxHeartbeats 800000 in
theorem Rway_spec {Z : Tre} {An : Option Addr} {capn : Nat} {mx my : Int} {D : Nat → Prop} {w : World} (hT : Sl inE w D An Z) (hTl : Z.length ≤ 1000000000) (hF : FitT Z) (at0 : Int) {A0 : Option Addr} {c0 : Nat} {Dl : Nat → Prop} {names : List Bytes} (last : Bool) (hl : Sl sE w Dl A0 names) (hc0 : names.length ≤ c0) (hn : names.length ≤ 1100) (ha0 : 0 ≤ at0 ∧ at0 < Z.length) : CallR Tryz.prog 47 #[.agg ⟨[.slice An Z.length capn, .int .i64 mx, .int .i64 my]⟩, .int .i64 at0, .slice A0 names.length c0, .bool last] w fun v w' => v = .tuple ⟨[.int .i64 (goV Z last 600000 ⟨at0, names, 0⟩).1, .int .i64 (goV Z last 600000 ⟨at0, names, 0⟩).2]⟩ ∧ Chg [] w w' := by
 replace hT := hT.mono (D' := fun k => k < w.heap.size) (fun k hk _ => hk)
 replace hl := hl.mono (D' := fun k => k < w.heap.size) (fun k hk _ => hk)
 have hrt := dir_in hF.root
 refine callR_of_wp (args := [_, _, _, _]) Tryz.func47 rfl (Nat.le_of_ble_eq_true rfl) ?_
 have HC : Chg [] w w := .refl _
 refine sr rfl <| Wp rfl <| st_box (v := .agg ⟨[.slice _ _ _, .int _ _, .int _ _]⟩) (vs := [_, _, _]) rfl rfl ?_
 intro b4 w1 e2 c3 hb4
 have ge_b4 : w.heap.size ≤ b4 := by rw [e2]; exact HC.size
 replace HC := HC.then c3
 replace hT := hT.tr0 c3
 replace hl := hl.tr0 c3
 clear e2
 refine aI rfl <| aI rfl <| en <| sr rfl <| aI rfl <| en <| x_seq <| x_block <| x_loop (ι := Wst × Nat × Option Addr × Nat) [1, 2, 8, 9, 10, 11, 12, 13, 14, 15, 16, 17, 18, 19, 20, 21, 22, 23, 24, 25, 26, 27, 28, 29, 30, 31, 32, 33, 34, 35, 36, 37, 38, 39, 40, 41, 42, 43, 44, 45, 46, 47, 48, 49, 50, 51, 52, 53, 54, 55, 56, 57, 58, 59, 60, 61, 62, 63, 64, 65, 66, 67] (fun ⟨u, k, A, c⟩ => [(1, .int .i64 u.cur), (2, .slice A u.left.length c), (10, .int .i64 u.links)]) (fun ⟨u, k, A, c⟩ W => (goV Z last k u = goV Z last 600000 ⟨at0, names, 0⟩ ∧ mW u < k ∧ 0 ≤ u.links ∧ u.links ≤ 8 ∧ (0 ≤ u.cur ∧ u.cur < Z.length) ∧ u.left.length ≤ c ∧ k ≤ 600000) ∧ (Chg [] w W) ∧ (Sl inE W (fun k => k < w.heap.size) An Z) ∧ (Sl sE W (fun k => k < W.heap.size) A u.left) ∧ (Blk W b4 [.slice An Z.length capn, .int .i64 mx, .int .i64 my] 24)) (fun ⟨u, k, A, c⟩ => k) (⟨at0, names, 0⟩, 600000, A0, c0) ?_ ?_ ?_
 · exact ⟨rfl, rfl, rfl, trivial⟩
 ·refine ⟨?_, HC, hT, (hl.mono (fun k hk _ => hk)), hb4⟩
  exact ⟨rfl, by unfold mW; simp only; omega, Int.le_refl _, by show (0 : Int) ≤ 8; decide, ha0, hc0, Nat.le_refl _⟩
 intro ⟨u, k, A, c⟩ G6 w5 ⟨⟨hgo, hmk, hu0, hu8, hcu, hcl, hk6⟩, HC, hT, hl, hb4⟩
 change wp _ _ _ _ _ (upds (over _ _ G6) [(1, .int .i64 u.cur), (2, .slice A u.left.length c), (10, .int .i64 u.links)]) _ _
 refine x_seq <| sr rfl <| mL rfl <| Wp rfl <| st_len (ct := #[25]) (by rw [show ((#[25] : Array TypeId)[0]?).bind Tryz.prog.underlying = some (.slice 9) from T.u25]; rfl) rfl <| Wp rfl <| st_gtr rfl rfl <| en <| x_cond rfl (fun h0 => ?_) (fun h0 => ?_)
 ·try simp only [nm, ne_eq] at h0
  obtain ⟨x, l, hul⟩ : ∃ x l, u.left = x :: l := by cases hq : u.left with | nil => rw [hq] at h0; simp at h0 | cons x l => exact ⟨x, l, rfl⟩
  have hull : u.left.length = l.length + 1 := by rw [hul]; rfl
  obtain ⟨m0, hm0⟩ : ∃ m, m = w5.heap.size := ⟨_, rfl⟩
  have hms : m0 ≤ w5.heap.size := Nat.le_of_eq hm0
  have hlm : Sl sE w5 (fun k => k < m0) A u.left := by rw [hm0]; exact hl
  have hwm : w.heap.size ≤ m0 := by rw [hm0]; exact HC.size
  have hb4m : b4 < m0 := by rw [hm0]; exact hb4.lt
  obtain ⟨j, hkj, hgk⟩ := goV_cons (last := last) hmk hul
  have hmu : l.length < 600000 := by unfold mW at hmk; omega
  refine x_skip <| then_n <| x_block <| x_seq ?_
  obtain ⟨lb11, _, vs10, hA7, hR9, hC8⟩ := hlm.at (i := 0) (x := x) (by rw [hul]; rfl)
  obtain rfl : vs10 = [S x] := hR9
  refine x_draw [(0, 0), (1, 0), (2, 0), (3, 0), (4, 0), (5, 1), (6, 0), (7, 0), (8, 0), (9, 0), (10, 0)] T.mixed rfl rfl rfl (fun W => W.heap[b4]? = w5.heap[b4]? ∧ W.heap[lb11]? = w5.heap[lb11]? ∧ True) ⟨rfl, rfl, trivial⟩ ?_
  have o14 := hb4
  have c13 := Chg.drew w5
  generalize World.drew w5 = w12 at c13 ⊢
  have ht_lb11 : lb11 < w12.heap.size ∧ w12.heap[lb11]? = w5.heap[lb11]? := ⟨Nat.lt_of_lt_of_le hC8.lt c13.size, c13.block lb11 hC8.lt (by simp)⟩
  replace HC := HC.then c13
  replace hT := hT.tr0 c13
  replace hlm := hlm.tr0 c13
  replace hb4 := hb4.tr0 c13
  replace hms := Nat.le_trans hms c13.size
  refine sq_q rfl (fun W hT => r_loadA (vs := [_, _, _]) T.agg24 rfl (Blk.cells (n := 3) (vs := [_, _, _]) (show Blk W b4 _ _ from hT.1.trans o14) rfl) rfl) <| sq_q rfl (fun W hT => r_move (v := .int _ _) rfl) <| sq_q rfl (fun W hT => r_move (v := .slice _ _ _) rfl) <| sq_q rfl (fun W hT => r_indexAddr T.u25 T.size9 (congrArg (fun z => Value.slice z _ _) hA7) rfl (by omega) (by omega)) <| sq_q rfl (fun W hT => r_load1 (v := S _) T.one9 rfl (Cells.at (j := 0) (Cells.tr hC8 hT.2.1) rfl)) <| sq_call1 rfl (r_call (ags := [_, _, _]) rfl rfl T.ent62 rfl) (Rstep_spec hT hTl hF u.cur x) ?_
  rintro _ w15 ⟨rfl, c16⟩
  replace HC := HC.then c16
  replace hT := hT.tr0 c16
  replace hlm := hlm.tr0 c16
  replace hb4 := hb4.tr0 c16
  replace hms := Nat.le_trans hms c16.size
  replace ht_lb11 := And.intro (Nat.lt_of_lt_of_le ht_lb11.1 c16.size) ((c16.block lb11 ht_lb11.1 (by simp)).trans ht_lb11.2)
  refine ⟨_, fun _ h => h, ⟨(Eq.trans hb4 o14.symm), (by first | assumption | exact ht_lb11.2), trivial⟩, ?_⟩
  refine sq_q rfl (fun W hT => r_move (v := .tuple ⟨[_, _]⟩) rfl) <| sq_q rfl (fun W hT => r_extract (vs := [_, _]) (v := .int _ _) rfl rfl) <| sq_q rfl (fun W hT => r_extract (vs := [_, _]) (v := .int _ _) rfl rfl) <| sq_q rfl (fun W hT => r_assign (v := .int _ _) rfl) <| sq_q rfl (fun W hT => r_assign (v := .int _ _) rfl) ?_
  clear o14
  refine sq_nil <| then_n <| x_seq <| sr rfl <| mI rfl <| Wp rfl <| st_neq rfl rfl <| en <| x_cond rfl (fun h1 => ?_) (fun h1 => ?_)
  ·try simp only [nm, ne_eq] at h1
   have hnx : nxtW Z last u x l = ((stepV Z u.cur x).2, u) := by unfold nxtW; rw [if_pos (by assumption)]
   have hfin : goV Z last 600000 ⟨at0, names, 0⟩ = (0, (stepV Z u.cur x).2) := by rw [← hgo, hgk, hnx, if_pos (by assumption)]
   refine sr rfl <| mI rfl <| aI rfl <| aI rfl <| en <| x_ret <| then_r <| block_r <| then_r <| block_r <| then_r <| ret_tmp2 (v := .int _ _) (v2 := .int _ _) rfl rfl rfl ?_
   rw [hfin]
   exact ⟨rfl, HC⟩
  ·try simp only [nm, ne_eq] at h1
   have he0 : (stepV Z u.cur x).2 = 0 := by first | assumption | simpa using h1
   have hsi := step_in hF he0
   obtain ⟨nd, hnd, hndk, hndd, _⟩ := kind_dir hsi
   refine x_skip <| then_n <| sr rfl <| mL rfl <| Wp rfl <| st_slice (i := 1) (j := _) T.u25 T.size9 rfl ⟨_, rfl⟩ (by rfl) (by omega) (by omega) <| aL rfl <| en <| x_seq <| x_seq ?_
   have hl2 := sl_tail hlm hul hcl
   rw [show u.left.length - 1 = l.length by omega]
   refine x_region rfl <| fa T.fld24_0 rfl <| lL T.one22 rfl (hb4.cell rfl) <| mI rfl ?_
   obtain ⟨lb21, _, vs20, hA17, hR19, hC18⟩ := hT.at (i := ((stepV Z u.cur x).1.toNat)) (x := nd) (hnd)
   obtain ⟨K22, cK22, rfl, hk1_22, hk2_22, hk3_22⟩ := hR19
   refine Wp rfl <| st_indexAddr T.u22 T.size44 (congrArg (fun z => Value.slice z _ _) hA17) rfl (by omega) (by omega) <| fa T.fld44_0 rfl <| lI T.one3 rfl (hC18.at (j := 0) rfl) <| Wp rfl <| st_neq rfl rfl <| mB rfl <| w_split (d := 39) rfl (fun g23 => ?_) (fun g23 => ?_)
   ·try simp only [nm, ne_eq] at g23
    iterate 4 refine w_no 7 39 false ?_
    refine w_no 11 43 true <| w_no 11 43 true <| w_no 7 39 false <| pT rfl rfl <| en <| x_cond (t := true) rfl (fun h2 => ?_) (fun h2 => ?_)
    rotate_left
    · exact absurd h2 (by decide)
    have hnx : nxtW Z last u x l = (0, ⟨(stepV Z u.cur x).1, l, u.links⟩) := by unfold nxtW; rw [if_neg (fun h => h he0), if_pos (by rw [hndk]; first | (left; assumption) | (right; exact ⟨List.length_eq_zero_iff.1 (by omega), by first | assumption | simp_all⟩))]
    have hm2 := nxtW_m (last := last) hF hul hu0 hu8 (show (nxtW Z last u x l).1 = 0 by rw [hnx])
    rw [hnx] at hm2
    refine sr rfl <| mI rfl <| aI rfl <| en <| x_exit <| then_x <| block_x <| then_n <| ⟨(⟨(stepV Z u.cur x).1, l, u.links⟩, j, (if c = 1 then A else A.map (·.add (1 * 1))), (c - 1)), ?_, ?_, rfl, ⟨rfl, rfl, rfl, trivial⟩, ?_⟩
    ·refine ⟨?_, HC, hT, (hl2.mono (fun k hk _ => hk)), hb4⟩
     exact ⟨by rw [← hgo, hgk, hnx]; rfl, by have h9 := hm2.1; dsimp only at h9; omega, hm2.2.1, hm2.2.2, ⟨hsi, by show l.length ≤ c - 1; omega, by omega⟩⟩
    ·show j < k; omega
    repeat (first | exact agree_upds agree_over rfl | refine agree_upd ?_ rfl | refine agree_upds ?_ rfl | refine agree_over_sub ?_ rfl)
   ·try simp only [nm, ne_eq] at g23
    refine w_yes 7 39 false <| st_move (v := .slice _ _ _) rfl <| w_yes 7 39 false <| st_len (ct := #[25]) (by rw [show ((#[25] : Array TypeId)[0]?).bind Tryz.prog.underlying = some (.slice 9) from T.u25]; rfl) rfl <| w_yes 7 39 false <| st_eql rfl rfl <| w_yes 7 39 false <| st_move (v := .bool _) rfl <| w_split (d := 43) rfl (fun g24 => ?_) (fun g24 => ?_)
    ·try simp only [nm, ne_eq] at g24
     refine w_yes 11 43 true <| st_move (v := .bool _) rfl <| w_yes 11 43 true <| st_not rfl <| w_yes 7 39 false <| st_pick (b := true) (v := .bool _) rfl rfl <| pF rfl rfl <| en <| x_cond rfl (fun h2 => ?_) (fun h2 => ?_)
     ·try simp only [nm, ne_eq] at h2
      have hnx : nxtW Z last u x l = (0, ⟨(stepV Z u.cur x).1, l, u.links⟩) := by unfold nxtW; rw [if_neg (fun h => h he0), if_pos (by rw [hndk]; first | (left; assumption) | (right; exact ⟨List.length_eq_zero_iff.1 (by omega), by first | assumption | simp_all⟩))]
      have hm2 := nxtW_m (last := last) hF hul hu0 hu8 (show (nxtW Z last u x l).1 = 0 by rw [hnx])
      rw [hnx] at hm2
      refine sr rfl <| mI rfl <| aI rfl <| en <| x_exit <| then_x <| block_x <| then_n <| ⟨(⟨(stepV Z u.cur x).1, l, u.links⟩, j, (if c = 1 then A else A.map (·.add (1 * 1))), (c - 1)), ?_, ?_, rfl, ⟨rfl, rfl, rfl, trivial⟩, ?_⟩
      ·refine ⟨?_, HC, hT, (hl2.mono (fun k hk _ => hk)), hb4⟩
       exact ⟨by rw [← hgo, hgk, hnx]; rfl, by have h9 := hm2.1; dsimp only at h9; omega, hm2.2.1, hm2.2.2, ⟨hsi, by show l.length ≤ c - 1; omega, by omega⟩⟩
      ·show j < k; omega
      repeat (first | exact agree_upds agree_over rfl | refine agree_upd ?_ rfl | refine agree_upds ?_ rfl | refine agree_over_sub ?_ rfl)
     ·try simp only [nm, ne_eq] at h2
      have hnl : ¬ (¬ kindV Z (stepV Z u.cur x).1 = 3 ∨ (l = [] ∧ last = false)) := by rw [hndk]; rintro (h | ⟨h, h'⟩); (exact h (by first | assumption | simp_all)); (subst h; simp_all)
      refine x_skip <| then_n <| x_seq <| sr rfl <| mI rfl <| Wp rfl <| st_geq rfl rfl <| en <| x_cond rfl (fun h3 => ?_) (fun h3 => ?_)
      ·try simp only [nm, ne_eq] at h3
       have hnx : nxtW Z last u x l = (40, u) := by unfold nxtW; rw [if_neg (fun h => h he0), if_neg hnl, if_pos (by omega)]
       have hfin : goV Z last 600000 ⟨at0, names, 0⟩ = (0, 40) := by rw [← hgo, hgk, hnx, if_pos (show ¬ (40 : Int) = 0 by decide)]
       refine sr rfl <| aI rfl <| aI rfl <| en <| x_ret <| then_r <| block_r <| then_r <| block_r <| then_r <| ret_tmp2 (v := .int _ _) (v2 := .int _ _) rfl rfl rfl ?_
       rw [hfin]
       exact ⟨rfl, HC⟩
      ·try simp only [nm, ne_eq] at h3
       have hdl := data_len hF (stepV Z u.cur x).1
       rw [hndd] at hdl
       refine x_skip <| then_n <| sr rfl <| mI rfl <| Wp rfl <| st_addn rfl rfl (by constructor <;> omega) <| aI rfl <| en <| sr rfl <| fa T.fld24_0 rfl <| lL T.one22 rfl (hb4.cell rfl) <| mI rfl ?_
       obtain ⟨lb29, _, vs28, hA25, hR27, hC26⟩ := hT.at (i := ((stepV Z u.cur x).1.toNat)) (x := nd) (hnd)
       obtain ⟨K30, cK30, rfl, hk1_30, hk2_30, hk3_30⟩ := hR27
       refine Wp rfl <| st_indexAddr T.u22 T.size44 (congrArg (fun z => Value.slice z _ _) hA25) rfl (by omega) (by omega) <| fa T.fld44_3 rfl <| lS T.one9 rfl (hC26.at (j := 3) rfl) <| aS rfl <| en <| x_seq <| sr rfl <| mS rfl <| Wp rfl <| st_call (ags := [_]) rfl rfl T.ent63 rfl (RWhole_spec _ _) ?_
       rintro _ w31 ⟨rfl, c32⟩
       replace HC := HC.then c32
       replace hT := hT.tr0 c32
       replace hl2 := hl2.tr0 c32
       replace hb4 := hb4.tr0 c32
       replace hms := Nat.le_trans hms c32.size
       replace hk3_22 := hk3_22.tr0 c32
       replace hk3_30 := hk3_30.tr0 c32
       refine en <| x_cond rfl (fun h4 => ?_) (fun h4 => ?_)
       ·try simp only [nm, ne_eq] at h4
        refine x_region rfl <| aI rfl <| en <| sr rfl <| aL rfl <| en <| sr rfl <| mL rfl <| mS rfl <| Wp rfl <| st_call (ags := [_]) rfl rfl T.ent49 rfl (RParts_spec nd.data _ (by omega)) ?_
        rintro _ w33 ⟨⟨Ap, cp, rfl, hsp⟩, c34⟩
        have hlp := hsp.sl.mono (D' := fun _ => True) (fun _ _ _ => trivial)
        have hlc := hsp.le.1
        have hpl : (partsV nd.data).length ≤ _ := partsF_len _ _
        replace HC := HC.then c34
        replace hT := hT.tr0 c34
        replace hl2 := hl2.tr0 c34
        replace hb4 := hb4.tr0 c34
        replace hms := Nat.le_trans hms c34.size
        replace hk3_22 := hk3_22.tr0 c34
        replace hk3_30 := hk3_30.tr0 c34
        have hoN : Own sE 9 w33 (fun k => m0 ≤ k) none 0 ([] : List Bytes) := Own.nil
        refine Wp rfl <| st_appendS (D := fun k => m0 ≤ k) (xs := ([] : List Bytes)) (ys := (partsV nd.data)) T.slice25 rfl rfl hoN rfl rfl hlp (fun k hk => Nat.le_trans hms hk) (by simp only [List.length_append, List.length_cons, List.length_nil]; omega) (by simp only [List.length_append, List.length_cons, List.length_nil]; omega) ?_
        intro A1 c1 w35 ho37 c36
        have c360 : Chg [] w33 w35 := c36
        replace HC := HC.then c360
        replace hT := hT.tr0 c360
        replace hl2 := hl2.tr0 c360
        replace hb4 := hb4.tr0 c360
        replace hms := Nat.le_trans hms c360.size
        replace hk3_22 := hk3_22.tr0 c360
        replace hk3_30 := hk3_30.tr0 c360
        replace hlp := hlp.tr0 c360
        refine aL rfl <| en <| x_region rfl <| mL rfl <| mL rfl <| Wp rfl <| st_appendS (D := fun k => m0 ≤ k) (xs := (([] : List Bytes) ++ (partsV nd.data))) (ys := l) T.slice25 rfl rfl ho37 rfl rfl hl2 (fun k hk => Nat.le_trans hms hk) (by simp only [List.length_append, List.length_cons, List.length_nil]; omega) (by simp only [List.length_append, List.length_cons, List.length_nil]; omega) ?_
        intro A2 c2 w38 ho40 c39
        replace HC := HC.trans c39 (fun k hk => .inr (Nat.le_trans hwm (ho37.inD k hk)))
        replace hT := hT.tr c39 (fun k hk hD => by have := ho37.inD _ hk; have hD2 : k < w.heap.size := hD; omega)
        replace hb4 := hb4.tr c39 (fun hx => by have := ho37.inD _ hx; omega)
        replace hms := Nat.le_trans hms c39.size
        have hnx : nxtW Z last u x l = (0, ⟨curV nd.data u.cur, partsV nd.data ++ l, u.links + 1⟩) := by unfold nxtW; rw [if_neg (fun h => h he0), if_neg hnl, if_neg (by omega), hndd]
        have hm2 := nxtW_m (last := last) hF hul hu0 hu8 (show (nxtW Z last u x l).1 = 0 by rw [hnx])
        rw [hnx] at hm2
        refine aL rfl <| wops_nil <| block_n <| then_n <| ⟨(⟨curV nd.data u.cur, partsV nd.data ++ l, u.links + 1⟩, j, A2, c2), ?_, ?_, rfl, ⟨(congrArg (Value.int .i64) (show (0 : Int) = curV nd.data u.cur by unfold curV; rw [if_pos (by assumption)])), rfl, rfl, trivial⟩, ?_⟩
        ·refine ⟨?_, HC, hT, (ho40.sl.mono (fun k hk _ => hk)), hb4⟩
         exact ⟨by rw [← hgo, hgk, hnx]; rfl, by have h9 := hm2.1; dsimp only at h9; omega, hm2.2.1, hm2.2.2, ⟨curV_in hrt hcu, by have h9 := ho40.le.1; exact h9, by omega⟩⟩
        ·show j < k; omega
        repeat (first | exact agree_upds agree_over rfl | refine agree_upd ?_ rfl | refine agree_upds ?_ rfl | refine agree_over_sub ?_ rfl)
       ·try simp only [nm, ne_eq] at h4
        refine x_skip <| then_n <| sr rfl <| aL rfl <| en <| sr rfl <| mL rfl <| mS rfl <| Wp rfl <| st_call (ags := [_]) rfl rfl T.ent49 rfl (RParts_spec nd.data _ (by omega)) ?_
        rintro _ w41 ⟨⟨Ap, cp, rfl, hsp⟩, c42⟩
        have hlp := hsp.sl.mono (D' := fun _ => True) (fun _ _ _ => trivial)
        have hlc := hsp.le.1
        have hpl : (partsV nd.data).length ≤ _ := partsF_len _ _
        replace HC := HC.then c42
        replace hT := hT.tr0 c42
        replace hl2 := hl2.tr0 c42
        replace hb4 := hb4.tr0 c42
        replace hms := Nat.le_trans hms c42.size
        replace hk3_22 := hk3_22.tr0 c42
        replace hk3_30 := hk3_30.tr0 c42
        have hoN : Own sE 9 w41 (fun k => m0 ≤ k) none 0 ([] : List Bytes) := Own.nil
        refine Wp rfl <| st_appendS (D := fun k => m0 ≤ k) (xs := ([] : List Bytes)) (ys := (partsV nd.data)) T.slice25 rfl rfl hoN rfl rfl hlp (fun k hk => Nat.le_trans hms hk) (by simp only [List.length_append, List.length_cons, List.length_nil]; omega) (by simp only [List.length_append, List.length_cons, List.length_nil]; omega) ?_
        intro A1 c1 w43 ho45 c44
        have c440 : Chg [] w41 w43 := c44
        replace HC := HC.then c440
        replace hT := hT.tr0 c440
        replace hl2 := hl2.tr0 c440
        replace hb4 := hb4.tr0 c440
        replace hms := Nat.le_trans hms c440.size
        replace hk3_22 := hk3_22.tr0 c440
        replace hk3_30 := hk3_30.tr0 c440
        replace hlp := hlp.tr0 c440
        refine aL rfl <| en <| x_region rfl <| mL rfl <| mL rfl <| Wp rfl <| st_appendS (D := fun k => m0 ≤ k) (xs := (([] : List Bytes) ++ (partsV nd.data))) (ys := l) T.slice25 rfl rfl ho45 rfl rfl hl2 (fun k hk => Nat.le_trans hms hk) (by simp only [List.length_append, List.length_cons, List.length_nil]; omega) (by simp only [List.length_append, List.length_cons, List.length_nil]; omega) ?_
        intro A2 c2 w46 ho48 c47
        replace HC := HC.trans c47 (fun k hk => .inr (Nat.le_trans hwm (ho45.inD k hk)))
        replace hT := hT.tr c47 (fun k hk hD => by have := ho45.inD _ hk; have hD2 : k < w.heap.size := hD; omega)
        replace hb4 := hb4.tr c47 (fun hx => by have := ho45.inD _ hx; omega)
        replace hms := Nat.le_trans hms c47.size
        have hnx : nxtW Z last u x l = (0, ⟨curV nd.data u.cur, partsV nd.data ++ l, u.links + 1⟩) := by unfold nxtW; rw [if_neg (fun h => h he0), if_neg hnl, if_neg (by omega), hndd]
        have hm2 := nxtW_m (last := last) hF hul hu0 hu8 (show (nxtW Z last u x l).1 = 0 by rw [hnx])
        rw [hnx] at hm2
        refine aL rfl <| wops_nil <| block_n <| then_n <| ⟨(⟨curV nd.data u.cur, partsV nd.data ++ l, u.links + 1⟩, j, A2, c2), ?_, ?_, rfl, ⟨(congrArg (Value.int .i64) (show u.cur = curV nd.data u.cur by unfold curV; rw [if_neg (by first | assumption | simp_all)])), rfl, rfl, trivial⟩, ?_⟩
        ·refine ⟨?_, HC, hT, (ho48.sl.mono (fun k hk _ => hk)), hb4⟩
         exact ⟨by rw [← hgo, hgk, hnx]; rfl, by have h9 := hm2.1; dsimp only at h9; omega, hm2.2.1, hm2.2.2, ⟨curV_in hrt hcu, by have h9 := ho48.le.1; exact h9, by omega⟩⟩
        ·show j < k; omega
        repeat (first | exact agree_upds agree_over rfl | refine agree_upd ?_ rfl | refine agree_upds ?_ rfl | refine agree_over_sub ?_ rfl)
    ·try simp only [nm, ne_eq] at g24
     refine w_no 11 43 true <| w_no 11 43 true <| w_yes 7 39 false <| st_pick (b := false) (v := .bool _) rfl rfl <| pF rfl rfl <| en <| x_cond (t := false) rfl (fun h2 => ?_) (fun h2 => ?_)
     · exact absurd h2 (by decide)
     have hnl : ¬ (¬ kindV Z (stepV Z u.cur x).1 = 3 ∨ (l = [] ∧ last = false)) := by rw [hndk]; rintro (h | ⟨h, h'⟩); (exact h (by first | assumption | simp_all)); (subst h; simp_all)
     refine x_skip <| then_n <| x_seq <| sr rfl <| mI rfl <| Wp rfl <| st_geq rfl rfl <| en <| x_cond rfl (fun h3 => ?_) (fun h3 => ?_)
     ·try simp only [nm, ne_eq] at h3
      have hnx : nxtW Z last u x l = (40, u) := by unfold nxtW; rw [if_neg (fun h => h he0), if_neg hnl, if_pos (by omega)]
      have hfin : goV Z last 600000 ⟨at0, names, 0⟩ = (0, 40) := by rw [← hgo, hgk, hnx, if_pos (show ¬ (40 : Int) = 0 by decide)]
      refine sr rfl <| aI rfl <| aI rfl <| en <| x_ret <| then_r <| block_r <| then_r <| block_r <| then_r <| ret_tmp2 (v := .int _ _) (v2 := .int _ _) rfl rfl rfl ?_
      rw [hfin]
      exact ⟨rfl, HC⟩
     ·try simp only [nm, ne_eq] at h3
      have hdl := data_len hF (stepV Z u.cur x).1
      rw [hndd] at hdl
      refine x_skip <| then_n <| sr rfl <| mI rfl <| Wp rfl <| st_addn rfl rfl (by constructor <;> omega) <| aI rfl <| en <| sr rfl <| fa T.fld24_0 rfl <| lL T.one22 rfl (hb4.cell rfl) <| mI rfl ?_
      obtain ⟨lb53, _, vs52, hA49, hR51, hC50⟩ := hT.at (i := ((stepV Z u.cur x).1.toNat)) (x := nd) (hnd)
      obtain ⟨K54, cK54, rfl, hk1_54, hk2_54, hk3_54⟩ := hR51
      refine Wp rfl <| st_indexAddr T.u22 T.size44 (congrArg (fun z => Value.slice z _ _) hA49) rfl (by omega) (by omega) <| fa T.fld44_3 rfl <| lS T.one9 rfl (hC50.at (j := 3) rfl) <| aS rfl <| en <| x_seq <| sr rfl <| mS rfl <| Wp rfl <| st_call (ags := [_]) rfl rfl T.ent63 rfl (RWhole_spec _ _) ?_
      rintro _ w55 ⟨rfl, c56⟩
      replace HC := HC.then c56
      replace hT := hT.tr0 c56
      replace hl2 := hl2.tr0 c56
      replace hb4 := hb4.tr0 c56
      replace hms := Nat.le_trans hms c56.size
      replace hk3_22 := hk3_22.tr0 c56
      replace hk3_54 := hk3_54.tr0 c56
      refine en <| x_cond rfl (fun h4 => ?_) (fun h4 => ?_)
      ·try simp only [nm, ne_eq] at h4
       refine x_region rfl <| aI rfl <| en <| sr rfl <| aL rfl <| en <| sr rfl <| mL rfl <| mS rfl <| Wp rfl <| st_call (ags := [_]) rfl rfl T.ent49 rfl (RParts_spec nd.data _ (by omega)) ?_
       rintro _ w57 ⟨⟨Ap, cp, rfl, hsp⟩, c58⟩
       have hlp := hsp.sl.mono (D' := fun _ => True) (fun _ _ _ => trivial)
       have hlc := hsp.le.1
       have hpl : (partsV nd.data).length ≤ _ := partsF_len _ _
       replace HC := HC.then c58
       replace hT := hT.tr0 c58
       replace hl2 := hl2.tr0 c58
       replace hb4 := hb4.tr0 c58
       replace hms := Nat.le_trans hms c58.size
       replace hk3_22 := hk3_22.tr0 c58
       replace hk3_54 := hk3_54.tr0 c58
       have hoN : Own sE 9 w57 (fun k => m0 ≤ k) none 0 ([] : List Bytes) := Own.nil
       refine Wp rfl <| st_appendS (D := fun k => m0 ≤ k) (xs := ([] : List Bytes)) (ys := (partsV nd.data)) T.slice25 rfl rfl hoN rfl rfl hlp (fun k hk => Nat.le_trans hms hk) (by simp only [List.length_append, List.length_cons, List.length_nil]; omega) (by simp only [List.length_append, List.length_cons, List.length_nil]; omega) ?_
       intro A1 c1 w59 ho61 c60
       have c600 : Chg [] w57 w59 := c60
       replace HC := HC.then c600
       replace hT := hT.tr0 c600
       replace hl2 := hl2.tr0 c600
       replace hb4 := hb4.tr0 c600
       replace hms := Nat.le_trans hms c600.size
       replace hk3_22 := hk3_22.tr0 c600
       replace hk3_54 := hk3_54.tr0 c600
       replace hlp := hlp.tr0 c600
       refine aL rfl <| en <| x_region rfl <| mL rfl <| mL rfl <| Wp rfl <| st_appendS (D := fun k => m0 ≤ k) (xs := (([] : List Bytes) ++ (partsV nd.data))) (ys := l) T.slice25 rfl rfl ho61 rfl rfl hl2 (fun k hk => Nat.le_trans hms hk) (by simp only [List.length_append, List.length_cons, List.length_nil]; omega) (by simp only [List.length_append, List.length_cons, List.length_nil]; omega) ?_
       intro A2 c2 w62 ho64 c63
       replace HC := HC.trans c63 (fun k hk => .inr (Nat.le_trans hwm (ho61.inD k hk)))
       replace hT := hT.tr c63 (fun k hk hD => by have := ho61.inD _ hk; have hD2 : k < w.heap.size := hD; omega)
       replace hb4 := hb4.tr c63 (fun hx => by have := ho61.inD _ hx; omega)
       replace hms := Nat.le_trans hms c63.size
       have hnx : nxtW Z last u x l = (0, ⟨curV nd.data u.cur, partsV nd.data ++ l, u.links + 1⟩) := by unfold nxtW; rw [if_neg (fun h => h he0), if_neg hnl, if_neg (by omega), hndd]
       have hm2 := nxtW_m (last := last) hF hul hu0 hu8 (show (nxtW Z last u x l).1 = 0 by rw [hnx])
       rw [hnx] at hm2
       refine aL rfl <| wops_nil <| block_n <| then_n <| ⟨(⟨curV nd.data u.cur, partsV nd.data ++ l, u.links + 1⟩, j, A2, c2), ?_, ?_, rfl, ⟨(congrArg (Value.int .i64) (show (0 : Int) = curV nd.data u.cur by unfold curV; rw [if_pos (by assumption)])), rfl, rfl, trivial⟩, ?_⟩
       ·refine ⟨?_, HC, hT, (ho64.sl.mono (fun k hk _ => hk)), hb4⟩
        exact ⟨by rw [← hgo, hgk, hnx]; rfl, by have h9 := hm2.1; dsimp only at h9; omega, hm2.2.1, hm2.2.2, ⟨curV_in hrt hcu, by have h9 := ho64.le.1; exact h9, by omega⟩⟩
       ·show j < k; omega
       repeat (first | exact agree_upds agree_over rfl | refine agree_upd ?_ rfl | refine agree_upds ?_ rfl | refine agree_over_sub ?_ rfl)
      ·try simp only [nm, ne_eq] at h4
       refine x_skip <| then_n <| sr rfl <| aL rfl <| en <| sr rfl <| mL rfl <| mS rfl <| Wp rfl <| st_call (ags := [_]) rfl rfl T.ent49 rfl (RParts_spec nd.data _ (by omega)) ?_
       rintro _ w65 ⟨⟨Ap, cp, rfl, hsp⟩, c66⟩
       have hlp := hsp.sl.mono (D' := fun _ => True) (fun _ _ _ => trivial)
       have hlc := hsp.le.1
       have hpl : (partsV nd.data).length ≤ _ := partsF_len _ _
       replace HC := HC.then c66
       replace hT := hT.tr0 c66
       replace hl2 := hl2.tr0 c66
       replace hb4 := hb4.tr0 c66
       replace hms := Nat.le_trans hms c66.size
       replace hk3_22 := hk3_22.tr0 c66
       replace hk3_54 := hk3_54.tr0 c66
       have hoN : Own sE 9 w65 (fun k => m0 ≤ k) none 0 ([] : List Bytes) := Own.nil
       refine Wp rfl <| st_appendS (D := fun k => m0 ≤ k) (xs := ([] : List Bytes)) (ys := (partsV nd.data)) T.slice25 rfl rfl hoN rfl rfl hlp (fun k hk => Nat.le_trans hms hk) (by simp only [List.length_append, List.length_cons, List.length_nil]; omega) (by simp only [List.length_append, List.length_cons, List.length_nil]; omega) ?_
       intro A1 c1 w67 ho69 c68
       have c680 : Chg [] w65 w67 := c68
       replace HC := HC.then c680
       replace hT := hT.tr0 c680
       replace hl2 := hl2.tr0 c680
       replace hb4 := hb4.tr0 c680
       replace hms := Nat.le_trans hms c680.size
       replace hk3_22 := hk3_22.tr0 c680
       replace hk3_54 := hk3_54.tr0 c680
       replace hlp := hlp.tr0 c680
       refine aL rfl <| en <| x_region rfl <| mL rfl <| mL rfl <| Wp rfl <| st_appendS (D := fun k => m0 ≤ k) (xs := (([] : List Bytes) ++ (partsV nd.data))) (ys := l) T.slice25 rfl rfl ho69 rfl rfl hl2 (fun k hk => Nat.le_trans hms hk) (by simp only [List.length_append, List.length_cons, List.length_nil]; omega) (by simp only [List.length_append, List.length_cons, List.length_nil]; omega) ?_
       intro A2 c2 w70 ho72 c71
       replace HC := HC.trans c71 (fun k hk => .inr (Nat.le_trans hwm (ho69.inD k hk)))
       replace hT := hT.tr c71 (fun k hk hD => by have := ho69.inD _ hk; have hD2 : k < w.heap.size := hD; omega)
       replace hb4 := hb4.tr c71 (fun hx => by have := ho69.inD _ hx; omega)
       replace hms := Nat.le_trans hms c71.size
       have hnx : nxtW Z last u x l = (0, ⟨curV nd.data u.cur, partsV nd.data ++ l, u.links + 1⟩) := by unfold nxtW; rw [if_neg (fun h => h he0), if_neg hnl, if_neg (by omega), hndd]
       have hm2 := nxtW_m (last := last) hF hul hu0 hu8 (show (nxtW Z last u x l).1 = 0 by rw [hnx])
       rw [hnx] at hm2
       refine aL rfl <| wops_nil <| block_n <| then_n <| ⟨(⟨curV nd.data u.cur, partsV nd.data ++ l, u.links + 1⟩, j, A2, c2), ?_, ?_, rfl, ⟨(congrArg (Value.int .i64) (show u.cur = curV nd.data u.cur by unfold curV; rw [if_neg (by first | assumption | simp_all)])), rfl, rfl, trivial⟩, ?_⟩
       ·refine ⟨?_, HC, hT, (ho72.sl.mono (fun k hk _ => hk)), hb4⟩
        exact ⟨by rw [← hgo, hgk, hnx]; rfl, by have h9 := hm2.1; dsimp only at h9; omega, hm2.2.1, hm2.2.2, ⟨curV_in hrt hcu, by have h9 := ho72.le.1; exact h9, by omega⟩⟩
       ·show j < k; omega
       repeat (first | exact agree_upds agree_over rfl | refine agree_upd ?_ rfl | refine agree_upds ?_ rfl | refine agree_over_sub ?_ rfl)
 ·try simp only [nm, ne_eq] at h0
  have hle : u.left = [] := List.length_eq_zero_iff.1 (by omega)
  have hfin : goV Z last 600000 ⟨at0, names, 0⟩ = (u.cur, 0) := by rw [← hgo]; cases k with | zero => omega | succ k => rw [goV, hle]
  refine x_exit <| then_x <| then_x <| block_x <| then_n <| sr rfl <| mI rfl <| aI rfl <| aI rfl <| en <| x_ret <| ret_tmp2 (v := .int _ _) (v2 := .int _ _) rfl rfl rfl ?_
  rw [hfin]
  exact ⟨rfl, HC⟩

theorem walk_bad {Z : Tre} {cwd : Int} {p : Bytes} {fo : Bool} (h : ¬ badP Z cwd p = 0) : walkV Z cwd p fo = (0, badP Z cwd p) := by unfold walkV; rw [if_pos h]
theorem walk_go {Z : Tre} {cwd : Int} {p : Bytes} {fo : Bool} (h : badP Z cwd p = 0) : walkV Z cwd p fo = if (goV Z (fo || Lib.hasSuffix p [47]) 600000 ⟨curV p cwd, partsV p, 0⟩).2 = 0 ∧ Lib.hasSuffix p [47] = true ∧ dirV Z (goV Z (fo || Lib.hasSuffix p [47]) 600000 ⟨curV p cwd, partsV p, 0⟩).1 = false then (0, 20) else goV Z (fo || Lib.hasSuffix p [47]) 600000 ⟨curV p cwd, partsV p, 0⟩ := by unfold walkV; rw [if_neg (fun h2 => h2 h)]
set_option maxHeartbeats 800000 in
theorem RWalk_spec {Z : Tre} {An : Option Addr} {capn : Nat} {mx my : Int} {D : Nat → Prop} {w : World} (hT : Sl inE w D An Z) (hTl : Z.length ≤ 1000000000) (hF : FitT Z) (cwd : Int) (p : Bytes) (fo : Bool) (hp : p.length ≤ 140737488351232) : CallR Tryz.prog 32 #[.agg ⟨[.slice An Z.length capn, .int .i64 mx, .int .i64 my]⟩, .int .i64 cwd, S p, .bool fo] w fun v w' => v = .tuple ⟨[.int .i64 (walkV Z cwd p fo).1, .int .i64 (walkV Z cwd p fo).2]⟩ ∧ Chg [] w w' := by
 replace hT := hT.mono (D' := fun k => k < w.heap.size) (fun k hk _ => hk)
 refine callR_of_wp (args := [_, _, _, _]) Tryz.func32 rfl (Nat.le_of_ble_eq_true rfl) ?_
 have HC : Chg [] w w := .refl _
 refine sr rfl <| Wp rfl <| st_box (v := .agg ⟨[.slice _ _ _, .int _ _, .int _ _]⟩) (vs := [_, _, _]) rfl rfl ?_
 intro b4 w1 e2 c3 hb4
 have ge_b4 : w.heap.size ≤ b4 := by rw [e2]; exact HC.size
 replace HC := HC.then c3
 replace hT := hT.tr0 c3
 clear e2
 refine aI rfl <| aI rfl <| en <| sr rfl <| Wp rfl <| st_loadA (vs := [_, _, _]) T.agg24 rfl (hb4.cells (n := 3) (vs := [_, _, _]) rfl) rfl <| mI rfl <| mS rfl <| Wp rfl <| st_call (ags := [_, _, _]) rfl rfl T.ent46 rfl (Rbad_spec hT hTl cwd p hp) ?_
 rintro _ w5 ⟨rfl, c6⟩
 replace HC := HC.then c6
 replace hT := hT.tr0 c6
 replace hb4 := hb4.tr0 c6
 refine aI rfl <| en <| x_seq <| sr rfl <| mI rfl <| Wp rfl <| st_neq rfl rfl <| en <| x_cond rfl (fun h0 => ?_) (fun h0 => ?_)
 ·try simp only [nm, ne_eq] at h0
  refine sr rfl <| mI rfl <| aI rfl <| aI rfl <| en <| x_ret <| then_r <| ret_tmp2 (v := .int _ _) (v2 := .int _ _) rfl rfl rfl ?_
  rw [walk_bad (by assumption)]
  exact ⟨rfl, HC⟩
 ·try simp only [nm, ne_eq] at h0
  have hbz : badP Z cwd p = 0 := by first | assumption | simp_all
  obtain ⟨hp4, hpn, hpd⟩ := badP_ok hbz
  have hpp := List.length_pos_iff.2 hpn
  have hcd := dir_in hpd
  have hrt := dir_in hF.root
  have hwg := walk_go (fo := fo) hbz
  refine x_skip <| then_n <| sr rfl <| mS rfl <| mS rfl <| Wp rfl <| st_slen (ct := #[9]) T.u9 rfl <| Wp rfl <| st_subn rfl rfl (by constructor <;> omega) <| Wp rfl <| st_sidx T.u9 rfl rfl (by omega) (by omega) <| Wp rfl <| st_eql rfl rfl <| aB rfl <| en <| x_seq ?_
  rw [← hasSuf1 hpn]
  refine x_draw [(0, 0), (1, 0), (2, 0), (4, 0), (6, 0), (3, 1), (5, 1), (7, 0), (8, 0), (9, 0), (10, 1), (11, 0), (12, 0), (13, 0), (14, 0), (15, 0)] T.mixed rfl rfl rfl (fun W => W.heap[b4]? = w5.heap[b4]? ∧ True) ⟨rfl, trivial⟩ ?_
  have o9 := hb4
  have c8 := Chg.drew w5
  generalize World.drew w5 = w7 at c8 ⊢
  replace HC := HC.then c8
  replace hT := hT.tr0 c8
  replace hb4 := hb4.tr0 c8
  refine sq_q rfl (fun W hT => r_loadA (vs := [_, _, _]) T.agg24 rfl (Blk.cells (n := 3) (vs := [_, _, _]) (show Blk W b4 _ _ from hT.1.trans o9) rfl) rfl) <| sq_q rfl (fun W hT => r_move (v := .int _ _) rfl) <| sq_q rfl (fun W hT => r_move (v := S _) rfl) <| sq_q rfl (fun W hT => r_move (v := S _) rfl) <| sq_q rfl (fun W hT => r_move (v := .bool _) rfl) <| sq_call1 rfl (r_call (ags := [_, _]) rfl rfl T.ent48 rfl) (Rbegin_spec cwd p _) ?_
  rintro _ w10 ⟨rfl, c11⟩
  replace HC := HC.then c11
  replace hT := hT.tr0 c11
  replace hb4 := hb4.tr0 c11
  refine ⟨_, fun _ h => h, ⟨(Eq.trans hb4 o9.symm), trivial⟩, ?_⟩
  refine sq_call1 rfl (r_call (ags := [_]) rfl rfl T.ent49 rfl) (RParts_spec p _ (by omega)) ?_
  rintro _ w12 ⟨⟨Ap, cp, rfl, hsp⟩, c13⟩
  have hlp := hsp.sl.mono (D' := fun _ => True) (fun _ _ _ => trivial)
  have hlc := hsp.le.1
  have hpl : (partsV p).length ≤ _ := partsF_len _ _
  replace HC := HC.then c13
  replace hT := hT.tr0 c13
  replace hb4 := hb4.tr0 c13
  refine ⟨_, fun _ h => h, ⟨(Eq.trans hb4 o9.symm), trivial⟩, ?_⟩
  refine sq_q rfl (fun W hT => r_move (v := .bool _) rfl) <| sq_split (d := 34) rfl (fun g14 => ?_) (fun g14 => ?_)
  ·try simp only [nm, ne_eq] at g14
   obtain rfl : fo = true := by assumption
   rw [Bool.true_or] at hwg
   refine sq_no rfl rfl <| sq_q rfl (fun W hT => r_pick (b := true) (v := .bool _) rfl rfl) <| sq_call1 rfl (r_call (ags := [_, _, _, _]) rfl rfl T.ent47 rfl) (Rway_spec hT hTl hF (curV p cwd) _ hlp hlc (by omega) (curV_in hrt hcd)) ?_
   rintro _ w15 ⟨rfl, c16⟩
   replace HC := HC.then c16
   replace hT := hT.tr0 c16
   replace hb4 := hb4.tr0 c16
   replace hlp := hlp.tr0 c16
   refine ⟨_, fun _ h => h, ⟨(Eq.trans hb4 o9.symm), trivial⟩, ?_⟩
   skip
   refine sq_q rfl (fun W hT => r_move (v := .tuple ⟨[_, _]⟩) rfl) <| sq_q rfl (fun W hT => r_extract (vs := [_, _]) (v := .int _ _) rfl rfl) <| sq_q rfl (fun W hT => r_extract (vs := [_, _]) (v := .int _ _) rfl rfl) <| sq_q rfl (fun W hT => r_assign (v := .int _ _) rfl) <| sq_q rfl (fun W hT => r_assign (v := .int _ _) rfl) ?_
   clear o9
   refine sq_nil <| then_n <| x_seq <| sr rfl <| mI rfl <| Wp rfl <| st_neq rfl rfl <| en <| x_cond rfl (fun h1 => ?_) (fun h1 => ?_)
   ·try simp only [nm, ne_eq] at h1
    refine sr rfl <| mI rfl <| aI rfl <| aI rfl <| en <| x_ret <| then_r <| ret_tmp2 (v := .int _ _) (v2 := .int _ _) rfl rfl rfl ?_
    first | (rw [hwg, if_neg (fun h => h1 h.1), goV_err _ _ h1]; exact ⟨rfl, HC⟩) | (rw [hwg, if_pos ⟨h1, by assumption, by assumption⟩]; exact ⟨rfl, HC⟩) | (rw [hwg, if_neg (by rintro ⟨_, hs, hd⟩; simp_all), h1]; exact ⟨rfl, HC⟩)
   ·try simp only [nm, ne_eq] at h1
    refine x_skip <| then_n <| x_seq <| sr rfl <| mB rfl <| mB rfl <| w_split (d := 44) rfl (fun g17 => ?_) (fun g17 => ?_)
    ·try simp only [nm, ne_eq] at g17
     refine w_yes 1 44 true <| st_loadA (vs := [_, _, _]) T.agg24 rfl (hb4.cells (n := 3) (vs := [_, _, _]) rfl) rfl <| w_yes 1 44 true <| st_move (v := .int _ _) rfl <| w_yes 1 44 true <| st_call (ags := [_, _]) rfl rfl T.ent50 rfl (r4dir_spec hT hTl _) ?_
     rintro _ w18 ⟨rfl, c19⟩
     replace HC := HC.then c19
     replace hT := hT.tr0 c19
     replace hb4 := hb4.tr0 c19
     replace hlp := hlp.tr0 c19
     refine w_yes 1 44 true <| st_not rfl <| pT rfl rfl <| en <| x_cond rfl (fun h2 => ?_) (fun h2 => ?_)
     ·try simp only [nm, ne_eq] at h2
      refine sr rfl <| aI rfl <| aI rfl <| en <| x_ret <| then_r <| ret_tmp2 (v := .int _ _) (v2 := .int _ _) rfl rfl rfl ?_
      first | (rw [hwg, if_neg (fun h => h1 h.1), goV_err _ _ h1]; exact ⟨rfl, HC⟩) | (rw [hwg, if_pos ⟨h1, by assumption, by assumption⟩]; exact ⟨rfl, HC⟩) | (rw [hwg, if_neg (by rintro ⟨_, hs, hd⟩; simp_all), h1]; exact ⟨rfl, HC⟩)
     ·try simp only [nm, ne_eq] at h2
      refine x_skip <| then_n <| sr rfl <| mI rfl <| aI rfl <| aI rfl <| en <| x_ret <| ret_tmp2 (v := .int _ _) (v2 := .int _ _) rfl rfl rfl ?_
      first | (rw [hwg, if_neg (fun h => h1 h.1), goV_err _ _ h1]; exact ⟨rfl, HC⟩) | (rw [hwg, if_pos ⟨h1, by assumption, by assumption⟩]; exact ⟨rfl, HC⟩) | (rw [hwg, if_neg (by rintro ⟨_, hs, hd⟩; simp_all), h1]; exact ⟨rfl, HC⟩)
    ·try simp only [nm, ne_eq] at g17
     iterate 4 refine w_no 1 44 true ?_
     refine pF rfl rfl <| en <| x_cond (t := false) rfl (fun h2 => ?_) (fun h2 => ?_)
     · exact absurd h2 (by decide)
     refine x_skip <| then_n <| sr rfl <| mI rfl <| aI rfl <| aI rfl <| en <| x_ret <| ret_tmp2 (v := .int _ _) (v2 := .int _ _) rfl rfl rfl ?_
     first | (rw [hwg, if_neg (fun h => h1 h.1), goV_err _ _ h1]; exact ⟨rfl, HC⟩) | (rw [hwg, if_pos ⟨h1, by assumption, by assumption⟩]; exact ⟨rfl, HC⟩) | (rw [hwg, if_neg (by rintro ⟨_, hs, hd⟩; simp_all), h1]; exact ⟨rfl, HC⟩)
  ·try simp only [nm, ne_eq] at g14
   obtain rfl : fo = false := by assumption
   rw [Bool.false_or] at hwg
   refine sq_q rfl (fun W hT => r_move (v := .bool _) rfl) <| sq_q rfl (fun W hT => r_pick (b := false) (v := .bool _) rfl rfl) <| sq_call1 rfl (r_call (ags := [_, _, _, _]) rfl rfl T.ent47 rfl) (Rway_spec hT hTl hF (curV p cwd) _ hlp hlc (by omega) (curV_in hrt hcd)) ?_
   rintro _ w20 ⟨rfl, c21⟩
   replace HC := HC.then c21
   replace hT := hT.tr0 c21
   replace hb4 := hb4.tr0 c21
   replace hlp := hlp.tr0 c21
   refine ⟨_, fun _ h => h, ⟨(Eq.trans hb4 o9.symm), trivial⟩, ?_⟩
   skip
   refine sq_q rfl (fun W hT => r_move (v := .tuple ⟨[_, _]⟩) rfl) <| sq_q rfl (fun W hT => r_extract (vs := [_, _]) (v := .int _ _) rfl rfl) <| sq_q rfl (fun W hT => r_extract (vs := [_, _]) (v := .int _ _) rfl rfl) <| sq_q rfl (fun W hT => r_assign (v := .int _ _) rfl) <| sq_q rfl (fun W hT => r_assign (v := .int _ _) rfl) ?_
   clear o9
   refine sq_nil <| then_n <| x_seq <| sr rfl <| mI rfl <| Wp rfl <| st_neq rfl rfl <| en <| x_cond rfl (fun h1 => ?_) (fun h1 => ?_)
   ·try simp only [nm, ne_eq] at h1
    refine sr rfl <| mI rfl <| aI rfl <| aI rfl <| en <| x_ret <| then_r <| ret_tmp2 (v := .int _ _) (v2 := .int _ _) rfl rfl rfl ?_
    first | (rw [hwg, if_neg (fun h => h1 h.1), goV_err _ _ h1]; exact ⟨rfl, HC⟩) | (rw [hwg, if_pos ⟨h1, by assumption, by assumption⟩]; exact ⟨rfl, HC⟩) | (rw [hwg, if_neg (by rintro ⟨_, hs, hd⟩; simp_all), h1]; exact ⟨rfl, HC⟩)
   ·try simp only [nm, ne_eq] at h1
    refine x_skip <| then_n <| x_seq <| sr rfl <| mB rfl <| mB rfl <| w_split (d := 44) rfl (fun g22 => ?_) (fun g22 => ?_)
    ·try simp only [nm, ne_eq] at g22
     refine w_yes 1 44 true <| st_loadA (vs := [_, _, _]) T.agg24 rfl (hb4.cells (n := 3) (vs := [_, _, _]) rfl) rfl <| w_yes 1 44 true <| st_move (v := .int _ _) rfl <| w_yes 1 44 true <| st_call (ags := [_, _]) rfl rfl T.ent50 rfl (r4dir_spec hT hTl _) ?_
     rintro _ w23 ⟨rfl, c24⟩
     replace HC := HC.then c24
     replace hT := hT.tr0 c24
     replace hb4 := hb4.tr0 c24
     replace hlp := hlp.tr0 c24
     refine w_yes 1 44 true <| st_not rfl <| pT rfl rfl <| en <| x_cond rfl (fun h2 => ?_) (fun h2 => ?_)
     ·try simp only [nm, ne_eq] at h2
      refine sr rfl <| aI rfl <| aI rfl <| en <| x_ret <| then_r <| ret_tmp2 (v := .int _ _) (v2 := .int _ _) rfl rfl rfl ?_
      first | (rw [hwg, if_neg (fun h => h1 h.1), goV_err _ _ h1]; exact ⟨rfl, HC⟩) | (rw [hwg, if_pos ⟨h1, by assumption, by assumption⟩]; exact ⟨rfl, HC⟩) | (rw [hwg, if_neg (by rintro ⟨_, hs, hd⟩; simp_all), h1]; exact ⟨rfl, HC⟩)
     ·try simp only [nm, ne_eq] at h2
      refine x_skip <| then_n <| sr rfl <| mI rfl <| aI rfl <| aI rfl <| en <| x_ret <| ret_tmp2 (v := .int _ _) (v2 := .int _ _) rfl rfl rfl ?_
      first | (rw [hwg, if_neg (fun h => h1 h.1), goV_err _ _ h1]; exact ⟨rfl, HC⟩) | (rw [hwg, if_pos ⟨h1, by assumption, by assumption⟩]; exact ⟨rfl, HC⟩) | (rw [hwg, if_neg (by rintro ⟨_, hs, hd⟩; simp_all), h1]; exact ⟨rfl, HC⟩)
    ·try simp only [nm, ne_eq] at g22
     iterate 4 refine w_no 1 44 true ?_
     refine pF rfl rfl <| en <| x_cond (t := false) rfl (fun h2 => ?_) (fun h2 => ?_)
     · exact absurd h2 (by decide)
     refine x_skip <| then_n <| sr rfl <| mI rfl <| aI rfl <| aI rfl <| en <| x_ret <| ret_tmp2 (v := .int _ _) (v2 := .int _ _) rfl rfl rfl ?_
     first | (rw [hwg, if_neg (fun h => h1 h.1), goV_err _ _ h1]; exact ⟨rfl, HC⟩) | (rw [hwg, if_pos ⟨h1, by assumption, by assumption⟩]; exact ⟨rfl, HC⟩) | (rw [hwg, if_neg (by rintro ⟨_, hs, hd⟩; simp_all), h1]; exact ⟨rfl, HC⟩)

end Go.Proofs.YtpelmhoocepenaaGreatDoor.K
