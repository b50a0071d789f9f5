/- The law TestPaths. -/
import Derived.Test.YtpelmhoocepenaaDoorWs
set_option linter.unusedVariables false
set_option linter.unusedSimpArgs false
set_option autoImplicit false
set_option maxRecDepth 20000
namespace Go.Proofs.YtpelmhoocepenaaDoor.K
open Go Go.Proofs Go.RowKit

theorem step_there {Z : Tre} (hF : FitT Z) {k : Int} {n : Bytes} (h : (stepV Z k n).2 = 0) : kindV Z (stepV Z k n).1 ≠ 0 := by
  unfold stepV at h ⊢
  by_cases c1 : dirV Z k = false
  · rw [if_pos c1] at h; exact absurd (show (20 : Int) = 0 from h) (by decide)
  rw [if_neg c1] at h ⊢
  have hd : dirV Z k = true := by simpa using c1
  have hk := dir_in hd
  have hk2 : ∀ j, dirV Z j = true → kindV Z j ≠ 0 := fun j hj => by unfold dirV at hj; rw [decide_eq_true_eq] at hj; rw [hj]; decide
  obtain ⟨x, hx, hxk, _, hxu, hxs⟩ := kind_dir hk
  have hxm := List.mem_of_getElem? hx
  by_cases c2 : mayV Z k 1 = false
  · rw [if_pos c2] at h; exact absurd (show (13 : Int) = 0 from h) (by decide)
  rw [if_neg c2] at h ⊢
  by_cases c3 : n = [46]
  · rw [if_pos c3]; exact hk2 _ hd
  rw [if_neg c3] at h ⊢
  by_cases c4 : n = [46, 46]
  · rw [if_pos c4]; show kindV Z (upV Z k) ≠ 0; rw [hxu]; exact hk2 _ (hF.up x hxm (by rw [← hxk]; unfold dirV at hd; simpa using hd))
  rw [if_neg c4] at h ⊢
  by_cases c5 : 0 ≤ kidV Z k n
  · rw [if_pos c5]
    show kindV Z (kidV Z k n) ≠ 0
    unfold kidV at c5 ⊢; rw [if_pos hd] at c5 ⊢
    cases h9 : isK (kidsV Z k) n with
    | false => unfold kidK at c5; rw [h9] at c5; simp at c5
    | true =>
      obtain ⟨p, h1, h2, h3⟩ := kidK_at h9
      rw [h2]; exact ((hF.kids x hxm).2.2 p (by rw [← hxs]; exact h3)).2.2
  · rw [if_neg c5] at h; exact absurd (show (2 : Int) = 0 from h) (by decide)
/-- What is at a way's end that follows links: a file or a directory. -/
def FD (Z : Tre) (k : Int) : Prop := kindV Z k = 1 ∨ kindV Z k = 2
theorem dir_FD {Z : Tre} {k : Int} (h : dirV Z k = true) : FD Z k := by unfold dirV at h; rw [decide_eq_true_eq] at h; exact .inr h
theorem cur_FD {Z : Tre} (hF : FitT Z) {p : Bytes} {k : Int} (h : FD Z k) : FD Z (curV p k) := by unfold curV; split; (exact dir_FD hF.root); exact h
theorem nxt_FD {Z : Tre} (hF : FitT Z) {q : Wst} {x : Bytes} {l : List Bytes} (hc : FD Z q.cur) (h : (nxtW Z true q x l).1 = 0) : FD Z (nxtW Z true q x l).2.cur := by
  unfold nxtW at h ⊢
  by_cases c1 : ¬ (stepV Z q.cur x).2 = 0
  · rw [if_pos c1] at h; exact absurd h c1
  rw [if_neg c1] at h ⊢
  have hs := step_there hF (Decidable.not_not.1 c1)
  have hi := step_in hF (Decidable.not_not.1 c1)
  split
  · rename_i h2
    obtain ⟨y, hy, hyk, _⟩ := kind_dir hi
    have hyb := hF.kind y (List.mem_of_getElem? hy)
    have h3 : ¬ kindV Z (stepV Z q.cur x).1 = 3 := h2.resolve_right (fun h => by cases h.2)
    show kindV Z (stepV Z q.cur x).1 = 1 ∨ kindV Z (stepV Z q.cur x).1 = 2
    omega
  · split
    · exact hc
    · exact cur_FD hF hc
theorem goV_FD {Z : Tre} (hF : FitT Z) : ∀ (k : Nat) (q : Wst), FD Z q.cur → (goV Z true k q).2 = 0 → FD Z (goV Z true k q).1
  | 0, q, _, _ => dir_FD hF.root
  | k + 1, q, hc, h => by
    rw [goV] at h ⊢
    cases hq : q.left with
    | nil => exact hc
    | cons x l =>
      rw [hq] at h
      simp only at h ⊢
      by_cases c1 : ¬ (nxtW Z true q x l).1 = 0
      · rw [if_pos c1] at h; exact absurd h c1
      · rw [if_neg c1] at h ⊢
        exact goV_FD hF k _ (nxt_FD hF hc (Decidable.not_not.1 c1)) h
theorem walk_FD {Z : Tre} (hF : FitT Z) {cwd : Int} {p : Bytes} (h : (walkV Z cwd p true).2 = 0) : FD Z (walkV Z cwd p true).1 := by
  unfold walkV at h ⊢
  by_cases c1 : ¬ badP Z cwd p = 0
  · rw [if_pos c1] at h; exact absurd h c1
  rw [if_neg c1] at h ⊢
  obtain ⟨_, _, hd⟩ := badP_ok (Decidable.not_not.1 c1)
  have hc : FD Z (curV p cwd) := cur_FD hF (dir_FD hd)
  rw [show (true || Lib.hasSuffix p [47]) = true from rfl] at h ⊢
  split at h
  · exact absurd (show (20 : Int) = 0 from h) (by decide)
  · rename_i c2
    rw [if_neg c2]
    exact goV_FD hF _ _ hc h
theorem inode_0 {Z : Tre} {cwd : Int} {p : Bytes} {fo : Bool} {g : Int → Bool} : inodeV Z cwd p fo g = 0 ↔ (walkV Z cwd p fo).2 = 0 ∧ g (walkV Z cwd p fo).1 = true := by
  unfold inodeV truN; split
  · rename_i h; rw [Bool.and_eq_true, decide_eq_true_eq] at h; exact ⟨fun _ => h, fun _ => rfl⟩
  · rename_i h; rw [Bool.and_eq_true, decide_eq_true_eq] at h; exact ⟨fun h2 => absurd h2 (by decide), fun h2 => absurd h2 h⟩
/-- What an operator tells of a path, as a yes or no. -/
def ofV (Z : Tre) (cwd : Int) (p op : Bytes) : Bool := decide (testV Z cwd [op, p] = 0)
theorem of_fd {Z : Tre} {cwd : Int} {p : Bytes} : (ofV Z cwd p [45, 102] && ofV Z cwd p [45, 100]) = false := by
  rw [Bool.eq_false_iff]; intro h; rw [Bool.and_eq_true] at h; obtain ⟨h1, h2⟩ := h
  unfold ofV at h1 h2; rw [decide_eq_true_eq] at h1 h2
  have h3 := (inode_0 (g := fun k => decide (kindV Z k = 1))).1 (show inodeV Z cwd p true _ = 0 from h1)
  have h4 := (inode_0 (g := fun k => decide (kindV Z k = 2))).1 (show inodeV Z cwd p true _ = 0 from h2)
  have h5 := of_decide_eq_true h3.2; have h6 := of_decide_eq_true h4.2
  omega
theorem of_e {Z : Tre} (hF : FitT Z) {cwd : Int} {p : Bytes} : ofV Z cwd p [45, 101] = (ofV Z cwd p [45, 102] || ofV Z cwd p [45, 100]) := by
  rw [Bool.eq_iff_iff, Bool.or_eq_true]; unfold ofV; simp only [decide_eq_true_eq]
  have he := inode_0 (Z := Z) (cwd := cwd) (p := p) (fo := true) (g := fun _ => true)
  have hf := inode_0 (Z := Z) (cwd := cwd) (p := p) (fo := true) (g := fun k => decide (kindV Z k = 1))
  have hd := inode_0 (Z := Z) (cwd := cwd) (p := p) (fo := true) (g := fun k => decide (kindV Z k = 2))
  show inodeV Z cwd p true (fun _ => true) = 0 ↔ inodeV Z cwd p true (fun k => decide (kindV Z k = 1)) = 0 ∨ inodeV Z cwd p true (fun k => decide (kindV Z k = 2)) = 0
  rw [he, hf, hd]
  constructor
  · rintro ⟨h1, _⟩
    rcases walk_FD hF h1 with h2 | h2
    · exact .inl ⟨h1, decide_eq_true h2⟩
    · exact .inr ⟨h1, decide_eq_true h2⟩
  · rintro (⟨h1, _⟩ | ⟨h1, _⟩) <;> exact ⟨h1, rfl⟩
theorem of_s {Z : Tre} {cwd : Int} {p : Bytes} (h : ofV Z cwd p [45, 115] = true) : ofV Z cwd p [45, 101] = true := by
  unfold ofV at *; rw [decide_eq_true_eq] at *
  have h3 := (inode_0 (g := fun k => decide (kindV Z k = 2) || !decide (dataV Z k = []))).1 (show inodeV Z cwd p true _ = 0 from h)
  exact (inode_0 (g := fun _ => true)).2 ⟨h3.1, rfl⟩
theorem of_hL {Z : Tre} {cwd : Int} {p : Bytes} : ofV Z cwd p [45, 104] = ofV Z cwd p [45, 76] := rfl
theorem of_nz {Z : Tre} {cwd : Int} {p : Bytes} : ofV Z cwd p [45, 110] = !ofV Z cwd p [45, 122] := by
  show decide (truN (!decide (p = [])) = 0) = !decide (truN (decide (p = [])) = 0)
  cases decide (p = []) <;> rfl

theorem of1_spec {Z : Tre} {An : Option Addr} {capn : Nat} {mx my : Int} {D : Nat → Prop} {w : World} (hT : Sl inE w D An Z) (hTl : Z.length ≤ 1000000000) (hF : FitT Z) {bt bc bp : Nat} {cwd : Int} {p : Bytes} (op : Bytes) (hop : op.length ≤ 100) (hp : p.length ≤ 140737488355328) (hbt : Blk w bt [.slice An Z.length capn, .int .i64 mx, .int .i64 my] 24) (hbc : Blk w bc [.int .i64 cwd] 3) (hbp : Blk w bp [S p] 9) (hmx : MaxT w) (ht : Tab w) : CallR Tryd.prog 12 #[S op, .pointer (some ⟨bt, 0, none⟩), .pointer (some ⟨bc, 0, none⟩), .pointer (some ⟨bp, 0, none⟩)] w fun v w' => v = .bool (ofV Z cwd p op) ∧ Chg [] w w' := by
 replace hT := hT.mono (D' := fun k => k < w.heap.size) (fun k hk _ => hk)
 refine callR_of_wp (args := [_, _, _, _]) Tryd.func12 rfl (Nat.le_of_ble_eq_true rfl) ?_
 have HC : Chg [] w w := .refl _
 have hm1 := hmx.lt
 have ht1 := ht.lt
 refine sr rfl <| aB rfl <| en <| sr rfl <| Wp rfl <| st_loadA (vs := [_, _, _]) T.agg24 rfl (hbt.cells (n := 3) (vs := [_, _, _]) rfl) rfl <| lI T.one3 rfl (hbc.cell rfl) <| mS rfl <| lS T.one9 rfl (hbp.cell rfl) <| Wp rfl <| st_lit (ps := [(0, .tmp 8), (1, .tmp 9)]) (vs := [S _, S _]) T.lit29 (by decide) rfl (by simp only [List.forall_mem_cons, List.not_mem_nil, false_imp_iff, implies_true, and_true]; exact ⟨rfl, rfl⟩) rfl ?_
 intro b1 w2 e3 c4 hb5
 have ge_b1 : w.heap.size ≤ b1 := by rw [e3]; exact HC.size
 have ne_bt_b1 : bt ≠ b1 := by rw [e3]; exact hbt.ne_size
 have ne_bc_b1 : bc ≠ b1 := by rw [e3]; exact hbc.ne_size
 have ne_bp_b1 : bp ≠ b1 := by rw [e3]; exact hbp.ne_size
 replace HC := HC.then c4
 replace hT := hT.tr0 c4
 replace hmx := hmx.tr0 c4
 replace ht := ht.tr0 c4
 replace hbt := hbt.tr0 c4
 replace hbc := hbc.tr0 c4
 replace hbp := hbp.tr0 c4
 clear e3
 refine Wp rfl <| st_call (ags := [_, _, _]) rfl rfl T.ent8 rfl (test_spec (cwd := cwd) (l := [op, p]) (c := 2) hT hTl hF (sl_lit (f := fun s : Bytes => [S s]) [op, p] (by simp) hb5) (Nat.le_refl _) hmx ht (fun s hs => by simp only [List.mem_cons, List.mem_nil_iff, or_false] at hs; rcases hs with rfl | rfl <;> omega)) ?_
 rintro _ w6 ⟨rfl, c7⟩
 replace HC := HC.then c7
 replace hT := hT.tr0 c7
 replace hmx := hmx.tr0 c7
 replace ht := ht.tr0 c7
 replace hbt := hbt.tr0 c7
 replace hbc := hbc.tr0 c7
 replace hbp := hbp.tr0 c7
 replace hb5 := hb5.tr0 c7
 refine Wp rfl <| st_eql rfl rfl <| aB rfl <| en <| x_ret <| ret_tmp (v := .bool _) rfl rfl ?_
 exact ⟨rfl, HC⟩

set_option maxHeartbeats 1000000 in
theorem TestPaths_spec {Z : Tre} {An : Option Addr} {capn : Nat} {mx my : Int} {D : Nat → Prop} {w : World} (hT : Sl inE w D An Z) (hTl : Z.length ≤ 9223372036854775807) (hD : ∀ x, x ∈ Z → x.data.length ≤ 140737488351232 ∧ ∀ p, p ∈ x.kids → p.1.length ≤ 140737488351232) (cwd : Int) (p : Bytes) (hp : p.length ≤ 140737488351232) (hmx : MaxT w) (ht : Tab w) : CallR Tryd.prog 4 #[.agg ⟨[.slice An Z.length capn, .int .i64 mx, .int .i64 my]⟩, .int .i64 cwd, S p] w fun v w' => v = .bool true ∧ Chg [] w w' := by
 replace hT := hT.mono (D' := fun k => k < w.heap.size) (fun k hk _ => hk)
 have hm1 := hmx.lt
 have ht1 := ht.lt
 replace hp : p.length ≤ 140737488355328 := by omega
 refine callR_of_wp (args := [_, _, _]) Tryd.func4 rfl (Nat.le_of_ble_eq_true rfl) ?_
 have HC : Chg [] w w := .refl _
 refine sr rfl <| Wp rfl <| st_box (v := .agg ⟨[.slice _ _ _, .int _ _, .int _ _]⟩) (vs := [_, _, _]) rfl rfl ?_
 intro b3 w1 e2 c3 hb4
 have ge_b3 : w.heap.size ≤ b3 := by rw [e2]; exact HC.size
 replace HC := HC.then c3
 replace hT := hT.tr0 c3
 replace hmx := hmx.tr0 c3
 replace ht := ht.tr0 c3
 clear e2
 refine Wp rfl <| st_box (v := .int _ _) (vs := [_]) rfl rfl ?_
 intro b4 w5 e6 c7 hb8
 have ge_b4 : w.heap.size ≤ b4 := by rw [e6]; exact HC.size
 have ne_b3_b4 : b3 ≠ b4 := by rw [e6]; exact hb4.ne_size
 replace HC := HC.then c7
 replace hT := hT.tr0 c7
 replace hmx := hmx.tr0 c7
 replace ht := ht.tr0 c7
 replace hb4 := hb4.tr0 c7
 clear e6
 refine Wp rfl <| st_box (v := S _) (vs := [_]) rfl rfl ?_
 intro b5 w9 e10 c11 hb12
 have ge_b5 : w.heap.size ≤ b5 := by rw [e10]; exact HC.size
 have ne_b3_b5 : b3 ≠ b5 := by rw [e10]; exact hb4.ne_size
 have ne_b4_b5 : b4 ≠ b5 := by rw [e10]; exact hb8.ne_size
 replace HC := HC.then c11
 replace hT := hT.tr0 c11
 replace hmx := hmx.tr0 c11
 replace ht := ht.tr0 c11
 replace hb4 := hb4.tr0 c11
 replace hb8 := hb8.tr0 c11
 clear e10
 refine aB rfl <| en <| x_seq <| sr rfl <| Wp rfl <| st_loadA (vs := [_, _, _]) T.agg24 rfl (hb4.cells (n := 3) (vs := [_, _, _]) rfl) rfl <| lS T.one9 rfl (hb12.cell rfl) <| Wp rfl <| st_lit (ps := [(0, .tmp 9)]) (vs := [S _]) T.lit29 (by decide) rfl (by simp only [List.forall_mem_cons, List.not_mem_nil, false_imp_iff, implies_true, and_true]; exact rfl) rfl ?_
 intro b13 w14 e15 c16 hb17
 have ge_b13 : w.heap.size ≤ b13 := by rw [e15]; exact HC.size
 have ne_b3_b13 : b3 ≠ b13 := by rw [e15]; exact hb4.ne_size
 have ne_b4_b13 : b4 ≠ b13 := by rw [e15]; exact hb8.ne_size
 have ne_b5_b13 : b5 ≠ b13 := by rw [e15]; exact hb12.ne_size
 replace HC := HC.then c16
 replace hT := hT.tr0 c16
 replace hmx := hmx.tr0 c16
 replace ht := ht.tr0 c16
 replace hb4 := hb4.tr0 c16
 replace hb8 := hb8.tr0 c16
 replace hb12 := hb12.tr0 c16
 clear e15
 refine Wp rfl <| st_call (ags := [_, _]) rfl rfl T.ent11 rfl (good_spec (l := [p]) (c := 1) hT hTl hD (sl_lit (f := fun s : Bytes => [S s]) [p] (by simp) hb17) (fun s hs => by obtain rfl := List.mem_singleton.1 hs; exact hp) (by simp)) ?_
 rintro _ w18 ⟨⟨bg, rfl, hgp⟩, c19⟩
 replace HC := HC.then c19
 replace hT := hT.tr0 c19
 replace hmx := hmx.tr0 c19
 replace ht := ht.tr0 c19
 replace hb4 := hb4.tr0 c19
 replace hb8 := hb8.tr0 c19
 replace hb12 := hb12.tr0 c19
 replace hb17 := hb17.tr0 c19
 refine Wp rfl <| st_not rfl <| en <| x_cond rfl (fun h0 => ?_) (fun h0 => ?_)
 ·try simp only [nm, ne_eq] at h0
  refine sr rfl <| Wp rfl <| st_call (ags := []) rfl rfl T.ent10 rfl (awake24_spec hmx ht) ?_
  rintro _ w20 ⟨rfl, c21⟩
  replace HC := HC.then c21
  replace hT := hT.tr0 c21
  replace hmx := hmx.tr0 c21
  replace ht := ht.tr0 c21
  replace hb4 := hb4.tr0 c21
  replace hb8 := hb8.tr0 c21
  replace hb12 := hb12.tr0 c21
  replace hb17 := hb17.tr0 c21
  refine aB rfl <| en <| x_ret <| then_r <| ret_tmp (v := .bool _) rfl rfl ?_
  exact ⟨rfl, HC⟩
 ·try simp only [nm, ne_eq] at h0
  obtain ⟨hF, _⟩ := hgp (by simpa using h0)
  replace hTl : Z.length ≤ 1000000000 := Nat.le_trans hF.few (by decide)
  refine x_skip <| then_n <| sr rfl <| Wp rfl <| st_makeFunc <| av (v := .func _ _ _) rfl <| en <| sr rfl <| mv (v := .func _ _ _) rfl <| Wp rfl <| st_call (f := 12) (cap := #[.pointer (some ⟨b3, 0, none⟩), .pointer (some ⟨b4, 0, none⟩), .pointer (some ⟨b5, 0, none⟩)]) (ags := [_, _, _, _]) rfl rfl T.ent12 rfl (of1_spec hT hTl hF [45, 102] (by decide) hp hb4 hb8 hb12 hmx ht) ?_
  rintro _ w22 ⟨rfl, c23⟩
  replace HC := HC.then c23
  replace hT := hT.tr0 c23
  replace hmx := hmx.tr0 c23
  replace ht := ht.tr0 c23
  replace hb4 := hb4.tr0 c23
  replace hb8 := hb8.tr0 c23
  replace hb12 := hb12.tr0 c23
  replace hb17 := hb17.tr0 c23
  refine mB rfl <| w_split (d := 17) rfl (fun g24 => ?_) (fun g24 => ?_)
  ·try simp only [nm, ne_eq] at g24
   refine w_yes 2 17 true <| st_move (v := .func _ _ _) rfl <| w_yes 2 17 true <| st_call (f := 12) (cap := #[.pointer (some ⟨b3, 0, none⟩), .pointer (some ⟨b4, 0, none⟩), .pointer (some ⟨b5, 0, none⟩)]) (ags := [_, _, _, _]) rfl rfl T.ent12 rfl (of1_spec hT hTl hF [45, 100] (by decide) hp hb4 hb8 hb12 hmx ht) ?_
   rintro _ w25 ⟨rfl, c26⟩
   replace HC := HC.then c26
   replace hT := hT.tr0 c26
   replace hmx := hmx.tr0 c26
   replace ht := ht.tr0 c26
   replace hb4 := hb4.tr0 c26
   replace hb8 := hb8.tr0 c26
   replace hb12 := hb12.tr0 c26
   replace hb17 := hb17.tr0 c26
   refine pT rfl rfl <| Wp rfl <| st_not rfl <| mB rfl <| w_split (d := 22) rfl (fun g27 => ?_) (fun g27 => ?_)
   ·try simp only [nm, ne_eq] at g27
    refine w_yes 7 22 true <| st_move (v := .func _ _ _) rfl <| w_yes 7 22 true <| st_call (f := 12) (cap := #[.pointer (some ⟨b3, 0, none⟩), .pointer (some ⟨b4, 0, none⟩), .pointer (some ⟨b5, 0, none⟩)]) (ags := [_, _, _, _]) rfl rfl T.ent12 rfl (of1_spec hT hTl hF [45, 101] (by decide) hp hb4 hb8 hb12 hmx ht) ?_
    rintro _ w28 ⟨rfl, c29⟩
    replace HC := HC.then c29
    replace hT := hT.tr0 c29
    replace hmx := hmx.tr0 c29
    replace ht := ht.tr0 c29
    replace hb4 := hb4.tr0 c29
    replace hb8 := hb8.tr0 c29
    replace hb12 := hb12.tr0 c29
    replace hb17 := hb17.tr0 c29
    refine w_yes 7 22 true <| st_move (v := .func _ _ _) rfl <| w_yes 7 22 true <| st_call (f := 12) (cap := #[.pointer (some ⟨b3, 0, none⟩), .pointer (some ⟨b4, 0, none⟩), .pointer (some ⟨b5, 0, none⟩)]) (ags := [_, _, _, _]) rfl rfl T.ent12 rfl (of1_spec hT hTl hF [45, 102] (by decide) hp hb4 hb8 hb12 hmx ht) ?_
    rintro _ w30 ⟨rfl, c31⟩
    replace HC := HC.then c31
    replace hT := hT.tr0 c31
    replace hmx := hmx.tr0 c31
    replace ht := ht.tr0 c31
    replace hb4 := hb4.tr0 c31
    replace hb8 := hb8.tr0 c31
    replace hb12 := hb12.tr0 c31
    replace hb17 := hb17.tr0 c31
    refine w_yes 7 22 true <| st_move (v := .bool _) rfl <| w_split (d := 27) rfl (fun g32 => ?_) (fun g32 => ?_)
    ·try simp only [nm, ne_eq] at g32
     refine w_no 12 27 false <| w_no 12 27 false <| w_yes 7 22 true <| st_pick (b := true) (v := .bool _) rfl rfl <| w_yes 7 22 true <| st_beql T.u4 rfl rfl <| pT rfl rfl <| mB rfl <| w_split (d := 33) rfl (fun g33 => ?_) (fun g33 => ?_)
     ·try simp only [nm, ne_eq] at g33
      refine w_yes 18 33 true <| st_move (v := .func _ _ _) rfl <| w_yes 18 33 true <| st_call (f := 12) (cap := #[.pointer (some ⟨b3, 0, none⟩), .pointer (some ⟨b4, 0, none⟩), .pointer (some ⟨b5, 0, none⟩)]) (ags := [_, _, _, _]) rfl rfl T.ent12 rfl (of1_spec hT hTl hF [45, 115] (by decide) hp hb4 hb8 hb12 hmx ht) ?_
      rintro _ w34 ⟨rfl, c35⟩
      replace HC := HC.then c35
      replace hT := hT.tr0 c35
      replace hmx := hmx.tr0 c35
      replace ht := ht.tr0 c35
      replace hb4 := hb4.tr0 c35
      replace hb8 := hb8.tr0 c35
      replace hb12 := hb12.tr0 c35
      replace hb17 := hb17.tr0 c35
      refine w_yes 18 33 true <| st_not rfl <| w_yes 18 33 true <| st_move (v := .bool _) rfl <| w_split (d := 37) rfl (fun g36 => ?_) (fun g36 => ?_)
      ·try simp only [nm, ne_eq] at g36
       refine w_no 22 37 false <| w_no 22 37 false <| w_yes 18 33 true <| st_pick (b := true) (v := .bool _) rfl rfl <| pT rfl rfl <| mB rfl <| w_yes 27 42 true <| st_move (v := .func _ _ _) rfl <| w_yes 27 42 true <| st_call (f := 12) (cap := #[.pointer (some ⟨b3, 0, none⟩), .pointer (some ⟨b4, 0, none⟩), .pointer (some ⟨b5, 0, none⟩)]) (ags := [_, _, _, _]) rfl rfl T.ent12 rfl (of1_spec hT hTl hF [45, 104] (by decide) hp hb4 hb8 hb12 hmx ht) ?_
       rintro _ w37 ⟨rfl, c38⟩
       replace HC := HC.then c38
       replace hT := hT.tr0 c38
       replace hmx := hmx.tr0 c38
       replace ht := ht.tr0 c38
       replace hb4 := hb4.tr0 c38
       replace hb8 := hb8.tr0 c38
       replace hb12 := hb12.tr0 c38
       replace hb17 := hb17.tr0 c38
       refine w_yes 27 42 true <| st_move (v := .func _ _ _) rfl <| w_yes 27 42 true <| st_call (f := 12) (cap := #[.pointer (some ⟨b3, 0, none⟩), .pointer (some ⟨b4, 0, none⟩), .pointer (some ⟨b5, 0, none⟩)]) (ags := [_, _, _, _]) rfl rfl T.ent12 rfl (of1_spec hT hTl hF [45, 76] (by decide) hp hb4 hb8 hb12 hmx ht) ?_
       rintro _ w39 ⟨rfl, c40⟩
       replace HC := HC.then c40
       replace hT := hT.tr0 c40
       replace hmx := hmx.tr0 c40
       replace ht := ht.tr0 c40
       replace hb4 := hb4.tr0 c40
       replace hb8 := hb8.tr0 c40
       replace hb12 := hb12.tr0 c40
       replace hb17 := hb17.tr0 c40
       refine w_yes 27 42 true <| st_beql T.u4 rfl rfl <| pT rfl rfl <| mB rfl <| w_split (d := 49) rfl (fun g41 => ?_) (fun g41 => ?_)
       ·try simp only [nm, ne_eq] at g41
        refine w_yes 34 49 true <| st_move (v := .func _ _ _) rfl <| w_yes 34 49 true <| st_call (f := 12) (cap := #[.pointer (some ⟨b3, 0, none⟩), .pointer (some ⟨b4, 0, none⟩), .pointer (some ⟨b5, 0, none⟩)]) (ags := [_, _, _, _]) rfl rfl T.ent12 rfl (of1_spec hT hTl hF [45, 110] (by decide) hp hb4 hb8 hb12 hmx ht) ?_
        rintro _ w42 ⟨rfl, c43⟩
        replace HC := HC.then c43
        replace hT := hT.tr0 c43
        replace hmx := hmx.tr0 c43
        replace ht := ht.tr0 c43
        replace hb4 := hb4.tr0 c43
        replace hb8 := hb8.tr0 c43
        replace hb12 := hb12.tr0 c43
        replace hb17 := hb17.tr0 c43
        refine w_yes 34 49 true <| st_move (v := .func _ _ _) rfl <| w_yes 34 49 true <| st_call (f := 12) (cap := #[.pointer (some ⟨b3, 0, none⟩), .pointer (some ⟨b4, 0, none⟩), .pointer (some ⟨b5, 0, none⟩)]) (ags := [_, _, _, _]) rfl rfl T.ent12 rfl (of1_spec hT hTl hF [45, 122] (by decide) hp hb4 hb8 hb12 hmx ht) ?_
        rintro _ w44 ⟨rfl, c45⟩
        replace HC := HC.then c45
        replace hT := hT.tr0 c45
        replace hmx := hmx.tr0 c45
        replace ht := ht.tr0 c45
        replace hb4 := hb4.tr0 c45
        replace hb8 := hb8.tr0 c45
        replace hb12 := hb12.tr0 c45
        replace hb17 := hb17.tr0 c45
        refine w_yes 34 49 true <| st_bneq T.u4 rfl rfl <| pT rfl rfl <| mB rfl <| w_split (d := 56) rfl (fun g46 => ?_) (fun g46 => ?_)
        ·try simp only [nm, ne_eq] at g46
         refine w_yes 41 56 true <| st_call (ags := []) rfl rfl T.ent10 rfl (awake24_spec hmx ht) ?_
         rintro _ w47 ⟨rfl, c48⟩
         replace HC := HC.then c48
         replace hT := hT.tr0 c48
         replace hmx := hmx.tr0 c48
         replace ht := ht.tr0 c48
         replace hb4 := hb4.tr0 c48
         replace hb8 := hb8.tr0 c48
         replace hb12 := hb12.tr0 c48
         replace hb17 := hb17.tr0 c48
         refine pT rfl rfl <| aB rfl <| en <| x_ret <| ret_tmp (v := .bool _) rfl rfl ?_
         exact ⟨rfl, HC⟩
        ·try simp only [nm, ne_eq] at g46
         exfalso; have ha := of_fd (Z := Z) (cwd := cwd) (p := p); have hb := of_e hF (cwd := cwd) (p := p); have hc := of_s (Z := Z) (cwd := cwd) (p := p); have hd := of_hL (Z := Z) (cwd := cwd) (p := p); have he := of_nz (Z := Z) (cwd := cwd) (p := p); simp_all
       ·try simp only [nm, ne_eq] at g41
        exfalso; have ha := of_fd (Z := Z) (cwd := cwd) (p := p); have hb := of_e hF (cwd := cwd) (p := p); have hc := of_s (Z := Z) (cwd := cwd) (p := p); have hd := of_hL (Z := Z) (cwd := cwd) (p := p); have he := of_nz (Z := Z) (cwd := cwd) (p := p); simp_all
      ·try simp only [nm, ne_eq] at g36
       refine w_yes 22 37 false <| st_move (v := .func _ _ _) rfl <| w_yes 22 37 false <| st_call (f := 12) (cap := #[.pointer (some ⟨b3, 0, none⟩), .pointer (some ⟨b4, 0, none⟩), .pointer (some ⟨b5, 0, none⟩)]) (ags := [_, _, _, _]) rfl rfl T.ent12 rfl (of1_spec hT hTl hF [45, 101] (by decide) hp hb4 hb8 hb12 hmx ht) ?_
       rintro _ w49 ⟨rfl, c50⟩
       replace HC := HC.then c50
       replace hT := hT.tr0 c50
       replace hmx := hmx.tr0 c50
       replace ht := ht.tr0 c50
       replace hb4 := hb4.tr0 c50
       replace hb8 := hb8.tr0 c50
       replace hb12 := hb12.tr0 c50
       replace hb17 := hb17.tr0 c50
       refine w_yes 18 33 true <| st_pick (b := false) (v := .bool _) rfl rfl <| pT rfl rfl <| mB rfl <| w_split (d := 42) rfl (fun g51 => ?_) (fun g51 => ?_)
       ·try simp only [nm, ne_eq] at g51
        refine w_yes 27 42 true <| st_move (v := .func _ _ _) rfl <| w_yes 27 42 true <| st_call (f := 12) (cap := #[.pointer (some ⟨b3, 0, none⟩), .pointer (some ⟨b4, 0, none⟩), .pointer (some ⟨b5, 0, none⟩)]) (ags := [_, _, _, _]) rfl rfl T.ent12 rfl (of1_spec hT hTl hF [45, 104] (by decide) hp hb4 hb8 hb12 hmx ht) ?_
        rintro _ w52 ⟨rfl, c53⟩
        replace HC := HC.then c53
        replace hT := hT.tr0 c53
        replace hmx := hmx.tr0 c53
        replace ht := ht.tr0 c53
        replace hb4 := hb4.tr0 c53
        replace hb8 := hb8.tr0 c53
        replace hb12 := hb12.tr0 c53
        replace hb17 := hb17.tr0 c53
        refine w_yes 27 42 true <| st_move (v := .func _ _ _) rfl <| w_yes 27 42 true <| st_call (f := 12) (cap := #[.pointer (some ⟨b3, 0, none⟩), .pointer (some ⟨b4, 0, none⟩), .pointer (some ⟨b5, 0, none⟩)]) (ags := [_, _, _, _]) rfl rfl T.ent12 rfl (of1_spec hT hTl hF [45, 76] (by decide) hp hb4 hb8 hb12 hmx ht) ?_
        rintro _ w54 ⟨rfl, c55⟩
        replace HC := HC.then c55
        replace hT := hT.tr0 c55
        replace hmx := hmx.tr0 c55
        replace ht := ht.tr0 c55
        replace hb4 := hb4.tr0 c55
        replace hb8 := hb8.tr0 c55
        replace hb12 := hb12.tr0 c55
        replace hb17 := hb17.tr0 c55
        refine w_yes 27 42 true <| st_beql T.u4 rfl rfl <| pT rfl rfl <| mB rfl <| w_split (d := 49) rfl (fun g56 => ?_) (fun g56 => ?_)
        ·try simp only [nm, ne_eq] at g56
         refine w_yes 34 49 true <| st_move (v := .func _ _ _) rfl <| w_yes 34 49 true <| st_call (f := 12) (cap := #[.pointer (some ⟨b3, 0, none⟩), .pointer (some ⟨b4, 0, none⟩), .pointer (some ⟨b5, 0, none⟩)]) (ags := [_, _, _, _]) rfl rfl T.ent12 rfl (of1_spec hT hTl hF [45, 110] (by decide) hp hb4 hb8 hb12 hmx ht) ?_
         rintro _ w57 ⟨rfl, c58⟩
         replace HC := HC.then c58
         replace hT := hT.tr0 c58
         replace hmx := hmx.tr0 c58
         replace ht := ht.tr0 c58
         replace hb4 := hb4.tr0 c58
         replace hb8 := hb8.tr0 c58
         replace hb12 := hb12.tr0 c58
         replace hb17 := hb17.tr0 c58
         refine w_yes 34 49 true <| st_move (v := .func _ _ _) rfl <| w_yes 34 49 true <| st_call (f := 12) (cap := #[.pointer (some ⟨b3, 0, none⟩), .pointer (some ⟨b4, 0, none⟩), .pointer (some ⟨b5, 0, none⟩)]) (ags := [_, _, _, _]) rfl rfl T.ent12 rfl (of1_spec hT hTl hF [45, 122] (by decide) hp hb4 hb8 hb12 hmx ht) ?_
         rintro _ w59 ⟨rfl, c60⟩
         replace HC := HC.then c60
         replace hT := hT.tr0 c60
         replace hmx := hmx.tr0 c60
         replace ht := ht.tr0 c60
         replace hb4 := hb4.tr0 c60
         replace hb8 := hb8.tr0 c60
         replace hb12 := hb12.tr0 c60
         replace hb17 := hb17.tr0 c60
         refine w_yes 34 49 true <| st_bneq T.u4 rfl rfl <| pT rfl rfl <| mB rfl <| w_split (d := 56) rfl (fun g61 => ?_) (fun g61 => ?_)
         ·try simp only [nm, ne_eq] at g61
          refine w_yes 41 56 true <| st_call (ags := []) rfl rfl T.ent10 rfl (awake24_spec hmx ht) ?_
          rintro _ w62 ⟨rfl, c63⟩
          replace HC := HC.then c63
          replace hT := hT.tr0 c63
          replace hmx := hmx.tr0 c63
          replace ht := ht.tr0 c63
          replace hb4 := hb4.tr0 c63
          replace hb8 := hb8.tr0 c63
          replace hb12 := hb12.tr0 c63
          replace hb17 := hb17.tr0 c63
          refine pT rfl rfl <| aB rfl <| en <| x_ret <| ret_tmp (v := .bool _) rfl rfl ?_
          exact ⟨rfl, HC⟩
         ·try simp only [nm, ne_eq] at g61
          exfalso; have ha := of_fd (Z := Z) (cwd := cwd) (p := p); have hb := of_e hF (cwd := cwd) (p := p); have hc := of_s (Z := Z) (cwd := cwd) (p := p); have hd := of_hL (Z := Z) (cwd := cwd) (p := p); have he := of_nz (Z := Z) (cwd := cwd) (p := p); simp_all
        ·try simp only [nm, ne_eq] at g56
         exfalso; have ha := of_fd (Z := Z) (cwd := cwd) (p := p); have hb := of_e hF (cwd := cwd) (p := p); have hc := of_s (Z := Z) (cwd := cwd) (p := p); have hd := of_hL (Z := Z) (cwd := cwd) (p := p); have he := of_nz (Z := Z) (cwd := cwd) (p := p); simp_all
       ·try simp only [nm, ne_eq] at g51
        exfalso; have ha := of_fd (Z := Z) (cwd := cwd) (p := p); have hb := of_e hF (cwd := cwd) (p := p); have hc := of_s (Z := Z) (cwd := cwd) (p := p); have hd := of_hL (Z := Z) (cwd := cwd) (p := p); have he := of_nz (Z := Z) (cwd := cwd) (p := p); simp_all
     ·try simp only [nm, ne_eq] at g33
      exfalso; have ha := of_fd (Z := Z) (cwd := cwd) (p := p); have hb := of_e hF (cwd := cwd) (p := p); have hc := of_s (Z := Z) (cwd := cwd) (p := p); have hd := of_hL (Z := Z) (cwd := cwd) (p := p); have he := of_nz (Z := Z) (cwd := cwd) (p := p); simp_all
    ·try simp only [nm, ne_eq] at g32
     refine w_yes 12 27 false <| st_move (v := .func _ _ _) rfl <| w_yes 12 27 false <| st_call (f := 12) (cap := #[.pointer (some ⟨b3, 0, none⟩), .pointer (some ⟨b4, 0, none⟩), .pointer (some ⟨b5, 0, none⟩)]) (ags := [_, _, _, _]) rfl rfl T.ent12 rfl (of1_spec hT hTl hF [45, 100] (by decide) hp hb4 hb8 hb12 hmx ht) ?_
     rintro _ w64 ⟨rfl, c65⟩
     replace HC := HC.then c65
     replace hT := hT.tr0 c65
     replace hmx := hmx.tr0 c65
     replace ht := ht.tr0 c65
     replace hb4 := hb4.tr0 c65
     replace hb8 := hb8.tr0 c65
     replace hb12 := hb12.tr0 c65
     replace hb17 := hb17.tr0 c65
     refine w_yes 7 22 true <| st_pick (b := false) (v := .bool _) rfl rfl <| w_yes 7 22 true <| st_beql T.u4 rfl rfl <| pT rfl rfl <| mB rfl <| w_split (d := 33) rfl (fun g66 => ?_) (fun g66 => ?_)
     ·try simp only [nm, ne_eq] at g66
      refine w_yes 18 33 true <| st_move (v := .func _ _ _) rfl <| w_yes 18 33 true <| st_call (f := 12) (cap := #[.pointer (some ⟨b3, 0, none⟩), .pointer (some ⟨b4, 0, none⟩), .pointer (some ⟨b5, 0, none⟩)]) (ags := [_, _, _, _]) rfl rfl T.ent12 rfl (of1_spec hT hTl hF [45, 115] (by decide) hp hb4 hb8 hb12 hmx ht) ?_
      rintro _ w67 ⟨rfl, c68⟩
      replace HC := HC.then c68
      replace hT := hT.tr0 c68
      replace hmx := hmx.tr0 c68
      replace ht := ht.tr0 c68
      replace hb4 := hb4.tr0 c68
      replace hb8 := hb8.tr0 c68
      replace hb12 := hb12.tr0 c68
      replace hb17 := hb17.tr0 c68
      refine w_yes 18 33 true <| st_not rfl <| w_yes 18 33 true <| st_move (v := .bool _) rfl <| w_split (d := 37) rfl (fun g69 => ?_) (fun g69 => ?_)
      ·try simp only [nm, ne_eq] at g69
       refine w_no 22 37 false <| w_no 22 37 false <| w_yes 18 33 true <| st_pick (b := true) (v := .bool _) rfl rfl <| pT rfl rfl <| mB rfl <| w_yes 27 42 true <| st_move (v := .func _ _ _) rfl <| w_yes 27 42 true <| st_call (f := 12) (cap := #[.pointer (some ⟨b3, 0, none⟩), .pointer (some ⟨b4, 0, none⟩), .pointer (some ⟨b5, 0, none⟩)]) (ags := [_, _, _, _]) rfl rfl T.ent12 rfl (of1_spec hT hTl hF [45, 104] (by decide) hp hb4 hb8 hb12 hmx ht) ?_
       rintro _ w70 ⟨rfl, c71⟩
       replace HC := HC.then c71
       replace hT := hT.tr0 c71
       replace hmx := hmx.tr0 c71
       replace ht := ht.tr0 c71
       replace hb4 := hb4.tr0 c71
       replace hb8 := hb8.tr0 c71
       replace hb12 := hb12.tr0 c71
       replace hb17 := hb17.tr0 c71
       refine w_yes 27 42 true <| st_move (v := .func _ _ _) rfl <| w_yes 27 42 true <| st_call (f := 12) (cap := #[.pointer (some ⟨b3, 0, none⟩), .pointer (some ⟨b4, 0, none⟩), .pointer (some ⟨b5, 0, none⟩)]) (ags := [_, _, _, _]) rfl rfl T.ent12 rfl (of1_spec hT hTl hF [45, 76] (by decide) hp hb4 hb8 hb12 hmx ht) ?_
       rintro _ w72 ⟨rfl, c73⟩
       replace HC := HC.then c73
       replace hT := hT.tr0 c73
       replace hmx := hmx.tr0 c73
       replace ht := ht.tr0 c73
       replace hb4 := hb4.tr0 c73
       replace hb8 := hb8.tr0 c73
       replace hb12 := hb12.tr0 c73
       replace hb17 := hb17.tr0 c73
       refine w_yes 27 42 true <| st_beql T.u4 rfl rfl <| pT rfl rfl <| mB rfl <| w_split (d := 49) rfl (fun g74 => ?_) (fun g74 => ?_)
       ·try simp only [nm, ne_eq] at g74
        refine w_yes 34 49 true <| st_move (v := .func _ _ _) rfl <| w_yes 34 49 true <| st_call (f := 12) (cap := #[.pointer (some ⟨b3, 0, none⟩), .pointer (some ⟨b4, 0, none⟩), .pointer (some ⟨b5, 0, none⟩)]) (ags := [_, _, _, _]) rfl rfl T.ent12 rfl (of1_spec hT hTl hF [45, 110] (by decide) hp hb4 hb8 hb12 hmx ht) ?_
        rintro _ w75 ⟨rfl, c76⟩
        replace HC := HC.then c76
        replace hT := hT.tr0 c76
        replace hmx := hmx.tr0 c76
        replace ht := ht.tr0 c76
        replace hb4 := hb4.tr0 c76
        replace hb8 := hb8.tr0 c76
        replace hb12 := hb12.tr0 c76
        replace hb17 := hb17.tr0 c76
        refine w_yes 34 49 true <| st_move (v := .func _ _ _) rfl <| w_yes 34 49 true <| st_call (f := 12) (cap := #[.pointer (some ⟨b3, 0, none⟩), .pointer (some ⟨b4, 0, none⟩), .pointer (some ⟨b5, 0, none⟩)]) (ags := [_, _, _, _]) rfl rfl T.ent12 rfl (of1_spec hT hTl hF [45, 122] (by decide) hp hb4 hb8 hb12 hmx ht) ?_
        rintro _ w77 ⟨rfl, c78⟩
        replace HC := HC.then c78
        replace hT := hT.tr0 c78
        replace hmx := hmx.tr0 c78
        replace ht := ht.tr0 c78
        replace hb4 := hb4.tr0 c78
        replace hb8 := hb8.tr0 c78
        replace hb12 := hb12.tr0 c78
        replace hb17 := hb17.tr0 c78
        refine w_yes 34 49 true <| st_bneq T.u4 rfl rfl <| pT rfl rfl <| mB rfl <| w_split (d := 56) rfl (fun g79 => ?_) (fun g79 => ?_)
        ·try simp only [nm, ne_eq] at g79
         refine w_yes 41 56 true <| st_call (ags := []) rfl rfl T.ent10 rfl (awake24_spec hmx ht) ?_
         rintro _ w80 ⟨rfl, c81⟩
         replace HC := HC.then c81
         replace hT := hT.tr0 c81
         replace hmx := hmx.tr0 c81
         replace ht := ht.tr0 c81
         replace hb4 := hb4.tr0 c81
         replace hb8 := hb8.tr0 c81
         replace hb12 := hb12.tr0 c81
         replace hb17 := hb17.tr0 c81
         refine pT rfl rfl <| aB rfl <| en <| x_ret <| ret_tmp (v := .bool _) rfl rfl ?_
         exact ⟨rfl, HC⟩
        ·try simp only [nm, ne_eq] at g79
         exfalso; have ha := of_fd (Z := Z) (cwd := cwd) (p := p); have hb := of_e hF (cwd := cwd) (p := p); have hc := of_s (Z := Z) (cwd := cwd) (p := p); have hd := of_hL (Z := Z) (cwd := cwd) (p := p); have he := of_nz (Z := Z) (cwd := cwd) (p := p); simp_all
       ·try simp only [nm, ne_eq] at g74
        exfalso; have ha := of_fd (Z := Z) (cwd := cwd) (p := p); have hb := of_e hF (cwd := cwd) (p := p); have hc := of_s (Z := Z) (cwd := cwd) (p := p); have hd := of_hL (Z := Z) (cwd := cwd) (p := p); have he := of_nz (Z := Z) (cwd := cwd) (p := p); simp_all
      ·try simp only [nm, ne_eq] at g69
       refine w_yes 22 37 false <| st_move (v := .func _ _ _) rfl <| w_yes 22 37 false <| st_call (f := 12) (cap := #[.pointer (some ⟨b3, 0, none⟩), .pointer (some ⟨b4, 0, none⟩), .pointer (some ⟨b5, 0, none⟩)]) (ags := [_, _, _, _]) rfl rfl T.ent12 rfl (of1_spec hT hTl hF [45, 101] (by decide) hp hb4 hb8 hb12 hmx ht) ?_
       rintro _ w82 ⟨rfl, c83⟩
       replace HC := HC.then c83
       replace hT := hT.tr0 c83
       replace hmx := hmx.tr0 c83
       replace ht := ht.tr0 c83
       replace hb4 := hb4.tr0 c83
       replace hb8 := hb8.tr0 c83
       replace hb12 := hb12.tr0 c83
       replace hb17 := hb17.tr0 c83
       refine w_yes 18 33 true <| st_pick (b := false) (v := .bool _) rfl rfl <| pT rfl rfl <| mB rfl <| w_split (d := 42) rfl (fun g84 => ?_) (fun g84 => ?_)
       ·try simp only [nm, ne_eq] at g84
        refine w_yes 27 42 true <| st_move (v := .func _ _ _) rfl <| w_yes 27 42 true <| st_call (f := 12) (cap := #[.pointer (some ⟨b3, 0, none⟩), .pointer (some ⟨b4, 0, none⟩), .pointer (some ⟨b5, 0, none⟩)]) (ags := [_, _, _, _]) rfl rfl T.ent12 rfl (of1_spec hT hTl hF [45, 104] (by decide) hp hb4 hb8 hb12 hmx ht) ?_
        rintro _ w85 ⟨rfl, c86⟩
        replace HC := HC.then c86
        replace hT := hT.tr0 c86
        replace hmx := hmx.tr0 c86
        replace ht := ht.tr0 c86
        replace hb4 := hb4.tr0 c86
        replace hb8 := hb8.tr0 c86
        replace hb12 := hb12.tr0 c86
        replace hb17 := hb17.tr0 c86
        refine w_yes 27 42 true <| st_move (v := .func _ _ _) rfl <| w_yes 27 42 true <| st_call (f := 12) (cap := #[.pointer (some ⟨b3, 0, none⟩), .pointer (some ⟨b4, 0, none⟩), .pointer (some ⟨b5, 0, none⟩)]) (ags := [_, _, _, _]) rfl rfl T.ent12 rfl (of1_spec hT hTl hF [45, 76] (by decide) hp hb4 hb8 hb12 hmx ht) ?_
        rintro _ w87 ⟨rfl, c88⟩
        replace HC := HC.then c88
        replace hT := hT.tr0 c88
        replace hmx := hmx.tr0 c88
        replace ht := ht.tr0 c88
        replace hb4 := hb4.tr0 c88
        replace hb8 := hb8.tr0 c88
        replace hb12 := hb12.tr0 c88
        replace hb17 := hb17.tr0 c88
        refine w_yes 27 42 true <| st_beql T.u4 rfl rfl <| pT rfl rfl <| mB rfl <| w_split (d := 49) rfl (fun g89 => ?_) (fun g89 => ?_)
        ·try simp only [nm, ne_eq] at g89
         refine w_yes 34 49 true <| st_move (v := .func _ _ _) rfl <| w_yes 34 49 true <| st_call (f := 12) (cap := #[.pointer (some ⟨b3, 0, none⟩), .pointer (some ⟨b4, 0, none⟩), .pointer (some ⟨b5, 0, none⟩)]) (ags := [_, _, _, _]) rfl rfl T.ent12 rfl (of1_spec hT hTl hF [45, 110] (by decide) hp hb4 hb8 hb12 hmx ht) ?_
         rintro _ w90 ⟨rfl, c91⟩
         replace HC := HC.then c91
         replace hT := hT.tr0 c91
         replace hmx := hmx.tr0 c91
         replace ht := ht.tr0 c91
         replace hb4 := hb4.tr0 c91
         replace hb8 := hb8.tr0 c91
         replace hb12 := hb12.tr0 c91
         replace hb17 := hb17.tr0 c91
         refine w_yes 34 49 true <| st_move (v := .func _ _ _) rfl <| w_yes 34 49 true <| st_call (f := 12) (cap := #[.pointer (some ⟨b3, 0, none⟩), .pointer (some ⟨b4, 0, none⟩), .pointer (some ⟨b5, 0, none⟩)]) (ags := [_, _, _, _]) rfl rfl T.ent12 rfl (of1_spec hT hTl hF [45, 122] (by decide) hp hb4 hb8 hb12 hmx ht) ?_
         rintro _ w92 ⟨rfl, c93⟩
         replace HC := HC.then c93
         replace hT := hT.tr0 c93
         replace hmx := hmx.tr0 c93
         replace ht := ht.tr0 c93
         replace hb4 := hb4.tr0 c93
         replace hb8 := hb8.tr0 c93
         replace hb12 := hb12.tr0 c93
         replace hb17 := hb17.tr0 c93
         refine w_yes 34 49 true <| st_bneq T.u4 rfl rfl <| pT rfl rfl <| mB rfl <| w_split (d := 56) rfl (fun g94 => ?_) (fun g94 => ?_)
         ·try simp only [nm, ne_eq] at g94
          refine w_yes 41 56 true <| st_call (ags := []) rfl rfl T.ent10 rfl (awake24_spec hmx ht) ?_
          rintro _ w95 ⟨rfl, c96⟩
          replace HC := HC.then c96
          replace hT := hT.tr0 c96
          replace hmx := hmx.tr0 c96
          replace ht := ht.tr0 c96
          replace hb4 := hb4.tr0 c96
          replace hb8 := hb8.tr0 c96
          replace hb12 := hb12.tr0 c96
          replace hb17 := hb17.tr0 c96
          refine pT rfl rfl <| aB rfl <| en <| x_ret <| ret_tmp (v := .bool _) rfl rfl ?_
          exact ⟨rfl, HC⟩
         ·try simp only [nm, ne_eq] at g94
          exfalso; have ha := of_fd (Z := Z) (cwd := cwd) (p := p); have hb := of_e hF (cwd := cwd) (p := p); have hc := of_s (Z := Z) (cwd := cwd) (p := p); have hd := of_hL (Z := Z) (cwd := cwd) (p := p); have he := of_nz (Z := Z) (cwd := cwd) (p := p); simp_all
        ·try simp only [nm, ne_eq] at g89
         exfalso; have ha := of_fd (Z := Z) (cwd := cwd) (p := p); have hb := of_e hF (cwd := cwd) (p := p); have hc := of_s (Z := Z) (cwd := cwd) (p := p); have hd := of_hL (Z := Z) (cwd := cwd) (p := p); have he := of_nz (Z := Z) (cwd := cwd) (p := p); simp_all
       ·try simp only [nm, ne_eq] at g84
        exfalso; have ha := of_fd (Z := Z) (cwd := cwd) (p := p); have hb := of_e hF (cwd := cwd) (p := p); have hc := of_s (Z := Z) (cwd := cwd) (p := p); have hd := of_hL (Z := Z) (cwd := cwd) (p := p); have he := of_nz (Z := Z) (cwd := cwd) (p := p); simp_all
     ·try simp only [nm, ne_eq] at g66
      exfalso; have ha := of_fd (Z := Z) (cwd := cwd) (p := p); have hb := of_e hF (cwd := cwd) (p := p); have hc := of_s (Z := Z) (cwd := cwd) (p := p); have hd := of_hL (Z := Z) (cwd := cwd) (p := p); have he := of_nz (Z := Z) (cwd := cwd) (p := p); simp_all
   ·try simp only [nm, ne_eq] at g27
    exfalso; have ha := of_fd (Z := Z) (cwd := cwd) (p := p); have hb := of_e hF (cwd := cwd) (p := p); have hc := of_s (Z := Z) (cwd := cwd) (p := p); have hd := of_hL (Z := Z) (cwd := cwd) (p := p); have he := of_nz (Z := Z) (cwd := cwd) (p := p); simp_all
  ·try simp only [nm, ne_eq] at g24
   refine w_no 2 17 true <| w_no 2 17 true <| pF rfl rfl <| Wp rfl <| st_not rfl <| mB rfl <| w_yes 7 22 true <| st_move (v := .func _ _ _) rfl <| w_yes 7 22 true <| st_call (f := 12) (cap := #[.pointer (some ⟨b3, 0, none⟩), .pointer (some ⟨b4, 0, none⟩), .pointer (some ⟨b5, 0, none⟩)]) (ags := [_, _, _, _]) rfl rfl T.ent12 rfl (of1_spec hT hTl hF [45, 101] (by decide) hp hb4 hb8 hb12 hmx ht) ?_
   rintro _ w97 ⟨rfl, c98⟩
   replace HC := HC.then c98
   replace hT := hT.tr0 c98
   replace hmx := hmx.tr0 c98
   replace ht := ht.tr0 c98
   replace hb4 := hb4.tr0 c98
   replace hb8 := hb8.tr0 c98
   replace hb12 := hb12.tr0 c98
   replace hb17 := hb17.tr0 c98
   refine w_yes 7 22 true <| st_move (v := .func _ _ _) rfl <| w_yes 7 22 true <| st_call (f := 12) (cap := #[.pointer (some ⟨b3, 0, none⟩), .pointer (some ⟨b4, 0, none⟩), .pointer (some ⟨b5, 0, none⟩)]) (ags := [_, _, _, _]) rfl rfl T.ent12 rfl (of1_spec hT hTl hF [45, 102] (by decide) hp hb4 hb8 hb12 hmx ht) ?_
   rintro _ w99 ⟨rfl, c100⟩
   replace HC := HC.then c100
   replace hT := hT.tr0 c100
   replace hmx := hmx.tr0 c100
   replace ht := ht.tr0 c100
   replace hb4 := hb4.tr0 c100
   replace hb8 := hb8.tr0 c100
   replace hb12 := hb12.tr0 c100
   replace hb17 := hb17.tr0 c100
   refine w_yes 7 22 true <| st_move (v := .bool _) rfl <| w_split (d := 27) rfl (fun g101 => ?_) (fun g101 => ?_)
   ·try simp only [nm, ne_eq] at g101
    refine w_no 12 27 false <| w_no 12 27 false <| w_yes 7 22 true <| st_pick (b := true) (v := .bool _) rfl rfl <| w_yes 7 22 true <| st_beql T.u4 rfl rfl <| pT rfl rfl <| mB rfl <| w_split (d := 33) rfl (fun g102 => ?_) (fun g102 => ?_)
    ·try simp only [nm, ne_eq] at g102
     refine w_yes 18 33 true <| st_move (v := .func _ _ _) rfl <| w_yes 18 33 true <| st_call (f := 12) (cap := #[.pointer (some ⟨b3, 0, none⟩), .pointer (some ⟨b4, 0, none⟩), .pointer (some ⟨b5, 0, none⟩)]) (ags := [_, _, _, _]) rfl rfl T.ent12 rfl (of1_spec hT hTl hF [45, 115] (by decide) hp hb4 hb8 hb12 hmx ht) ?_
     rintro _ w103 ⟨rfl, c104⟩
     replace HC := HC.then c104
     replace hT := hT.tr0 c104
     replace hmx := hmx.tr0 c104
     replace ht := ht.tr0 c104
     replace hb4 := hb4.tr0 c104
     replace hb8 := hb8.tr0 c104
     replace hb12 := hb12.tr0 c104
     replace hb17 := hb17.tr0 c104
     refine w_yes 18 33 true <| st_not rfl <| w_yes 18 33 true <| st_move (v := .bool _) rfl <| w_split (d := 37) rfl (fun g105 => ?_) (fun g105 => ?_)
     ·try simp only [nm, ne_eq] at g105
      refine w_no 22 37 false <| w_no 22 37 false <| w_yes 18 33 true <| st_pick (b := true) (v := .bool _) rfl rfl <| pT rfl rfl <| mB rfl <| w_yes 27 42 true <| st_move (v := .func _ _ _) rfl <| w_yes 27 42 true <| st_call (f := 12) (cap := #[.pointer (some ⟨b3, 0, none⟩), .pointer (some ⟨b4, 0, none⟩), .pointer (some ⟨b5, 0, none⟩)]) (ags := [_, _, _, _]) rfl rfl T.ent12 rfl (of1_spec hT hTl hF [45, 104] (by decide) hp hb4 hb8 hb12 hmx ht) ?_
      rintro _ w106 ⟨rfl, c107⟩
      replace HC := HC.then c107
      replace hT := hT.tr0 c107
      replace hmx := hmx.tr0 c107
      replace ht := ht.tr0 c107
      replace hb4 := hb4.tr0 c107
      replace hb8 := hb8.tr0 c107
      replace hb12 := hb12.tr0 c107
      replace hb17 := hb17.tr0 c107
      refine w_yes 27 42 true <| st_move (v := .func _ _ _) rfl <| w_yes 27 42 true <| st_call (f := 12) (cap := #[.pointer (some ⟨b3, 0, none⟩), .pointer (some ⟨b4, 0, none⟩), .pointer (some ⟨b5, 0, none⟩)]) (ags := [_, _, _, _]) rfl rfl T.ent12 rfl (of1_spec hT hTl hF [45, 76] (by decide) hp hb4 hb8 hb12 hmx ht) ?_
      rintro _ w108 ⟨rfl, c109⟩
      replace HC := HC.then c109
      replace hT := hT.tr0 c109
      replace hmx := hmx.tr0 c109
      replace ht := ht.tr0 c109
      replace hb4 := hb4.tr0 c109
      replace hb8 := hb8.tr0 c109
      replace hb12 := hb12.tr0 c109
      replace hb17 := hb17.tr0 c109
      refine w_yes 27 42 true <| st_beql T.u4 rfl rfl <| pT rfl rfl <| mB rfl <| w_split (d := 49) rfl (fun g110 => ?_) (fun g110 => ?_)
      ·try simp only [nm, ne_eq] at g110
       refine w_yes 34 49 true <| st_move (v := .func _ _ _) rfl <| w_yes 34 49 true <| st_call (f := 12) (cap := #[.pointer (some ⟨b3, 0, none⟩), .pointer (some ⟨b4, 0, none⟩), .pointer (some ⟨b5, 0, none⟩)]) (ags := [_, _, _, _]) rfl rfl T.ent12 rfl (of1_spec hT hTl hF [45, 110] (by decide) hp hb4 hb8 hb12 hmx ht) ?_
       rintro _ w111 ⟨rfl, c112⟩
       replace HC := HC.then c112
       replace hT := hT.tr0 c112
       replace hmx := hmx.tr0 c112
       replace ht := ht.tr0 c112
       replace hb4 := hb4.tr0 c112
       replace hb8 := hb8.tr0 c112
       replace hb12 := hb12.tr0 c112
       replace hb17 := hb17.tr0 c112
       refine w_yes 34 49 true <| st_move (v := .func _ _ _) rfl <| w_yes 34 49 true <| st_call (f := 12) (cap := #[.pointer (some ⟨b3, 0, none⟩), .pointer (some ⟨b4, 0, none⟩), .pointer (some ⟨b5, 0, none⟩)]) (ags := [_, _, _, _]) rfl rfl T.ent12 rfl (of1_spec hT hTl hF [45, 122] (by decide) hp hb4 hb8 hb12 hmx ht) ?_
       rintro _ w113 ⟨rfl, c114⟩
       replace HC := HC.then c114
       replace hT := hT.tr0 c114
       replace hmx := hmx.tr0 c114
       replace ht := ht.tr0 c114
       replace hb4 := hb4.tr0 c114
       replace hb8 := hb8.tr0 c114
       replace hb12 := hb12.tr0 c114
       replace hb17 := hb17.tr0 c114
       refine w_yes 34 49 true <| st_bneq T.u4 rfl rfl <| pT rfl rfl <| mB rfl <| w_split (d := 56) rfl (fun g115 => ?_) (fun g115 => ?_)
       ·try simp only [nm, ne_eq] at g115
        refine w_yes 41 56 true <| st_call (ags := []) rfl rfl T.ent10 rfl (awake24_spec hmx ht) ?_
        rintro _ w116 ⟨rfl, c117⟩
        replace HC := HC.then c117
        replace hT := hT.tr0 c117
        replace hmx := hmx.tr0 c117
        replace ht := ht.tr0 c117
        replace hb4 := hb4.tr0 c117
        replace hb8 := hb8.tr0 c117
        replace hb12 := hb12.tr0 c117
        replace hb17 := hb17.tr0 c117
        refine pT rfl rfl <| aB rfl <| en <| x_ret <| ret_tmp (v := .bool _) rfl rfl ?_
        exact ⟨rfl, HC⟩
       ·try simp only [nm, ne_eq] at g115
        exfalso; have ha := of_fd (Z := Z) (cwd := cwd) (p := p); have hb := of_e hF (cwd := cwd) (p := p); have hc := of_s (Z := Z) (cwd := cwd) (p := p); have hd := of_hL (Z := Z) (cwd := cwd) (p := p); have he := of_nz (Z := Z) (cwd := cwd) (p := p); simp_all
      ·try simp only [nm, ne_eq] at g110
       exfalso; have ha := of_fd (Z := Z) (cwd := cwd) (p := p); have hb := of_e hF (cwd := cwd) (p := p); have hc := of_s (Z := Z) (cwd := cwd) (p := p); have hd := of_hL (Z := Z) (cwd := cwd) (p := p); have he := of_nz (Z := Z) (cwd := cwd) (p := p); simp_all
     ·try simp only [nm, ne_eq] at g105
      refine w_yes 22 37 false <| st_move (v := .func _ _ _) rfl <| w_yes 22 37 false <| st_call (f := 12) (cap := #[.pointer (some ⟨b3, 0, none⟩), .pointer (some ⟨b4, 0, none⟩), .pointer (some ⟨b5, 0, none⟩)]) (ags := [_, _, _, _]) rfl rfl T.ent12 rfl (of1_spec hT hTl hF [45, 101] (by decide) hp hb4 hb8 hb12 hmx ht) ?_
      rintro _ w118 ⟨rfl, c119⟩
      replace HC := HC.then c119
      replace hT := hT.tr0 c119
      replace hmx := hmx.tr0 c119
      replace ht := ht.tr0 c119
      replace hb4 := hb4.tr0 c119
      replace hb8 := hb8.tr0 c119
      replace hb12 := hb12.tr0 c119
      replace hb17 := hb17.tr0 c119
      refine w_yes 18 33 true <| st_pick (b := false) (v := .bool _) rfl rfl <| pT rfl rfl <| mB rfl <| w_split (d := 42) rfl (fun g120 => ?_) (fun g120 => ?_)
      ·try simp only [nm, ne_eq] at g120
       refine w_yes 27 42 true <| st_move (v := .func _ _ _) rfl <| w_yes 27 42 true <| st_call (f := 12) (cap := #[.pointer (some ⟨b3, 0, none⟩), .pointer (some ⟨b4, 0, none⟩), .pointer (some ⟨b5, 0, none⟩)]) (ags := [_, _, _, _]) rfl rfl T.ent12 rfl (of1_spec hT hTl hF [45, 104] (by decide) hp hb4 hb8 hb12 hmx ht) ?_
       rintro _ w121 ⟨rfl, c122⟩
       replace HC := HC.then c122
       replace hT := hT.tr0 c122
       replace hmx := hmx.tr0 c122
       replace ht := ht.tr0 c122
       replace hb4 := hb4.tr0 c122
       replace hb8 := hb8.tr0 c122
       replace hb12 := hb12.tr0 c122
       replace hb17 := hb17.tr0 c122
       refine w_yes 27 42 true <| st_move (v := .func _ _ _) rfl <| w_yes 27 42 true <| st_call (f := 12) (cap := #[.pointer (some ⟨b3, 0, none⟩), .pointer (some ⟨b4, 0, none⟩), .pointer (some ⟨b5, 0, none⟩)]) (ags := [_, _, _, _]) rfl rfl T.ent12 rfl (of1_spec hT hTl hF [45, 76] (by decide) hp hb4 hb8 hb12 hmx ht) ?_
       rintro _ w123 ⟨rfl, c124⟩
       replace HC := HC.then c124
       replace hT := hT.tr0 c124
       replace hmx := hmx.tr0 c124
       replace ht := ht.tr0 c124
       replace hb4 := hb4.tr0 c124
       replace hb8 := hb8.tr0 c124
       replace hb12 := hb12.tr0 c124
       replace hb17 := hb17.tr0 c124
       refine w_yes 27 42 true <| st_beql T.u4 rfl rfl <| pT rfl rfl <| mB rfl <| w_split (d := 49) rfl (fun g125 => ?_) (fun g125 => ?_)
       ·try simp only [nm, ne_eq] at g125
        refine w_yes 34 49 true <| st_move (v := .func _ _ _) rfl <| w_yes 34 49 true <| st_call (f := 12) (cap := #[.pointer (some ⟨b3, 0, none⟩), .pointer (some ⟨b4, 0, none⟩), .pointer (some ⟨b5, 0, none⟩)]) (ags := [_, _, _, _]) rfl rfl T.ent12 rfl (of1_spec hT hTl hF [45, 110] (by decide) hp hb4 hb8 hb12 hmx ht) ?_
        rintro _ w126 ⟨rfl, c127⟩
        replace HC := HC.then c127
        replace hT := hT.tr0 c127
        replace hmx := hmx.tr0 c127
        replace ht := ht.tr0 c127
        replace hb4 := hb4.tr0 c127
        replace hb8 := hb8.tr0 c127
        replace hb12 := hb12.tr0 c127
        replace hb17 := hb17.tr0 c127
        refine w_yes 34 49 true <| st_move (v := .func _ _ _) rfl <| w_yes 34 49 true <| st_call (f := 12) (cap := #[.pointer (some ⟨b3, 0, none⟩), .pointer (some ⟨b4, 0, none⟩), .pointer (some ⟨b5, 0, none⟩)]) (ags := [_, _, _, _]) rfl rfl T.ent12 rfl (of1_spec hT hTl hF [45, 122] (by decide) hp hb4 hb8 hb12 hmx ht) ?_
        rintro _ w128 ⟨rfl, c129⟩
        replace HC := HC.then c129
        replace hT := hT.tr0 c129
        replace hmx := hmx.tr0 c129
        replace ht := ht.tr0 c129
        replace hb4 := hb4.tr0 c129
        replace hb8 := hb8.tr0 c129
        replace hb12 := hb12.tr0 c129
        replace hb17 := hb17.tr0 c129
        refine w_yes 34 49 true <| st_bneq T.u4 rfl rfl <| pT rfl rfl <| mB rfl <| w_split (d := 56) rfl (fun g130 => ?_) (fun g130 => ?_)
        ·try simp only [nm, ne_eq] at g130
         refine w_yes 41 56 true <| st_call (ags := []) rfl rfl T.ent10 rfl (awake24_spec hmx ht) ?_
         rintro _ w131 ⟨rfl, c132⟩
         replace HC := HC.then c132
         replace hT := hT.tr0 c132
         replace hmx := hmx.tr0 c132
         replace ht := ht.tr0 c132
         replace hb4 := hb4.tr0 c132
         replace hb8 := hb8.tr0 c132
         replace hb12 := hb12.tr0 c132
         replace hb17 := hb17.tr0 c132
         refine pT rfl rfl <| aB rfl <| en <| x_ret <| ret_tmp (v := .bool _) rfl rfl ?_
         exact ⟨rfl, HC⟩
        ·try simp only [nm, ne_eq] at g130
         exfalso; have ha := of_fd (Z := Z) (cwd := cwd) (p := p); have hb := of_e hF (cwd := cwd) (p := p); have hc := of_s (Z := Z) (cwd := cwd) (p := p); have hd := of_hL (Z := Z) (cwd := cwd) (p := p); have he := of_nz (Z := Z) (cwd := cwd) (p := p); simp_all
       ·try simp only [nm, ne_eq] at g125
        exfalso; have ha := of_fd (Z := Z) (cwd := cwd) (p := p); have hb := of_e hF (cwd := cwd) (p := p); have hc := of_s (Z := Z) (cwd := cwd) (p := p); have hd := of_hL (Z := Z) (cwd := cwd) (p := p); have he := of_nz (Z := Z) (cwd := cwd) (p := p); simp_all
      ·try simp only [nm, ne_eq] at g120
       exfalso; have ha := of_fd (Z := Z) (cwd := cwd) (p := p); have hb := of_e hF (cwd := cwd) (p := p); have hc := of_s (Z := Z) (cwd := cwd) (p := p); have hd := of_hL (Z := Z) (cwd := cwd) (p := p); have he := of_nz (Z := Z) (cwd := cwd) (p := p); simp_all
    ·try simp only [nm, ne_eq] at g102
     exfalso; have ha := of_fd (Z := Z) (cwd := cwd) (p := p); have hb := of_e hF (cwd := cwd) (p := p); have hc := of_s (Z := Z) (cwd := cwd) (p := p); have hd := of_hL (Z := Z) (cwd := cwd) (p := p); have he := of_nz (Z := Z) (cwd := cwd) (p := p); simp_all
   ·try simp only [nm, ne_eq] at g101
    refine w_yes 12 27 false <| st_move (v := .func _ _ _) rfl <| w_yes 12 27 false <| st_call (f := 12) (cap := #[.pointer (some ⟨b3, 0, none⟩), .pointer (some ⟨b4, 0, none⟩), .pointer (some ⟨b5, 0, none⟩)]) (ags := [_, _, _, _]) rfl rfl T.ent12 rfl (of1_spec hT hTl hF [45, 100] (by decide) hp hb4 hb8 hb12 hmx ht) ?_
    rintro _ w133 ⟨rfl, c134⟩
    replace HC := HC.then c134
    replace hT := hT.tr0 c134
    replace hmx := hmx.tr0 c134
    replace ht := ht.tr0 c134
    replace hb4 := hb4.tr0 c134
    replace hb8 := hb8.tr0 c134
    replace hb12 := hb12.tr0 c134
    replace hb17 := hb17.tr0 c134
    refine w_yes 7 22 true <| st_pick (b := false) (v := .bool _) rfl rfl <| w_yes 7 22 true <| st_beql T.u4 rfl rfl <| pT rfl rfl <| mB rfl <| w_split (d := 33) rfl (fun g135 => ?_) (fun g135 => ?_)
    ·try simp only [nm, ne_eq] at g135
     refine w_yes 18 33 true <| st_move (v := .func _ _ _) rfl <| w_yes 18 33 true <| st_call (f := 12) (cap := #[.pointer (some ⟨b3, 0, none⟩), .pointer (some ⟨b4, 0, none⟩), .pointer (some ⟨b5, 0, none⟩)]) (ags := [_, _, _, _]) rfl rfl T.ent12 rfl (of1_spec hT hTl hF [45, 115] (by decide) hp hb4 hb8 hb12 hmx ht) ?_
     rintro _ w136 ⟨rfl, c137⟩
     replace HC := HC.then c137
     replace hT := hT.tr0 c137
     replace hmx := hmx.tr0 c137
     replace ht := ht.tr0 c137
     replace hb4 := hb4.tr0 c137
     replace hb8 := hb8.tr0 c137
     replace hb12 := hb12.tr0 c137
     replace hb17 := hb17.tr0 c137
     refine w_yes 18 33 true <| st_not rfl <| w_yes 18 33 true <| st_move (v := .bool _) rfl <| w_split (d := 37) rfl (fun g138 => ?_) (fun g138 => ?_)
     ·try simp only [nm, ne_eq] at g138
      refine w_no 22 37 false <| w_no 22 37 false <| w_yes 18 33 true <| st_pick (b := true) (v := .bool _) rfl rfl <| pT rfl rfl <| mB rfl <| w_yes 27 42 true <| st_move (v := .func _ _ _) rfl <| w_yes 27 42 true <| st_call (f := 12) (cap := #[.pointer (some ⟨b3, 0, none⟩), .pointer (some ⟨b4, 0, none⟩), .pointer (some ⟨b5, 0, none⟩)]) (ags := [_, _, _, _]) rfl rfl T.ent12 rfl (of1_spec hT hTl hF [45, 104] (by decide) hp hb4 hb8 hb12 hmx ht) ?_
      rintro _ w139 ⟨rfl, c140⟩
      replace HC := HC.then c140
      replace hT := hT.tr0 c140
      replace hmx := hmx.tr0 c140
      replace ht := ht.tr0 c140
      replace hb4 := hb4.tr0 c140
      replace hb8 := hb8.tr0 c140
      replace hb12 := hb12.tr0 c140
      replace hb17 := hb17.tr0 c140
      refine w_yes 27 42 true <| st_move (v := .func _ _ _) rfl <| w_yes 27 42 true <| st_call (f := 12) (cap := #[.pointer (some ⟨b3, 0, none⟩), .pointer (some ⟨b4, 0, none⟩), .pointer (some ⟨b5, 0, none⟩)]) (ags := [_, _, _, _]) rfl rfl T.ent12 rfl (of1_spec hT hTl hF [45, 76] (by decide) hp hb4 hb8 hb12 hmx ht) ?_
      rintro _ w141 ⟨rfl, c142⟩
      replace HC := HC.then c142
      replace hT := hT.tr0 c142
      replace hmx := hmx.tr0 c142
      replace ht := ht.tr0 c142
      replace hb4 := hb4.tr0 c142
      replace hb8 := hb8.tr0 c142
      replace hb12 := hb12.tr0 c142
      replace hb17 := hb17.tr0 c142
      refine w_yes 27 42 true <| st_beql T.u4 rfl rfl <| pT rfl rfl <| mB rfl <| w_split (d := 49) rfl (fun g143 => ?_) (fun g143 => ?_)
      ·try simp only [nm, ne_eq] at g143
       refine w_yes 34 49 true <| st_move (v := .func _ _ _) rfl <| w_yes 34 49 true <| st_call (f := 12) (cap := #[.pointer (some ⟨b3, 0, none⟩), .pointer (some ⟨b4, 0, none⟩), .pointer (some ⟨b5, 0, none⟩)]) (ags := [_, _, _, _]) rfl rfl T.ent12 rfl (of1_spec hT hTl hF [45, 110] (by decide) hp hb4 hb8 hb12 hmx ht) ?_
       rintro _ w144 ⟨rfl, c145⟩
       replace HC := HC.then c145
       replace hT := hT.tr0 c145
       replace hmx := hmx.tr0 c145
       replace ht := ht.tr0 c145
       replace hb4 := hb4.tr0 c145
       replace hb8 := hb8.tr0 c145
       replace hb12 := hb12.tr0 c145
       replace hb17 := hb17.tr0 c145
       refine w_yes 34 49 true <| st_move (v := .func _ _ _) rfl <| w_yes 34 49 true <| st_call (f := 12) (cap := #[.pointer (some ⟨b3, 0, none⟩), .pointer (some ⟨b4, 0, none⟩), .pointer (some ⟨b5, 0, none⟩)]) (ags := [_, _, _, _]) rfl rfl T.ent12 rfl (of1_spec hT hTl hF [45, 122] (by decide) hp hb4 hb8 hb12 hmx ht) ?_
       rintro _ w146 ⟨rfl, c147⟩
       replace HC := HC.then c147
       replace hT := hT.tr0 c147
       replace hmx := hmx.tr0 c147
       replace ht := ht.tr0 c147
       replace hb4 := hb4.tr0 c147
       replace hb8 := hb8.tr0 c147
       replace hb12 := hb12.tr0 c147
       replace hb17 := hb17.tr0 c147
       refine w_yes 34 49 true <| st_bneq T.u4 rfl rfl <| pT rfl rfl <| mB rfl <| w_split (d := 56) rfl (fun g148 => ?_) (fun g148 => ?_)
       ·try simp only [nm, ne_eq] at g148
        refine w_yes 41 56 true <| st_call (ags := []) rfl rfl T.ent10 rfl (awake24_spec hmx ht) ?_
        rintro _ w149 ⟨rfl, c150⟩
        replace HC := HC.then c150
        replace hT := hT.tr0 c150
        replace hmx := hmx.tr0 c150
        replace ht := ht.tr0 c150
        replace hb4 := hb4.tr0 c150
        replace hb8 := hb8.tr0 c150
        replace hb12 := hb12.tr0 c150
        replace hb17 := hb17.tr0 c150
        refine pT rfl rfl <| aB rfl <| en <| x_ret <| ret_tmp (v := .bool _) rfl rfl ?_
        exact ⟨rfl, HC⟩
       ·try simp only [nm, ne_eq] at g148
        exfalso; have ha := of_fd (Z := Z) (cwd := cwd) (p := p); have hb := of_e hF (cwd := cwd) (p := p); have hc := of_s (Z := Z) (cwd := cwd) (p := p); have hd := of_hL (Z := Z) (cwd := cwd) (p := p); have he := of_nz (Z := Z) (cwd := cwd) (p := p); simp_all
      ·try simp only [nm, ne_eq] at g143
       exfalso; have ha := of_fd (Z := Z) (cwd := cwd) (p := p); have hb := of_e hF (cwd := cwd) (p := p); have hc := of_s (Z := Z) (cwd := cwd) (p := p); have hd := of_hL (Z := Z) (cwd := cwd) (p := p); have he := of_nz (Z := Z) (cwd := cwd) (p := p); simp_all
     ·try simp only [nm, ne_eq] at g138
      refine w_yes 22 37 false <| st_move (v := .func _ _ _) rfl <| w_yes 22 37 false <| st_call (f := 12) (cap := #[.pointer (some ⟨b3, 0, none⟩), .pointer (some ⟨b4, 0, none⟩), .pointer (some ⟨b5, 0, none⟩)]) (ags := [_, _, _, _]) rfl rfl T.ent12 rfl (of1_spec hT hTl hF [45, 101] (by decide) hp hb4 hb8 hb12 hmx ht) ?_
      rintro _ w151 ⟨rfl, c152⟩
      replace HC := HC.then c152
      replace hT := hT.tr0 c152
      replace hmx := hmx.tr0 c152
      replace ht := ht.tr0 c152
      replace hb4 := hb4.tr0 c152
      replace hb8 := hb8.tr0 c152
      replace hb12 := hb12.tr0 c152
      replace hb17 := hb17.tr0 c152
      refine w_yes 18 33 true <| st_pick (b := false) (v := .bool _) rfl rfl <| pT rfl rfl <| mB rfl <| w_split (d := 42) rfl (fun g153 => ?_) (fun g153 => ?_)
      ·try simp only [nm, ne_eq] at g153
       refine w_yes 27 42 true <| st_move (v := .func _ _ _) rfl <| w_yes 27 42 true <| st_call (f := 12) (cap := #[.pointer (some ⟨b3, 0, none⟩), .pointer (some ⟨b4, 0, none⟩), .pointer (some ⟨b5, 0, none⟩)]) (ags := [_, _, _, _]) rfl rfl T.ent12 rfl (of1_spec hT hTl hF [45, 104] (by decide) hp hb4 hb8 hb12 hmx ht) ?_
       rintro _ w154 ⟨rfl, c155⟩
       replace HC := HC.then c155
       replace hT := hT.tr0 c155
       replace hmx := hmx.tr0 c155
       replace ht := ht.tr0 c155
       replace hb4 := hb4.tr0 c155
       replace hb8 := hb8.tr0 c155
       replace hb12 := hb12.tr0 c155
       replace hb17 := hb17.tr0 c155
       refine w_yes 27 42 true <| st_move (v := .func _ _ _) rfl <| w_yes 27 42 true <| st_call (f := 12) (cap := #[.pointer (some ⟨b3, 0, none⟩), .pointer (some ⟨b4, 0, none⟩), .pointer (some ⟨b5, 0, none⟩)]) (ags := [_, _, _, _]) rfl rfl T.ent12 rfl (of1_spec hT hTl hF [45, 76] (by decide) hp hb4 hb8 hb12 hmx ht) ?_
       rintro _ w156 ⟨rfl, c157⟩
       replace HC := HC.then c157
       replace hT := hT.tr0 c157
       replace hmx := hmx.tr0 c157
       replace ht := ht.tr0 c157
       replace hb4 := hb4.tr0 c157
       replace hb8 := hb8.tr0 c157
       replace hb12 := hb12.tr0 c157
       replace hb17 := hb17.tr0 c157
       refine w_yes 27 42 true <| st_beql T.u4 rfl rfl <| pT rfl rfl <| mB rfl <| w_split (d := 49) rfl (fun g158 => ?_) (fun g158 => ?_)
       ·try simp only [nm, ne_eq] at g158
        refine w_yes 34 49 true <| st_move (v := .func _ _ _) rfl <| w_yes 34 49 true <| st_call (f := 12) (cap := #[.pointer (some ⟨b3, 0, none⟩), .pointer (some ⟨b4, 0, none⟩), .pointer (some ⟨b5, 0, none⟩)]) (ags := [_, _, _, _]) rfl rfl T.ent12 rfl (of1_spec hT hTl hF [45, 110] (by decide) hp hb4 hb8 hb12 hmx ht) ?_
        rintro _ w159 ⟨rfl, c160⟩
        replace HC := HC.then c160
        replace hT := hT.tr0 c160
        replace hmx := hmx.tr0 c160
        replace ht := ht.tr0 c160
        replace hb4 := hb4.tr0 c160
        replace hb8 := hb8.tr0 c160
        replace hb12 := hb12.tr0 c160
        replace hb17 := hb17.tr0 c160
        refine w_yes 34 49 true <| st_move (v := .func _ _ _) rfl <| w_yes 34 49 true <| st_call (f := 12) (cap := #[.pointer (some ⟨b3, 0, none⟩), .pointer (some ⟨b4, 0, none⟩), .pointer (some ⟨b5, 0, none⟩)]) (ags := [_, _, _, _]) rfl rfl T.ent12 rfl (of1_spec hT hTl hF [45, 122] (by decide) hp hb4 hb8 hb12 hmx ht) ?_
        rintro _ w161 ⟨rfl, c162⟩
        replace HC := HC.then c162
        replace hT := hT.tr0 c162
        replace hmx := hmx.tr0 c162
        replace ht := ht.tr0 c162
        replace hb4 := hb4.tr0 c162
        replace hb8 := hb8.tr0 c162
        replace hb12 := hb12.tr0 c162
        replace hb17 := hb17.tr0 c162
        refine w_yes 34 49 true <| st_bneq T.u4 rfl rfl <| pT rfl rfl <| mB rfl <| w_split (d := 56) rfl (fun g163 => ?_) (fun g163 => ?_)
        ·try simp only [nm, ne_eq] at g163
         refine w_yes 41 56 true <| st_call (ags := []) rfl rfl T.ent10 rfl (awake24_spec hmx ht) ?_
         rintro _ w164 ⟨rfl, c165⟩
         replace HC := HC.then c165
         replace hT := hT.tr0 c165
         replace hmx := hmx.tr0 c165
         replace ht := ht.tr0 c165
         replace hb4 := hb4.tr0 c165
         replace hb8 := hb8.tr0 c165
         replace hb12 := hb12.tr0 c165
         replace hb17 := hb17.tr0 c165
         refine pT rfl rfl <| aB rfl <| en <| x_ret <| ret_tmp (v := .bool _) rfl rfl ?_
         exact ⟨rfl, HC⟩
        ·try simp only [nm, ne_eq] at g163
         exfalso; have ha := of_fd (Z := Z) (cwd := cwd) (p := p); have hb := of_e hF (cwd := cwd) (p := p); have hc := of_s (Z := Z) (cwd := cwd) (p := p); have hd := of_hL (Z := Z) (cwd := cwd) (p := p); have he := of_nz (Z := Z) (cwd := cwd) (p := p); simp_all
       ·try simp only [nm, ne_eq] at g158
        exfalso; have ha := of_fd (Z := Z) (cwd := cwd) (p := p); have hb := of_e hF (cwd := cwd) (p := p); have hc := of_s (Z := Z) (cwd := cwd) (p := p); have hd := of_hL (Z := Z) (cwd := cwd) (p := p); have he := of_nz (Z := Z) (cwd := cwd) (p := p); simp_all
      ·try simp only [nm, ne_eq] at g153
       exfalso; have ha := of_fd (Z := Z) (cwd := cwd) (p := p); have hb := of_e hF (cwd := cwd) (p := p); have hc := of_s (Z := Z) (cwd := cwd) (p := p); have hd := of_hL (Z := Z) (cwd := cwd) (p := p); have he := of_nz (Z := Z) (cwd := cwd) (p := p); simp_all
    ·try simp only [nm, ne_eq] at g135
     exfalso; have ha := of_fd (Z := Z) (cwd := cwd) (p := p); have hb := of_e hF (cwd := cwd) (p := p); have hc := of_s (Z := Z) (cwd := cwd) (p := p); have hd := of_hL (Z := Z) (cwd := cwd) (p := p); have he := of_nz (Z := Z) (cwd := cwd) (p := p); simp_all

end Go.Proofs.YtpelmhoocepenaaDoor.K
