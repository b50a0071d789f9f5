/- Reading expressions, as the document does: its parser's small methods. -/
import Derived.Test.YtmbbhgglllfelaaGreatDoorCh
import Derived.Test.YtmbbhgglllfelaaGreatDoorKitQ
set_option linter.unusedVariables false
set_option linter.unusedSimpArgs false
set_option autoImplicit false
set_option maxRecDepth 20000
namespace Go.Proofs.YtmbbhgglllfelaaGreatDoor.K
open Go Go.Proofs Go.RowKit

theorem Sl.domAt {α : Type} {c : Enc α} {w : World} {D : Nat → Prop} {A : Option Addr} {xs : List α} {i : Nat} {x : α} {b o : Nat} (h : Sl c w D A xs) (hx : xs[i]? = some x) (hA : A = some ⟨b, o, none⟩) : D b := by
  rcases h with h | ⟨b', o', h1, h2, h3, h4⟩
  · subst h; simp at hx
  · rw [h1] at hA; simp only [Option.some.injEq, Addr.mk.injEq] at hA; rw [← hA.1]; exact h3
theorem dropq_at {α : Type} {TT : List α} {i : Nat} {x : α} {tl : List α} (h : TT.drop i = x :: tl) : TT[i]? = some x := by
  have := List.getElem?_drop (xs := TT) (i := i) (j := 0); rw [h] at this; simpa using this.symm
theorem dropq_at1 {α : Type} {TT : List α} {i : Nat} {x y : α} {tl : List α} (h : TT.drop i = x :: y :: tl) : TT[i + 1]? = some y := by
  have := List.getElem?_drop (xs := TT) (i := i) (j := 1); rw [h] at this; simpa using this.symm
theorem dropq_lt {α : Type} {TT : List α} {i : Nat} {x : α} {tl : List α} (h : TT.drop i = x :: tl) : i + (tl.length + 1) = TT.length := by
  have h1 := congrArg List.length h; rw [List.length_drop, List.length_cons] at h1; omega
theorem dropq_s {α : Type} {TT : List α} {i : Nat} {x : α} {tl : List α} (h : TT.drop i = x :: tl) : TT.drop (i + 1) = tl := by
  rw [← List.drop_drop, h]; rfl
theorem dropq_s2 {α : Type} {TT : List α} {i : Nat} {x y : α} {tl : List α} (h : TT.drop i = x :: y :: tl) : TT.drop (i + 2) = tl := by
  rw [← List.drop_drop, h]; rfl
theorem wrap_1 {i : Nat} (h : i ≤ 9223372036854775000) : IntKind.i64.wrap ((i : Int) + 1) = ((i + 1 : Nat) : Int) := by rw [wrap64_id (by omega) (by omega)]; omega
theorem wrap_2 {i : Nat} (h : i ≤ 9223372036854775000) : IntKind.i64.wrap ((i : Int) + 2) = ((i + 2 : Nat) : Int) := by rw [wrap64_id (by omega) (by omega)]; omega
theorem wrap_m {d : Nat} (h : d ≤ 9223372036854775000) : IntKind.i64.wrap (((d + 1 : Nat) : Int) - 1) = (d : Int) := by rw [wrap64_id (by omega) (by omega)]; omega
/-- The document's parser in memory: all tokens, those that are left, what was put out. -/
def QdAt (D Dt : Nat → Prop) (w : World) (b : Nat) (At : Option Addr) (capt : Nat) (TT ts : List Tk) (out : List Nd) (deep e pl : Int) : Prop :=
  ∃ (i : Nat) (Ao : Option Addr) (capo : Nat), Blk w b [.slice At TT.length capt, .int .i64 (i : Int), .slice Ao out.length capo, .int .i64 deep, .int .i64 e, .int .i64 pl] 57 ∧ Sl tkE w Dt At TT ∧ TT.drop i = ts ∧ Own ndE 38 w D Ao capo out
/-- What its methods are called with. -/
structure QPre (D Dt : Nat → Prop) (w : World) (b : Nat) (At : Option Addr) (capt : Nat) (TT ts : List Tk) (out : List Nd) (d : Nat) (pl : Int) : Prop where
  fr : ∀ k, w.heap.size ≤ k → D k
  nb : ¬ D b
  dt : ∀ k, Dt k → ¬ D k ∧ k ≠ b
  st : QdAt D Dt w b At capt TT ts out d 0 pl
  wf : WfT ts
  hd : d ≤ 64
  len : out.length + ts.length ≤ 1000000000
  tl : TT.length ≤ 1000000000
/-- How they end. -/
def QPost (D Dt : Nat → Prop) (b : Nat) (At : Option Addr) (capt : Nat) (TT ts : List Tk) (out : List Nd) (deep pl : Int) (w : World) (v : Value) (w' : World) : PR → Prop
  | .good k ts' out' => v = .int .i64 k ∧ QdAt D Dt w' b At capt TT ts' out' deep 0 pl ∧ WfT ts' ∧ (ts'.length ≤ ts.length ∧ out'.length + ts'.length ≤ out.length + ts.length) ∧ ChgP (fun k => D k ∨ k = b) w w'
  | .bad e a => e ≠ 0 ∧ (∃ k, v = .int .i64 k) ∧ (∃ ts' out' dp, ts' ≠ [] ∧ out'.length + ts'.length ≤ out.length + ts.length ∧ QdAt D Dt w' b At capt TT ts' out' dp e a) ∧ ChgP (fun k => D k ∨ k = b) w w'
theorem QPost.lift {D D1 Dt : Nat → Prop} {b : Nat} {At : Option Addr} {capt : Nat} {TT ts : List Tk} {out : List Nd} {d pl : Int} {w w2 w' : World} {v : Value} {r : PR} (h : QPost D1 Dt b At capt TT ts out d pl w2 v w' r) (hsub : ∀ k, D1 k → D k) (hc : ChgP (fun k => D k ∨ k = b) w w2) : QPost D Dt b At capt TT ts out d pl w v w' r := by
  cases r with
  | good k ts' out' =>
    obtain ⟨h1, ⟨i, Ao, capo, q1, q2, q3, q4⟩, h3, h4, h5⟩ := h
    exact ⟨h1, ⟨i, Ao, capo, q1, q2, q3, q4.mono (fun k _ hk => hsub k hk)⟩, h3, h4, hc.trans h5 (fun k hk => .inl (hk.imp (hsub k) id))⟩
  | bad e a =>
    obtain ⟨h1, h2, ⟨ts', out', dp, h3, h4, ⟨i, Ao, capo, q1, q2, q3, q4⟩⟩, h5⟩ := h
    exact ⟨h1, h2, ⟨ts', out', dp, h3, h4, ⟨i, Ao, capo, q1, q2, q3, q4.mono (fun k _ hk => hsub k hk)⟩⟩, hc.trans h5 (fun k hk => .inl (hk.imp (hsub k) id))⟩

theorem qfail_spec {Dt : Nat → Prop} {w : World} {b : Nat} {TT : List Tk} {x : Tk} {tl : List Tk} {At Ao : Option Addr} {i no capt capo : Nat} {deep pl e : Int} (e2 : Int) (hb : Blk w b [.slice At TT.length capt, .int .i64 (i : Int), .slice Ao no capo, .int .i64 deep, .int .i64 e, .int .i64 pl] 57) (hs : Sl tkE w Dt At TT) (hd : TT.drop i = x :: tl) (hDtb : ¬ Dt b) (hDtn : ∀ k, w.heap.size ≤ k → ¬ Dt k) :
    CallR Tryz.prog 19 #[.pointer (some ⟨b, 0, none⟩), .int .i64 e2] w fun v w' => v = .int .i64 0 ∧ Blk w' b [.slice At TT.length capt, .int .i64 (i : Int), .slice Ao no capo, .int .i64 deep, .int .i64 (if e = 0 then e2 else e), .int .i64 (if e = 0 then x.2 else pl)] 57 ∧ Chg [b] w w' := by
 refine callR_of_wp (args := [_, _]) Tryz.func19 rfl (Nat.le_of_ble_eq_true rfl) ?_
 have HC : Chg [b] w w := .refl _
 refine sr rfl <| aI rfl <| en <| x_seq <| sr rfl <| mP rfl <| nc rfl <| fa T.fld57_4 rfl <| lI T.one3 rfl (hb.cell rfl) <| Wp rfl <| st_eql rfl rfl <| en <| x_cond rfl (fun h0 => ?_) (fun h0 => ?_)
 ·try simp only [nm, ne_eq] at h0
  refine sr rfl <| mP rfl <| mI rfl <| nc rfl <| fa T.fld57_4 rfl <| Wp rfl <| st_store (v := .int _ _) T.size3 rfl rfl rfl hb rfl (Nat.le_of_ble_eq_true rfl) (by simp [Value.oneCell', S]) rfl ?_
  intro w1 c2 hb3; simp only [setVs, setV] at hb3
  clear hb
  replace HC := HC.trans c2 (by intro x hx; simp only [List.mem_singleton] at hx; subst hx; exact .inl (by simp))
  replace hs := hs.tr c2 (by intro k hx hD; obtain rfl := List.mem_singleton.1 hx; first | exact hDtb hD | exact absurd hD (hDtn _ ge_b))
  refine en ?_
  obtain ⟨lb8, _, vs7, hA4, hR6, hC5⟩ := hs.at (i := i) (x := x) (dropq_at hd)
  obtain rfl : vs7 = tokC x.1 x.2 := hR6
  have hDl_lb8 := Sl.domAt hs (dropq_at hd) hA4
  refine x_draw [(0, 0), (1, 0), (2, 0), (3, 0), (4, 0), (5, 0), (6, 0), (7, 0), (8, 0), (9, 0), (10, 0), (11, 0), (12, 0), (13, 0), (14, 2)] T.mixed rfl rfl rfl (fun W => W.heap[b]? = w1.heap[b]? ∧ W.heap[lb8]? = w1.heap[lb8]? ∧ True) ⟨rfl, rfl, trivial⟩ ?_
  have o11 := hb3
  have c10 := Chg.drew w1
  generalize World.drew w1 = w9 at c10 ⊢
  have ht_lb8 : lb8 < w9.heap.size ∧ w9.heap[lb8]? = w1.heap[lb8]? := ⟨Nat.lt_of_lt_of_le hC5.lt c10.size, c10.block lb8 hC5.lt (by simp)⟩
  replace HC := HC.then c10
  replace hs := hs.tr0 c10
  replace hb3 := hb3.tr0 c10
  refine sq_q rfl (fun W hT => r_move (v := .pointer _) rfl) <| sq_q rfl (fun W hT => r_move (v := .pointer _) rfl) <| sq_q rfl (fun W hT => r_nilCheck rfl) <| sq_q rfl (fun W hT => r_fieldAddr T.fld57_0 rfl) <| sq_q rfl (fun W hT => r_load1 (v := .slice _ _ _) T.one52 rfl (Blk.cell (show Blk W b _ _ from hT.1.trans o11) rfl)) <| sq_q rfl (fun W hT => r_move (v := .pointer _) rfl) <| sq_q rfl (fun W hT => r_nilCheck rfl) <| sq_q rfl (fun W hT => r_fieldAddr T.fld57_1 rfl) <| sq_q rfl (fun W hT => r_load1 (v := .int _ _) T.one3 rfl (Blk.cell (show Blk W b _ _ from hT.1.trans o11) rfl)) <| sq_q rfl (fun W hT => r_indexAddr T.u52 T.size60 (congrArg (fun z => Value.slice z _ _) hA4) rfl (by omega) (by (have h9 := dropq_lt hd; omega))) <| sq_q rfl (fun W hT => r_fieldAddr T.fld60_3 rfl) <| sq_q rfl (fun W hT => r_load1 (v := .int _ _) T.one3 rfl (Cells.at (j := 3) (Cells.tr hC5 hT.2.1) rfl)) <| sq_q rfl (fun W hT => r_nilCheck rfl) <| sq_q rfl (fun W hT => r_fieldAddr T.fld57_5 rfl) <| sq_store2 rfl T.size3 (v := .int _ _) rfl rfl rfl hb3 rfl (Nat.le_of_ble_eq_true rfl) (by simp [Value.oneCell', S]) rfl ?_
  intro w12 c13 hb14; simp only [setVs, setV] at hb14
  clear hb3
  replace HC := HC.trans c13 (by intro x hx; simp only [List.mem_singleton] at hx; subst hx; exact .inl (by simp))
  replace hs := hs.tr c13 (by intro k hx hD; obtain rfl := List.mem_singleton.1 hx; first | exact hDtb hD | exact absurd hD (hDtn _ ge_b))
  replace ht_lb8 := And.intro (Nat.lt_of_lt_of_le ht_lb8.1 c13.size) ((c13.block lb8 ht_lb8.1 (by intro hx; first | exact hDtb ((List.mem_singleton.1 hx) ▸ hDl_lb8) | (have h9 := List.mem_singleton.1 hx; revert h9; assumption))).trans ht_lb8.2)
  clear o11
  refine sq_nil <| then_n <| sr rfl <| aI rfl <| en <| x_ret <| ret_tmp (v := .int _ _) rfl rfl <| ⟨rfl, ?_, HC⟩
  rw [if_pos h0, if_pos h0]
  exact hb14
 ·try simp only [nm, ne_eq] at h0
  refine x_skip <| then_n <| sr rfl <| aI rfl <| en <| x_ret <| ret_tmp (v := .int _ _) rfl rfl <| ⟨rfl, ?_, HC⟩
  rw [if_neg h0, if_neg h0]
  exact hb

theorem qop_spec {Dt : Nat → Prop} {w : World} {b : Nat} {TT : List Tk} {x : Tk} {tl : List Tk} {At Ao : Option Addr} {i no capt capo : Nat} {deep pl e : Int} (s : Bytes) (hb : Blk w b [.slice At TT.length capt, .int .i64 (i : Int), .slice Ao no capo, .int .i64 deep, .int .i64 e, .int .i64 pl] 57) (hs : Sl tkE w Dt At TT) (hd : TT.drop i = x :: tl) (hDtb : ¬ Dt b) (hDtn : ∀ k, w.heap.size ≤ k → ¬ Dt k) :
    CallR Tryz.prog 57 #[.pointer (some ⟨b, 0, none⟩), S s] w fun v w' => v = .bool (decide (e = 0 ∧ x.1.1 = 3 ∧ x.1.2.2 = s)) ∧ Chg [] w w' := by
 refine callR_of_wp (args := [_, _]) Tryz.func57 rfl (Nat.le_of_ble_eq_true rfl) ?_
 have HC : Chg [] w w := .refl _
 refine sr rfl <| aB rfl <| en <| x_seq ?_
 obtain ⟨lb5, _, vs4, hA1, hR3, hC2⟩ := hs.at (i := i) (x := x) (dropq_at hd)
 obtain rfl : vs4 = tokC x.1 x.2 := hR3
 have hDl_lb5 := Sl.domAt hs (dropq_at hd) hA1
 obtain ⟨lb10, _, vs9, hA6, hR8, hC7⟩ := hs.at (i := i) (x := x) (dropq_at hd)
 obtain rfl : vs9 = tokC x.1 x.2 := hR8
 have hDl_lb10 := Sl.domAt hs (dropq_at hd) hA6
 refine x_draw [(0, 0), (1, 0), (2, 0), (3, 0), (4, 0), (5, 0), (6, 0), (7, 0), (8, 0), (9, 0), (10, 0), (11, 0), (12, 0), (13, 0), (14, 0), (15, 0), (16, 0), (17, 0), (18, 0), (19, 0), (20, 0), (21, 0), (22, 0), (23, 0), (24, 0), (25, 0), (26, 0), (27, 0), (28, 0), (29, 0), (30, 0), (31, 0), (32, 0), (33, 0), (34, 0)] T.mixed rfl rfl rfl (fun W => W.heap[b]? = w.heap[b]? ∧ W.heap[lb5]? = w.heap[lb5]? ∧ W.heap[lb10]? = w.heap[lb10]? ∧ True) ⟨rfl, rfl, rfl, trivial⟩ ?_
 have o13 := hb
 have c12 := Chg.drew w
 generalize World.drew w = w11 at c12 ⊢
 have ht_lb5 : lb5 < w11.heap.size ∧ w11.heap[lb5]? = w.heap[lb5]? := ⟨Nat.lt_of_lt_of_le hC2.lt c12.size, c12.block lb5 hC2.lt (by simp)⟩
 have ht_lb10 : lb10 < w11.heap.size ∧ w11.heap[lb10]? = w.heap[lb10]? := ⟨Nat.lt_of_lt_of_le hC7.lt c12.size, c12.block lb10 hC7.lt (by simp)⟩
 replace HC := HC.then c12
 replace hb := hb.tr0 c12
 replace hs := hs.tr0 c12
 refine sq_q rfl (fun W hT => r_move (v := .pointer _) rfl) <| sq_q rfl (fun W hT => r_nilCheck rfl) <| sq_q rfl (fun W hT => r_fieldAddr T.fld57_4 rfl) <| sq_q rfl (fun W hT => r_load1 (v := .int _ _) T.one3 rfl (Blk.cell (show Blk W b _ _ from hT.1.trans o13) rfl)) <| sq_q rfl (fun W hT => r_eql rfl rfl) <| sq_q rfl (fun W hT => r_move (v := .bool _) rfl) <| sq_split (d := 10) rfl (fun g14 => ?_) (fun g14 => ?_)
 ·try simp only [nm, ne_eq] at g14
  refine sq_q rfl (fun W hT => r_move (v := .pointer _) rfl) <| sq_q rfl (fun W hT => r_nilCheck rfl) <| sq_q rfl (fun W hT => r_fieldAddr T.fld57_0 rfl) <| sq_q rfl (fun W hT => r_load1 (v := .slice _ _ _) T.one52 rfl (Blk.cell (show Blk W b _ _ from hT.1.trans o13) rfl)) <| sq_q rfl (fun W hT => r_move (v := .pointer _) rfl) <| sq_q rfl (fun W hT => r_nilCheck rfl) <| sq_q rfl (fun W hT => r_fieldAddr T.fld57_1 rfl) <| sq_q rfl (fun W hT => r_load1 (v := .int _ _) T.one3 rfl (Blk.cell (show Blk W b _ _ from hT.1.trans o13) rfl)) <| sq_q rfl (fun W hT => r_indexAddr T.u52 T.size60 (congrArg (fun z => Value.slice z _ _) hA1) rfl (by omega) (by (have h9 := dropq_lt hd; omega))) <| sq_q rfl (fun W hT => r_fieldAddr T.fld60_0 rfl) <| sq_q rfl (fun W hT => r_load1 (v := .int _ _) T.one3 rfl (Cells.at (j := 0) (Cells.tr hC2 hT.2.1) rfl)) <| sq_q rfl (fun W hT => r_eql rfl rfl) <| sq_q rfl (fun W hT => r_pick (b := true) (v := .bool _) rfl rfl) <| sq_q rfl (fun W hT => r_move (v := .bool _) rfl) <| sq_split (d := 24) rfl (fun g15 => ?_) (fun g15 => ?_)
  ·try simp only [nm, ne_eq] at g15
   refine sq_q rfl (fun W hT => r_move (v := .pointer _) rfl) <| sq_q rfl (fun W hT => r_nilCheck rfl) <| sq_q rfl (fun W hT => r_fieldAddr T.fld57_0 rfl) <| sq_q rfl (fun W hT => r_load1 (v := .slice _ _ _) T.one52 rfl (Blk.cell (show Blk W b _ _ from hT.1.trans o13) rfl)) <| sq_q rfl (fun W hT => r_move (v := .pointer _) rfl) <| sq_q rfl (fun W hT => r_nilCheck rfl) <| sq_q rfl (fun W hT => r_fieldAddr T.fld57_1 rfl) <| sq_q rfl (fun W hT => r_load1 (v := .int _ _) T.one3 rfl (Blk.cell (show Blk W b _ _ from hT.1.trans o13) rfl)) <| sq_q rfl (fun W hT => r_indexAddr T.u52 T.size60 (congrArg (fun z => Value.slice z _ _) hA6) rfl (by omega) (by (have h9 := dropq_lt hd; omega))) <| sq_q rfl (fun W hT => r_fieldAddr T.fld60_2 rfl) <| sq_q rfl (fun W hT => r_load1 (v := S _) T.one9 rfl (Cells.at (j := 2) (Cells.tr hC7 hT.2.2.1) rfl)) <| sq_q rfl (fun W hT => r_move (v := S _) rfl) <| sq_q rfl (fun W hT => r_seql rfl rfl) <| sq_q rfl (fun W hT => r_pick (b := true) (v := .bool _) rfl rfl) <| sq_q rfl (fun W hT => r_assign (v := .bool _) rfl) ?_
   clear o13
   refine sq_nil <| then_n <| x_ret <| ret_tmp (v := .bool _) rfl rfl <| ⟨congrArg Value.bool ?_, HC⟩
   simp_all
  ·try simp only [nm, ne_eq] at g15
   refine sq_no rfl rfl <| sq_no rfl rfl <| sq_no rfl rfl <| sq_no rfl rfl <| sq_no rfl rfl <| sq_no rfl rfl <| sq_no rfl rfl <| sq_no rfl rfl <| sq_no rfl rfl <| sq_no rfl rfl <| sq_no rfl rfl <| sq_no rfl rfl <| sq_no rfl rfl <| sq_q rfl (fun W hT => r_pick (b := false) (v := .bool _) rfl rfl) <| sq_q rfl (fun W hT => r_assign (v := .bool _) rfl) ?_
   clear o13
   refine sq_nil <| then_n <| x_ret <| ret_tmp (v := .bool _) rfl rfl <| ⟨congrArg Value.bool ?_, HC⟩
   simp_all
 ·try simp only [nm, ne_eq] at g14
  refine sq_no rfl rfl <| sq_no rfl rfl <| sq_no rfl rfl <| sq_no rfl rfl <| sq_no rfl rfl <| sq_no rfl rfl <| sq_no rfl rfl <| sq_no rfl rfl <| sq_no rfl rfl <| sq_no rfl rfl <| sq_no rfl rfl <| sq_no rfl rfl <| sq_q rfl (fun W hT => r_pick (b := false) (v := .bool _) rfl rfl) <| sq_q rfl (fun W hT => r_move (v := .bool _) rfl) <| sq_no rfl rfl <| sq_no rfl rfl <| sq_no rfl rfl <| sq_no rfl rfl <| sq_no rfl rfl <| sq_no rfl rfl <| sq_no rfl rfl <| sq_no rfl rfl <| sq_no rfl rfl <| sq_no rfl rfl <| sq_no rfl rfl <| sq_no rfl rfl <| sq_no rfl rfl <| sq_q rfl (fun W hT => r_pick (b := false) (v := .bool _) rfl rfl) <| sq_q rfl (fun W hT => r_assign (v := .bool _) rfl) ?_
  clear o13
  refine sq_nil <| then_n <| x_ret <| ret_tmp (v := .bool _) rfl rfl <| ⟨congrArg Value.bool ?_, HC⟩
  simp_all

theorem qput_spec {D : Nat → Prop} {w : World} {b : Nat} {out : List Nd} {At Ao : Option Addr} {nt capt capo : Nat} {i deep pl e : Int} {x : Nd} {vs : List Value} (hfr0 : ∀ k, w.heap.size ≤ k → D k) (hDb : ¬ D b) (hb : Blk w b [.slice At nt capt, .int .i64 i, .slice Ao out.length capo, .int .i64 deep, .int .i64 e, .int .i64 pl] 57) (ho : Own ndE 38 w D Ao capo out) (hx : ndE.R w (fun k => D k ∧ k ∉ ob Ao) x vs) (hlen : out.length ≤ 1000000000) :
    CallR Tryz.prog 40 #[.pointer (some ⟨b, 0, none⟩), .agg ⟨vs⟩] w fun v w' => v = .int .i64 (out.length : Int) ∧ (∃ Ao' capo', Blk w' b [.slice At nt capt, .int .i64 i, .slice Ao' (out ++ [x]).length capo', .int .i64 deep, .int .i64 e, .int .i64 pl] 57 ∧ Own ndE 38 w' D Ao' capo' (out ++ [x])) ∧ Chg (b :: ob Ao) w w' := by
 obtain ⟨K, cx, rfl, hk1, hk2, hk3⟩ := hx
 replace hx : ndE.R w (fun k => D k ∧ k ∉ ob Ao) x _ := ⟨K, cx, rfl, hk1, hk2, hk3⟩
 refine callR_of_wp (args := [_, _]) Tryz.func40 rfl (Nat.le_of_ble_eq_true rfl) ?_
 have HC : Chg (b :: ob Ao) w w := .refl _
 refine sr rfl <| Wp rfl <| st_box (v := .agg ⟨[S _, .int _ _, S _, .slice _ _ _]⟩) (vs := [_, _, _, _]) rfl rfl ?_
 intro b1 w2 e3 c4 hb5
 have ge_b1 : w.heap.size ≤ b1 := by rw [e3]; exact HC.size
 have ne_b_b1 : b ≠ b1 := by rw [e3]; exact hb.ne_size
 have na_b1 : b1 ∉ ob Ao := ho.fresh (by rw [e3]; exact Nat.le_refl _)
 replace HC := HC.then c4
 replace hb := hb.tr0 c4
 replace ho := ho.tr0 c4
 replace hx := ndE_tr hx c4
 clear e3
 refine aI rfl <| en <| x_seq <| x_draw [(0, 0), (1, 0), (2, 0), (3, 0), (4, 0), (5, 0), (6, 1), (7, 1), (8, 0), (9, 0), (10, 2)] T.mixed rfl rfl rfl (fun W => W.heap[b]? = w2.heap[b]? ∧ W.heap[b1]? = w2.heap[b1]? ∧ True) ⟨rfl, rfl, trivial⟩ ?_
 have o8 := hb
 have o9 := hb5
 have c7 := Chg.drew w2
 generalize World.drew w2 = w6 at c7 ⊢
 replace HC := HC.then c7
 replace hb := hb.tr0 c7
 replace ho := ho.tr0 c7
 replace hx := ndE_tr hx c7
 replace hb5 := hb5.tr0 c7
 refine sq_q rfl (fun W hT => r_move (v := .pointer _) rfl) <| sq_q rfl (fun W hT => r_move (v := .pointer _) rfl) <| sq_q rfl (fun W hT => r_nilCheck rfl) <| sq_q rfl (fun W hT => r_fieldAddr T.fld57_2 rfl) <| sq_q rfl (fun W hT => r_load1 (v := .slice _ _ _) T.one32 rfl (Blk.cell (show Blk W b _ _ from hT.1.trans o8) rfl)) <| sq_q rfl (fun W hT => r_loadA (vs := [_, _, _, _]) T.agg38 rfl (Blk.cells (n := 4) (vs := [_, _, _, _]) (show Blk W b1 _ _ from hT.2.1.trans o9) rfl) rfl) <| sq_lit1 (ps := [(0, .tmp 10)]) (vs := [S _, .int _ _, S _, .slice _ _ _]) rfl T.lit32 (by decide) rfl (by simp only [List.forall_mem_cons, List.not_mem_nil, false_imp_iff, implies_true, and_true]; exact rfl) rfl ?_
 intro b10 w11 e12 c13 hb14
 have ge_b10 : w.heap.size ≤ b10 := by rw [e12]; exact HC.size
 have ne_b_b10 : b ≠ b10 := by rw [e12]; exact hb.ne_size
 have ne_b1_b10 : b1 ≠ b10 := by rw [e12]; exact hb5.ne_size
 have na_b10 : b10 ∉ ob Ao := ho.fresh (by rw [e12]; exact Nat.le_refl _)
 replace HC := HC.then c13
 replace hb := hb.tr0 c13
 replace ho := ho.tr0 c13
 replace hx := ndE_tr hx c13
 replace hb5 := hb5.tr0 c13
 clear e12
 refine ext_T (b := b10) ⟨(Eq.trans hb o8.symm), (Eq.trans hb5 o9.symm), trivial⟩ ?_
 have o15 := hb14
 have hszA := HC.size
 refine sq_append1 (c := ndE) (D2 := fun k => D k ∧ k ∉ ob Ao) (xs := out) (ys := [x]) rfl T.slice32 rfl rfl ho rfl rfl (one_elem hx (hb14.cells (n := 4) rfl)) (fun k _ h => h) (fun k hk => hfr0 k (by omega)) (by simp only [List.length_cons, List.length_nil]; omega) (by simp only [List.length_cons, List.length_nil]; omega) ?_
 intro Ao2 capo2 w16 ho2 c17 hg2
 replace hb := hb.tr c17 (fun hx => hDb (ho.inD _ hx))
 replace hb5 := hb5.tr c17 na_b1
 replace hb14 := hb14.tr c17 na_b10
 replace HC := HC.trans c17 (by intro k hk; exact .inl (by simp [hk]))
 refine ⟨_, fun _ h => h, ⟨(Eq.trans hb14 o15.symm), ⟨(Eq.trans hb o8.symm), (Eq.trans hb5 o9.symm), trivial⟩⟩, ?_⟩
 refine sq_q rfl (fun W hT => r_nilCheck rfl) <| sq_q rfl (fun W hT => r_fieldAddr T.fld57_2 rfl) <| sq_store2 rfl T.size32 (v := .slice _ _ _) rfl rfl rfl hb rfl (Nat.le_of_ble_eq_true rfl) (by simp [Value.oneCell', S]) rfl ?_
 intro w18 c19 hb20; simp only [setVs, setV] at hb20
 clear hb
 replace HC := HC.trans c19 (by intro x hx; simp only [List.mem_singleton] at hx; subst hx; exact .inl (by simp))
 replace ho2 := ho2.tN c19 hDb
 replace hb5 := hb5.tr1 c19 (Ne.symm ne_b_b1)
 replace hb14 := hb14.tr1 c19 (Ne.symm ne_b_b10)
 clear o8
 clear o9
 clear o15
 refine sq_nil <| then_n <| x_seq ?_
 have hsub : IntKind.i64.wrap (((out.length + [x].length : Nat) : Int) - 1) = (out.length : Int) := by have h1 : [x].length = 1 := rfl; rw [wrap64_id (by omega) (by omega)]; omega
 refine x_region rfl <| mP rfl <| nc rfl <| fa T.fld57_2 rfl <| lL T.one32 rfl (hb20.cell rfl) <| Wp rfl <| st_len (ct := #[32]) (by rw [show ((#[32] : Array TypeId)[0]?).bind Tryz.prog.underlying = some (.slice 38) from T.u32]; rfl) rfl <| Wp rfl <| st_subk rfl rfl (by exact hsub) <| aI rfl <| en <| x_ret <| ret_tmp (v := .int _ _) rfl rfl ?_
 exact ⟨rfl, ⟨Ao2, capo2, by rw [List.length_append]; exact hb20, ho2⟩, HC⟩

theorem qenter_spec {Dt : Nat → Prop} {w : World} {b : Nat} {TT : List Tk} {x : Tk} {tl : List Tk} {At Ao : Option Addr} {i no capt capo d : Nat} {pl : Int} (hb : Blk w b [.slice At TT.length capt, .int .i64 (i : Int), .slice Ao no capo, .int .i64 (d : Int), .int .i64 0, .int .i64 pl] 57) (hs : Sl tkE w Dt At TT) (hd : TT.drop i = x :: tl) (hDtb : ¬ Dt b) (hDtn : ∀ k, w.heap.size ≤ k → ¬ Dt k) (hd64 : d ≤ 64) :
    CallR Tryz.prog 39 #[.pointer (some ⟨b, 0, none⟩)] w fun v w' => ((64 < d + 1 ∧ v = .bool false ∧ Blk w' b [.slice At TT.length capt, .int .i64 (i : Int), .slice Ao no capo, .int .i64 ((d + 1 : Nat) : Int), .int .i64 104, .int .i64 x.2] 57) ∨ (d + 1 ≤ 64 ∧ v = .bool true ∧ Blk w' b [.slice At TT.length capt, .int .i64 (i : Int), .slice Ao no capo, .int .i64 ((d + 1 : Nat) : Int), .int .i64 0, .int .i64 pl] 57)) ∧ Chg [b] w w' := by
 refine callR_of_wp (args := [_]) Tryz.func39 rfl (Nat.le_of_ble_eq_true rfl) ?_
 have HC : Chg [b] w w := .refl _
 refine sr rfl <| aB rfl <| en <| sr rfl <| mP rfl <| nc rfl <| fa T.fld57_3 rfl <| lI T.one3 rfl (hb.cell rfl) <| Wp rfl <| st_addk rfl rfl (by exact wrap_1 (by omega)) <| nc rfl <| fa T.fld57_3 rfl <| Wp rfl <| st_store (v := .int _ _) T.size3 rfl rfl rfl hb rfl (Nat.le_of_ble_eq_true rfl) (by simp [Value.oneCell', S]) rfl ?_
 intro w1 c2 hb3; simp only [setVs, setV] at hb3
 clear hb
 replace HC := HC.trans c2 (by intro x hx; simp only [List.mem_singleton] at hx; subst hx; exact .inl (by simp))
 replace hs := hs.tr c2 (by intro k hx hD; obtain rfl := List.mem_singleton.1 hx; first | exact hDtb hD | exact absurd hD (hDtn _ ge_b))
 refine en <| x_seq <| sr rfl <| mP rfl <| nc rfl <| fa T.fld57_3 rfl <| lI T.one3 rfl (hb3.cell rfl) <| Wp rfl <| st_gtr rfl rfl <| en <| x_cond rfl (fun h0 => ?_) (fun h0 => ?_)
 ·try simp only [nm, ne_eq] at h0
  refine x_region rfl <| mP rfl <| Wp rfl <| st_call (ags := [_, _]) rfl rfl T.ent19 rfl (qfail_spec 104 hb3 hs hd hDtb (fun k hk => hDtn k (Nat.le_trans HC.size hk))) ?_
  rintro _ w4 ⟨rfl, hb9, c5⟩
  rw [if_pos rfl, if_pos rfl] at hb9
  replace HC := HC.trans c5 (by intro x hx; simp only [List.mem_singleton] at hx; subst hx; exact .inl (by simp))
  replace hs := hs.tr c5 (by intro k hx hD; obtain rfl := List.mem_singleton.1 hx; first | exact hDtb hD | exact absurd hD (hDtn _ ge_b))
  refine en <| sr rfl <| mP rfl <| nc rfl <| fa T.fld57_4 rfl <| lI T.one3 rfl (hb9.cell rfl) <| Wp rfl <| st_eql rfl rfl <| aB rfl <| en <| x_ret <| ret_tmp (v := .bool _) rfl rfl <| ⟨.inl ⟨by omega, rfl, hb9⟩, HC⟩
 ·try simp only [nm, ne_eq] at h0
  refine x_skip <| then_n <| sr rfl <| mP rfl <| nc rfl <| fa T.fld57_4 rfl <| lI T.one3 rfl (hb3.cell rfl) <| Wp rfl <| st_eql rfl rfl <| aB rfl <| en <| x_ret <| ret_tmp (v := .bool _) rfl rfl <| ⟨.inr ⟨by omega, rfl, hb3⟩, HC⟩

end Go.Proofs.YtmbbhgglllfelaaGreatDoor.K
