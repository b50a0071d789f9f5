/- The laws AtreeBack and AtreeFit. -/
import Derived.Test.YtcgcbpknbjafcaaDoorCj
import Derived.Test.YtcgcbpknbjafcaaDoorTreeR
set_option linter.unusedVariables false
set_option linter.unusedSimpArgs false
set_option autoImplicit false
set_option maxRecDepth 20000
namespace Go.Proofs.YtcgcbpknbjafcaaDoor.K
open Go Go.Proofs Go.RowKit

theorem lightN_le {N : Nat} : ∀ l : List Nd, (∀ x, x ∈ l → x.name.length ≤ N) → lightN l ≤ l.length * (N + 30)
  | [], _ => Nat.zero_le _
  | x :: l, h => by
    have h1 := lightN_le l (fun y hy => h y (by simp [hy]))
    have h2 := h x (by simp)
    rw [lightN, List.length_cons, Nat.add_mul]; omega
theorem light_few {l : List Nd} (hK : ∀ x, x ∈ l → x.kids.length ≤ 140737488355328 ∧ x.name.length ≤ 140737488355328) (h : l.length ≤ 1100) : lightN l ≤ 4611686018427387904 := by
  have h1 := lightN_le l (N := 140737488355328) (fun x hx => (hK x hx).2)
  have h2 := Nat.mul_le_mul_right (140737488355328 + 30) h
  omega
theorem few_len {l : List Nd} (h : fewN l = true) : l.length ≤ 1100 := by unfold fewN at h; simp only [Bool.and_eq_true, decide_eq_true_eq] at h; exact h.1
/-- A fit row's text is read as it, or is too deep. -/
theorem back_law {l : List Nd} (hn : ∀ x, x ∈ l → x.num ≤ 9223372036854775807 ∧ x.name.length ≤ 140737488355328) (hf : fitV l = true) : (printV l).length ≤ lightN l ∧ (((parseV (printV l) (toksF ((printV l).length + 1) (printV l) 0)).2.2 = 0 ∧ (parseV (printV l) (toksF ((printV l).length + 1) (printV l) 0)).1 = l) ∨ (parseV (printV l) (toksF ((printV l).length + 1) (printV l) 0)).2.2 = 104) := by
  obtain ⟨t, h1, h2, h3⟩ := fitV_tree hn hf
  have hp : printV l = str t := by rw [h2]; exact printV_tree h1
  rw [hp]
  refine ⟨by rw [h2]; exact str_len t 0 h1, ?_⟩
  rcases parse_str h1 h3 rfl with e | ⟨a, e⟩
  · rw [e]; exact .inl ⟨rfl, h2.symm⟩
  · rw [e]; exact .inr rfl

theorem AtreeBack_spec {l : List Nd} {Al : Option Addr} {capl : Nat} {D : Nat → Prop} {w : World} (hl : Sl ndE w D Al l) (hK : ∀ x, x ∈ l → x.kids.length ≤ 140737488355328 ∧ x.name.length ≤ 140737488355328) (hlen : l.length ≤ 140737488355328) (hnum : ∀ x, x ∈ l → x.num ≤ 9223372036854775807) (ht : Tab w) : CallR Tryd.prog 8 #[.slice Al l.length capl] w fun v w' => v = .bool true ∧ Chg [] w w' := by
 refine callR_of_wp (args := [_]) Tryd.func8 rfl (Nat.le_of_ble_eq_true rfl) ?_
 have HC : Chg [] w w := .refl _
 have ht1 := ht.lt
 refine x_seq ?_
 refine x_region rfl ?_
 refine w_plain rfl (st_assign (v := .bool _) rfl ?_)
 refine wops_nil ?_
 refine then_n ?_
 refine x_seq ?_
 refine x_seq ?_
 refine x_region rfl ?_
 refine w_plain rfl (st_move (v := .slice _ _ _) rfl ?_)
 refine w_plain rfl (st_call (ags := [_]) rfl rfl T.ent19 rfl (few_spec hl hK hlen) ?_)
 rintro _ w1 ⟨rfl, c2⟩
 replace HC := HC.then c2
 replace hl := hl.tr0 c2
 replace ht := ht.tr0 c2
 refine w_plain rfl (st_not rfl ?_)
 refine w_plain rfl (st_move (v := .bool _) rfl ?_)
 refine w_split (d := 9) rfl (fun g3 => ?_) (fun g3 => ?_)
 ·skip
  try simp only [nm, ne_eq] at g3
  refine w_no 3 9 false ?_
  refine w_no 3 9 false ?_
  refine w_no 3 9 false ?_
  refine w_plain rfl (st_pick (b := true) (v := .bool _) rfl rfl ?_)
  refine w_plain rfl (st_move (v := .bool _) rfl ?_)
  refine w_no 8 14 false ?_
  refine w_no 8 14 false ?_
  refine w_no 8 14 false ?_
  refine w_plain rfl (st_pick (b := true) (v := .bool _) rfl rfl ?_)
  refine wops_nil ?_
  refine then_n ?_
  refine x_cond (t := true) rfl (fun h0 => ?_) (fun h0 => ?_)
  rotate_left
  · exact absurd h0 (by decide)
  refine x_seq ?_
  refine x_region rfl ?_
  refine w_plain rfl (st_call (ags := []) rfl rfl T.ent20 rfl (awake3_spec _ ht) ?_)
  rintro _ w4 ⟨rfl, c5⟩
  replace HC := HC.then c5
  replace hl := hl.tr0 c5
  replace ht := ht.tr0 c5
  refine w_plain rfl (st_assign (v := .bool _) rfl ?_)
  refine wops_nil ?_
  refine then_n ?_
  refine x_ret ?_
  refine then_r ?_
  refine ret_tmp (v := .bool _) rfl rfl ?_
  exact ⟨rfl, HC⟩
 ·skip
  try simp only [nm, ne_eq] at g3
  refine w_yes 3 9 false (st_move (v := .slice _ _ _) rfl ?_)
  refine w_yes 3 9 false (st_call (ags := [_]) rfl rfl T.ent24 rfl (RFit_spec hl hK hlen) ?_)
  rintro _ w6 ⟨rfl, c7⟩
  replace HC := HC.then c7
  replace hl := hl.tr0 c7
  replace ht := ht.tr0 c7
  refine w_yes 3 9 false (st_not rfl ?_)
  refine w_plain rfl (st_pick (b := false) (v := .bool _) rfl rfl ?_)
  refine w_plain rfl (st_move (v := .bool _) rfl ?_)
  refine w_split (d := 14) rfl (fun g8 => ?_) (fun g8 => ?_)
  ·skip
   try simp only [nm, ne_eq] at g8
   refine w_no 8 14 false ?_
   refine w_no 8 14 false ?_
   refine w_no 8 14 false ?_
   refine w_plain rfl (st_pick (b := true) (v := .bool _) rfl rfl ?_)
   refine wops_nil ?_
   refine then_n ?_
   refine x_cond (t := true) rfl (fun h0 => ?_) (fun h0 => ?_)
   rotate_left
   · exact absurd h0 (by decide)
   refine x_seq ?_
   refine x_region rfl ?_
   refine w_plain rfl (st_call (ags := []) rfl rfl T.ent20 rfl (awake3_spec _ ht) ?_)
   rintro _ w9 ⟨rfl, c10⟩
   replace HC := HC.then c10
   replace hl := hl.tr0 c10
   replace ht := ht.tr0 c10
   refine w_plain rfl (st_assign (v := .bool _) rfl ?_)
   refine wops_nil ?_
   refine then_n ?_
   refine x_ret ?_
   refine then_r ?_
   refine ret_tmp (v := .bool _) rfl rfl ?_
   exact ⟨rfl, HC⟩
  ·skip
   try simp only [nm, ne_eq] at g8
   refine w_yes 8 14 false (st_move (v := .slice _ _ _) rfl ?_)
   refine w_yes 8 14 false (st_call (ags := [_]) rfl rfl T.ent25 rfl (light_spec hl (light_few hK (few_len (by assumption))) hlen) ?_)
   rintro _ w11 ⟨rfl, c12⟩
   replace HC := HC.then c12
   replace hl := hl.tr0 c12
   replace ht := ht.tr0 c12
   refine w_yes 8 14 false (st_not rfl ?_)
   refine w_plain rfl (st_pick (b := false) (v := .bool _) rfl rfl ?_)
   refine wops_nil ?_
   refine then_n ?_
   refine x_cond rfl (fun h0 => ?_) (fun h0 => ?_)
   ·skip
    try simp only [nm, ne_eq] at h0
    refine x_seq ?_
    refine x_region rfl ?_
    refine w_plain rfl (st_call (ags := []) rfl rfl T.ent20 rfl (awake3_spec _ ht) ?_)
    rintro _ w13 ⟨rfl, c14⟩
    replace HC := HC.then c14
    replace hl := hl.tr0 c14
    replace ht := ht.tr0 c14
    refine w_plain rfl (st_assign (v := .bool _) rfl ?_)
    refine wops_nil ?_
    refine then_n ?_
    refine x_ret ?_
    refine then_r ?_
    refine ret_tmp (v := .bool _) rfl rfl ?_
    exact ⟨rfl, HC⟩
   ·skip
    try simp only [nm, ne_eq] at h0
    have hfit : fitV l = true := by assumption
    have hli : lightN l ≤ 9000 := by first | assumption | omega | simp_all
    obtain ⟨hpl, hps⟩ := back_law (fun x hx => ⟨hnum x hx, (hK x hx).2⟩) hfit
    refine x_skip ?_
    refine then_n ?_
    refine x_seq ?_
    refine x_region rfl ?_
    refine w_plain rfl (st_move (v := .slice _ _ _) rfl ?_)
    refine w_plain rfl (st_call (ags := [_]) rfl rfl T.ent26 rfl (Print_spec hl hfit (by omega) hnum) ?_)
    rintro _ w15 ⟨rfl, c16⟩
    replace HC := HC.then c16
    replace hl := hl.tr0 c16
    replace ht := ht.tr0 c16
    refine w_plain rfl (st_call (ags := [_]) rfl rfl T.ent21 rfl (Parse_spec (L := toksF ((printV l).length + 1) (printV l) 0) (printV l) _ rfl (by omega) ht) ?_)
    rintro _ w17 ⟨A1, cap1, rfl, ho1, c18⟩
    have hs1 := ho1.sl.mono (D' := fun k => w.heap.size ≤ k) (fun k _ h => by have := HC.size; omega)
    replace HC := HC.then c18
    replace hl := hl.tr0 c18
    replace ht := ht.tr0 c18
    refine w_plain rfl (st_move (v := .tuple ⟨[_, _, _]⟩) rfl ?_)
    refine w_plain rfl (st_extract (vs := [_, _, _]) (v := .slice _ _ _) rfl rfl ?_)
    refine w_plain rfl (st_extract (vs := [_, _, _]) (v := .int _ _) rfl rfl ?_)
    refine w_plain rfl (st_extract (vs := [_, _, _]) (v := .int _ _) rfl rfl ?_)
    refine w_plain rfl (st_assign (v := .slice _ _ _) rfl ?_)
    refine w_plain rfl (st_assign (v := .int _ _) rfl ?_)
    refine w_plain rfl (st_assign (v := .int _ _) rfl ?_)
    refine wops_nil ?_
    refine then_n ?_
    refine x_seq ?_
    refine x_seq ?_
    refine x_region rfl ?_
    refine w_plain rfl (st_move (v := .int _ _) rfl ?_)
    refine w_plain rfl (st_eql rfl rfl ?_)
    refine wops_nil ?_
    refine then_n ?_
    refine x_cond rfl (fun h1 => ?_) (fun h1 => ?_)
    ·skip
     try simp only [nm, ne_eq] at h1
     refine x_seq ?_
     refine x_region rfl ?_
     refine w_plain rfl (st_call (ags := []) rfl rfl T.ent20 rfl (awake3_spec _ ht) ?_)
     rintro _ w19 ⟨rfl, c20⟩
     replace HC := HC.then c20
     replace hl := hl.tr0 c20
     replace ht := ht.tr0 c20
     replace hs1 := hs1.tr0 c20
     refine w_plain rfl (st_assign (v := .bool _) rfl ?_)
     refine wops_nil ?_
     refine then_n ?_
     refine x_ret ?_
     refine then_r ?_
     refine ret_tmp (v := .bool _) rfl rfl ?_
     exact ⟨rfl, HC⟩
    ·skip
     try simp only [nm, ne_eq] at h1
     have hp2 := hps.resolve_right (fun e => h1 (by first | exact e | omega))
     refine x_skip ?_
     refine then_n ?_
     refine x_seq ?_
     refine x_region rfl ?_
     refine w_plain rfl (st_move (v := .int _ _) rfl ?_)
     refine w_plain rfl (st_eql rfl rfl ?_)
     refine w_plain rfl (st_move (v := .bool _) rfl ?_)
     refine w_split (d := 32) rfl (fun g21 => ?_) (fun g21 => ?_)
     ·skip
      try simp only [nm, ne_eq] at g21
      refine w_yes 2 32 true (st_move (v := .slice _ _ _) rfl ?_)
      refine w_yes 2 32 true (st_move (v := .slice _ _ _) rfl ?_)
      refine w_yes 2 32 true (st_call (ags := [_, _]) rfl rfl T.ent23 rfl (RSameN_spec hl hs1 hlen) ?_)
      rintro _ w22 ⟨rfl, c23⟩
      replace HC := HC.then c23
      replace hl := hl.tr0 c23
      replace ht := ht.tr0 c23
      replace hs1 := hs1.tr0 c23
      refine w_plain rfl (st_pick (b := true) (v := .bool _) rfl rfl ?_)
      refine w_plain rfl (st_move (v := .bool _) rfl ?_)
      refine w_split (d := 37) rfl (fun g24 => ?_) (fun g24 => ?_)
      ·skip
       try simp only [nm, ne_eq] at g24
       refine w_yes 7 37 true (st_call (ags := []) rfl rfl T.ent20 rfl (awake3_spec _ ht) ?_)
       rintro _ w25 ⟨rfl, c26⟩
       replace HC := HC.then c26
       replace hl := hl.tr0 c26
       replace ht := ht.tr0 c26
       replace hs1 := hs1.tr0 c26
       refine w_plain rfl (st_pick (b := true) (v := .bool _) rfl rfl ?_)
       refine w_plain rfl (st_assign (v := .bool _) rfl ?_)
       refine wops_nil ?_
       refine then_n ?_
       refine x_ret ?_
       refine ret_tmp (v := .bool _) rfl rfl ?_
       exact ⟨rfl, HC⟩
      ·skip
       try simp only [nm, ne_eq] at g24
       exact absurd hp2.2.symm g24
     ·skip
      try simp only [nm, ne_eq] at g21
      exact absurd hp2.1 g21

/-- What is read is fit, and not too long to be asked about. -/
theorem fit_law {s : Bytes} (hs : s.length ≤ 140737488355328) : ((parseV s (toksF (s.length + 1) s 0)).2.2 ≠ 0 ∧ (parseV s (toksF (s.length + 1) s 0)).1 = []) ∨ ((parseV s (toksF (s.length + 1) s 0)).2.2 = 0 ∧ fitV (parseV s (toksF (s.length + 1) s 0)).1 = true ∧ (parseV s (toksF (s.length + 1) s 0)).1.length ≤ 1000 ∧ (∀ x, x ∈ (parseV s (toksF (s.length + 1) s 0)).1 → x.kids.length ≤ 140737488355328 ∧ x.name.length ≤ 140737488355328) ∧ ∀ x, x ∈ (parseV s (toksF (s.length + 1) s 0)).1 → x.num ≤ 9223372036854775807) := by
  rcases parse_tree hs rfl with h | ⟨h1, t, h2, h3, h4⟩
  · exact .inl h
  · refine .inr ⟨h1, ?_⟩
    rw [h4]
    exact ⟨tree_fitV h2 h3, by rw [Tr.row_len]; exact h3, fun x hx => ⟨Nat.le_trans (tree_kids t 0 x hx) (by omega), tree_name t 0 h2 x hx⟩, tree_num t 0 h2⟩

theorem AtreeFit_spec (s : Bytes) (w : World) (hs : s.length ≤ 140737488355328) (ht : Tab w) : CallR Tryd.prog 9 #[S s] w fun v w' => v = .bool true ∧ Chg [] w w' := by
 refine callR_of_wp (args := [_]) Tryd.func9 rfl (Nat.le_of_ble_eq_true rfl) ?_
 have HC : Chg [] w w := .refl _
 have ht1 := ht.lt
 have hlaw := fit_law hs
 refine x_seq ?_
 refine x_region rfl ?_
 refine w_plain rfl (st_assign (v := .bool _) rfl ?_)
 refine wops_nil ?_
 refine then_n ?_
 refine x_seq ?_
 refine x_seq ?_
 refine x_region rfl ?_
 refine w_plain rfl (st_move (v := S _) rfl ?_)
 refine w_plain rfl (st_slen (ct := #[9]) T.u9 rfl ?_)
 refine w_plain rfl (st_gtr rfl rfl ?_)
 refine wops_nil ?_
 refine then_n ?_
 refine x_cond rfl (fun h0 => ?_) (fun h0 => ?_)
 ·skip
  try simp only [nm, ne_eq] at h0
  refine x_seq ?_
  refine x_region rfl ?_
  refine w_plain rfl (st_call (ags := []) rfl rfl T.ent20 rfl (awake3_spec _ ht) ?_)
  rintro _ w1 ⟨rfl, c2⟩
  replace HC := HC.then c2
  replace ht := ht.tr0 c2
  refine w_plain rfl (st_assign (v := .bool _) rfl ?_)
  refine wops_nil ?_
  refine then_n ?_
  refine x_ret ?_
  refine then_r ?_
  refine ret_tmp (v := .bool _) rfl rfl ?_
  exact ⟨rfl, HC⟩
 ·skip
  try simp only [nm, ne_eq] at h0
  refine x_skip ?_
  refine then_n ?_
  refine x_seq ?_
  refine x_region rfl ?_
  refine w_plain rfl (st_move (v := S _) rfl ?_)
  refine w_plain rfl (st_call (ags := [_]) rfl rfl T.ent21 rfl (Parse_spec (L := toksF ((s).length + 1) (s) 0) (s) _ rfl (by omega) ht) ?_)
  rintro _ w3 ⟨A1, cap1, rfl, ho1, c4⟩
  have hs1 := ho1.sl.mono (D' := fun k => w.heap.size ≤ k) (fun k _ h => by have := HC.size; omega)
  replace HC := HC.then c4
  replace ht := ht.tr0 c4
  refine w_plain rfl (st_move (v := .tuple ⟨[_, _, _]⟩) rfl ?_)
  refine w_plain rfl (st_extract (vs := [_, _, _]) (v := .slice _ _ _) rfl rfl ?_)
  refine w_plain rfl (st_extract (vs := [_, _, _]) (v := .int _ _) rfl rfl ?_)
  refine w_plain rfl (st_extract (vs := [_, _, _]) (v := .int _ _) rfl rfl ?_)
  refine w_plain rfl (st_assign (v := .slice _ _ _) rfl ?_)
  refine w_plain rfl (st_assign (v := .int _ _) rfl ?_)
  refine w_plain rfl (st_assign (v := .int _ _) rfl ?_)
  refine wops_nil ?_
  refine then_n ?_
  refine x_seq ?_
  refine x_seq ?_
  refine x_region rfl ?_
  refine w_plain rfl (st_move (v := .int _ _) rfl ?_)
  refine w_plain rfl (st_neq rfl rfl ?_)
  refine wops_nil ?_
  refine then_n ?_
  refine x_cond rfl (fun h1 => ?_) (fun h1 => ?_)
  ·skip
   try simp only [nm, ne_eq] at h1
   have hemp : (parseV s (toksF (s.length + 1) s 0)).1 = [] := (hlaw.resolve_right (fun e => h1 e.1)).2
   refine x_seq ?_
   refine x_region rfl ?_
   refine w_plain rfl (st_move (v := .slice _ _ _) rfl ?_)
   refine w_plain rfl (st_len (ct := #[39]) (by rw [show ((#[39] : Array TypeId)[0]?).bind Tryd.prog.underlying = some (.slice 60) from T.u39]; rfl) rfl ?_)
   refine w_plain rfl (st_eql rfl rfl ?_)
   refine w_plain rfl (st_move (v := .bool _) rfl ?_)
   refine w_split (d := 24) rfl (fun g5 => ?_) (fun g5 => ?_)
   ·skip
    try simp only [nm, ne_eq] at g5
    refine w_yes 3 24 true (st_call (ags := []) rfl rfl T.ent20 rfl (awake3_spec _ ht) ?_)
    rintro _ w6 ⟨rfl, c7⟩
    replace HC := HC.then c7
    replace ht := ht.tr0 c7
    replace hs1 := hs1.tr0 c7
    refine w_plain rfl (st_pick (b := true) (v := .bool _) rfl rfl ?_)
    refine w_plain rfl (st_assign (v := .bool _) rfl ?_)
    refine wops_nil ?_
    refine then_n ?_
    refine x_ret ?_
    refine then_r ?_
    refine ret_tmp (v := .bool _) rfl rfl ?_
    exact ⟨rfl, HC⟩
   ·skip
    try simp only [nm, ne_eq] at g5
    exact absurd (by rw [hemp]; rfl) g5
  ·skip
   try simp only [nm, ne_eq] at h1
   obtain ⟨he0, hfit, hl0, hK, hnum⟩ := hlaw.resolve_left (fun e => e.1 (by first | exact h1 | omega))
   refine x_skip ?_
   refine then_n ?_
   refine x_seq ?_
   refine x_seq ?_
   refine x_region rfl ?_
   refine w_plain rfl (st_move (v := .slice _ _ _) rfl ?_)
   refine w_plain rfl (st_call (ags := [_]) rfl rfl T.ent24 rfl (RFit_spec hs1 hK (by omega)) ?_)
   rintro _ w8 ⟨rfl, c9⟩
   replace HC := HC.then c9
   replace ht := ht.tr0 c9
   replace hs1 := hs1.tr0 c9
   refine w_plain rfl (st_not rfl ?_)
   refine wops_nil ?_
   refine then_n ?_
   refine x_cond rfl (fun h2 => ?_) (fun h2 => ?_)
   ·skip
    try simp only [nm, ne_eq] at h2
    exfalso; rw [hfit] at h2; simp at h2
   ·skip
    try simp only [nm, ne_eq] at h2
    refine x_skip ?_
    refine then_n ?_
    refine x_seq ?_
    refine x_seq ?_
    refine x_region rfl ?_
    refine w_plain rfl (st_move (v := .slice _ _ _) rfl ?_)
    refine w_plain rfl (st_call (ags := [_]) rfl rfl T.ent25 rfl (light_spec hs1 (light_few hK (by omega)) (by omega)) ?_)
    rintro _ w10 ⟨rfl, c11⟩
    replace HC := HC.then c11
    replace ht := ht.tr0 c11
    replace hs1 := hs1.tr0 c11
    refine w_plain rfl (st_not rfl ?_)
    refine wops_nil ?_
    refine then_n ?_
    refine x_cond rfl (fun h3 => ?_) (fun h3 => ?_)
    ·skip
     try simp only [nm, ne_eq] at h3
     refine x_seq ?_
     refine x_region rfl ?_
     refine w_plain rfl (st_call (ags := []) rfl rfl T.ent20 rfl (awake3_spec _ ht) ?_)
     rintro _ w12 ⟨rfl, c13⟩
     replace HC := HC.then c13
     replace ht := ht.tr0 c13
     replace hs1 := hs1.tr0 c13
     refine w_plain rfl (st_assign (v := .bool _) rfl ?_)
     refine wops_nil ?_
     refine then_n ?_
     refine x_ret ?_
     refine then_r ?_
     refine ret_tmp (v := .bool _) rfl rfl ?_
     exact ⟨rfl, HC⟩
    ·skip
     try simp only [nm, ne_eq] at h3
     have hli : lightN (parseV s (toksF (s.length + 1) s 0)).1 ≤ 9000 := by first | assumption | omega | simp_all
     obtain ⟨hpl, hps⟩ := back_law (fun x hx => ⟨hnum x hx, (hK x hx).2⟩) hfit
     refine x_skip ?_
     refine then_n ?_
     refine x_seq ?_
     refine x_region rfl ?_
     refine w_plain rfl (st_move (v := .slice _ _ _) rfl ?_)
     refine w_plain rfl (st_call (ags := [_]) rfl rfl T.ent26 rfl (Print_spec hs1 hfit (by omega) hnum) ?_)
     rintro _ w14 ⟨rfl, c15⟩
     replace HC := HC.then c15
     replace ht := ht.tr0 c15
     replace hs1 := hs1.tr0 c15
     refine w_plain rfl (st_call (ags := [_]) rfl rfl T.ent21 rfl (Parse_spec (L := toksF ((printV (parseV s (toksF (s.length + 1) s 0)).1).length + 1) (printV (parseV s (toksF (s.length + 1) s 0)).1) 0) (printV (parseV s (toksF (s.length + 1) s 0)).1) _ rfl (by omega) ht) ?_)
     rintro _ w16 ⟨A2, cap2, rfl, ho2, c17⟩
     have hs2 := ho2.sl.mono (D' := fun k => w.heap.size ≤ k) (fun k _ h => by have := HC.size; omega)
     replace HC := HC.then c17
     replace ht := ht.tr0 c17
     replace hs1 := hs1.tr0 c17
     refine w_plain rfl (st_move (v := .tuple ⟨[_, _, _]⟩) rfl ?_)
     refine w_plain rfl (st_extract (vs := [_, _, _]) (v := .slice _ _ _) rfl rfl ?_)
     refine w_plain rfl (st_extract (vs := [_, _, _]) (v := .int _ _) rfl rfl ?_)
     refine w_plain rfl (st_extract (vs := [_, _, _]) (v := .int _ _) rfl rfl ?_)
     refine w_plain rfl (st_assign (v := .slice _ _ _) rfl ?_)
     refine w_plain rfl (st_assign (v := .int _ _) rfl ?_)
     refine w_plain rfl (st_assign (v := .int _ _) rfl ?_)
     refine wops_nil ?_
     refine then_n ?_
     refine x_seq ?_
     refine x_region rfl ?_
     refine w_plain rfl (st_move (v := .int _ _) rfl ?_)
     refine w_plain rfl (st_eql rfl rfl ?_)
     refine w_plain rfl (st_move (v := .bool _) rfl ?_)
     refine w_split (d := 43) rfl (fun g18 => ?_) (fun g18 => ?_)
     ·skip
      try simp only [nm, ne_eq] at g18
      refine w_no 2 43 false ?_
      refine w_no 2 43 false ?_
      refine w_no 2 43 false ?_
      refine w_no 5 46 true ?_
      refine w_no 5 46 true ?_
      refine w_no 5 46 true ?_
      refine w_no 2 43 false ?_
      refine w_plain rfl (st_pick (b := true) (v := .bool _) rfl rfl ?_)
      refine w_plain rfl (st_move (v := .bool _) rfl ?_)
      refine w_yes 11 52 true (st_call (ags := []) rfl rfl T.ent20 rfl (awake3_spec _ ht) ?_)
      rintro _ w19 ⟨rfl, c20⟩
      replace HC := HC.then c20
      replace ht := ht.tr0 c20
      replace hs1 := hs1.tr0 c20
      replace hs2 := hs2.tr0 c20
      refine w_plain rfl (st_pick (b := true) (v := .bool _) rfl rfl ?_)
      refine w_plain rfl (st_assign (v := .bool _) rfl ?_)
      refine wops_nil ?_
      refine then_n ?_
      refine x_ret ?_
      refine ret_tmp (v := .bool _) rfl rfl ?_
      exact ⟨rfl, HC⟩
     ·skip
      try simp only [nm, ne_eq] at g18
      have hp2 := hps.resolve_right (by first | assumption | omega)
      refine w_yes 2 43 false (st_move (v := .int _ _) rfl ?_)
      refine w_yes 2 43 false (st_eql rfl rfl ?_)
      refine w_yes 2 43 false (st_move (v := .bool _) rfl ?_)
      refine w_split (d := 46) rfl (fun g21 => ?_) (fun g21 => ?_)
      ·skip
       try simp only [nm, ne_eq] at g21
       refine w_yes 5 46 true (st_move (v := .slice _ _ _) rfl ?_)
       refine w_yes 5 46 true (st_move (v := .slice _ _ _) rfl ?_)
       refine w_yes 5 46 true (st_call (ags := [_, _]) rfl rfl T.ent23 rfl (RSameN_spec hs1 hs2 (by omega)) ?_)
       rintro _ w22 ⟨rfl, c23⟩
       replace HC := HC.then c23
       replace ht := ht.tr0 c23
       replace hs1 := hs1.tr0 c23
       replace hs2 := hs2.tr0 c23
       refine w_yes 2 43 false (st_pick (b := true) (v := .bool _) rfl rfl ?_)
       refine w_plain rfl (st_pick (b := false) (v := .bool _) rfl rfl ?_)
       refine w_plain rfl (st_move (v := .bool _) rfl ?_)
       refine w_split (d := 52) rfl (fun g24 => ?_) (fun g24 => ?_)
       ·skip
        try simp only [nm, ne_eq] at g24
        refine w_yes 11 52 true (st_call (ags := []) rfl rfl T.ent20 rfl (awake3_spec _ ht) ?_)
        rintro _ w25 ⟨rfl, c26⟩
        replace HC := HC.then c26
        replace ht := ht.tr0 c26
        replace hs1 := hs1.tr0 c26
        replace hs2 := hs2.tr0 c26
        refine w_plain rfl (st_pick (b := true) (v := .bool _) rfl rfl ?_)
        refine w_plain rfl (st_assign (v := .bool _) rfl ?_)
        refine wops_nil ?_
        refine then_n ?_
        refine x_ret ?_
        refine ret_tmp (v := .bool _) rfl rfl ?_
        exact ⟨rfl, HC⟩
       ·skip
        try simp only [nm, ne_eq] at g24
        exact absurd hp2.2.symm g24
      ·skip
       try simp only [nm, ne_eq] at g21
       exact absurd hp2.1 g21

end Go.Proofs.YtcgcbpknbjafcaaDoor.K
