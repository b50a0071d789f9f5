/- The law AtreeTells. -/
import Derived.Test.YtcgcbpknbjafcaaDoorCm
import Derived.Test.YtcgcbpknbjafcaaDoorKitO
set_option linter.unusedVariables false
set_option linter.unusedSimpArgs false
set_option autoImplicit false
set_option maxRecDepth 20000
namespace Go.Proofs.YtcgcbpknbjafcaaDoor.K
open Go Go.Proofs Go.RowKit

theorem AtreeTells_spec {l m : List Nd} {Al Am : Option Addr} {capl capm : Nat} {D D2 : Nat → Prop} {w : World} (hl : Sl ndE w D Al l) (hm : Sl ndE w D2 Am m) (hKl : ∀ x, x ∈ l → x.kids.length ≤ 140737488355328 ∧ x.name.length ≤ 140737488355328) (hlenl : l.length ≤ 140737488355328) (hKm : ∀ x, x ∈ m → x.kids.length ≤ 140737488355328 ∧ x.name.length ≤ 140737488355328) (hlenm : m.length ≤ 140737488355328) (ht : Tab w) : CallR Tryd.prog 10 #[.slice Al l.length capl, .slice Am m.length capm] w fun v w' => v = .bool true ∧ Chg [] w w' := by
 refine callR_of_wp (args := [_, _]) Tryd.func10 rfl (Nat.le_of_ble_eq_true rfl) ?_
 have HC : Chg [] w w := .refl _
 have ht1 := ht.lt
 refine x_seq ?_
 refine x_region rfl ?_
 refine w_plain rfl (st_assign (v := .bool _) rfl ?_)
 refine wops_nil ?_
 refine then_n ?_
 refine x_seq ?_
 refine x_seq ?_
 refine x_region rfl ?_
 refine w_plain rfl (st_move (v := .slice _ _ _) rfl ?_)
 refine w_plain rfl (st_call (ags := [_]) rfl rfl T.ent19 rfl (few_spec hl hKl hlenl) ?_)
 rintro _ w1 ⟨rfl, c2⟩
 replace HC := HC.then c2
 replace hl := hl.tr0 c2
 replace hm := hm.tr0 c2
 replace ht := ht.tr0 c2
 refine w_plain rfl (st_not rfl ?_)
 refine w_plain rfl (st_move (v := .bool _) rfl ?_)
 refine w_split (d := 8) rfl (fun g3 => ?_) (fun g3 => ?_)
 ·skip
  try simp only [nm, ne_eq] at g3
  refine w_no 3 8 false ?_
  refine w_no 3 8 false ?_
  refine w_no 3 8 false ?_
  refine w_plain rfl (st_pick (b := true) (v := .bool _) rfl rfl ?_)
  refine wops_nil ?_
  refine then_n ?_
  refine x_cond (t := true) rfl (fun h0 => ?_) (fun h0 => ?_)
  rotate_left
  · exact absurd h0 (by decide)
  refine x_seq ?_
  refine x_region rfl ?_
  refine w_plain rfl (st_call (ags := []) rfl rfl T.ent20 rfl (awake3_spec _ ht) ?_)
  rintro _ w4 ⟨rfl, c5⟩
  replace HC := HC.then c5
  replace hl := hl.tr0 c5
  replace hm := hm.tr0 c5
  replace ht := ht.tr0 c5
  refine w_plain rfl (st_assign (v := .bool _) rfl ?_)
  refine wops_nil ?_
  refine then_n ?_
  refine x_ret ?_
  refine then_r ?_
  refine ret_tmp (v := .bool _) rfl rfl ?_
  exact ⟨rfl, HC⟩
 ·skip
  try simp only [nm, ne_eq] at g3
  refine w_yes 3 8 false (st_move (v := .slice _ _ _) rfl ?_)
  refine w_yes 3 8 false (st_call (ags := [_]) rfl rfl T.ent19 rfl (few_spec hm hKm hlenm) ?_)
  rintro _ w6 ⟨rfl, c7⟩
  replace HC := HC.then c7
  replace hl := hl.tr0 c7
  replace hm := hm.tr0 c7
  replace ht := ht.tr0 c7
  refine w_yes 3 8 false (st_not rfl ?_)
  refine w_plain rfl (st_pick (b := false) (v := .bool _) rfl rfl ?_)
  refine wops_nil ?_
  refine then_n ?_
  refine x_cond rfl (fun h0 => ?_) (fun h0 => ?_)
  ·skip
   try simp only [nm, ne_eq] at h0
   refine x_seq ?_
   refine x_region rfl ?_
   refine w_plain rfl (st_call (ags := []) rfl rfl T.ent20 rfl (awake3_spec _ ht) ?_)
   rintro _ w8 ⟨rfl, c9⟩
   replace HC := HC.then c9
   replace hl := hl.tr0 c9
   replace hm := hm.tr0 c9
   replace ht := ht.tr0 c9
   refine w_plain rfl (st_assign (v := .bool _) rfl ?_)
   refine wops_nil ?_
   refine then_n ?_
   refine x_ret ?_
   refine then_r ?_
   refine ret_tmp (v := .bool _) rfl rfl ?_
   exact ⟨rfl, HC⟩
  ·skip
   try simp only [nm, ne_eq] at h0
   refine x_skip ?_
   refine then_n ?_
   refine x_seq ?_
   refine x_region rfl ?_
   refine w_plain rfl (st_move (v := .slice _ _ _) rfl ?_)
   refine w_plain rfl (st_call (ags := [_]) rfl rfl T.ent28 rfl (AFit_spec hl hKl hlenl ht) ?_)
   rintro _ w10 ⟨rfl, c11⟩
   replace HC := HC.then c11
   replace hl := hl.tr0 c11
   replace hm := hm.tr0 c11
   replace ht := ht.tr0 c11
   refine w_plain rfl (st_move (v := .slice _ _ _) rfl ?_)
   refine w_plain rfl (st_call (ags := [_]) rfl rfl T.ent24 rfl (RFit_spec hl hKl hlenl) ?_)
   rintro _ w12 ⟨rfl, c13⟩
   replace HC := HC.then c13
   replace hl := hl.tr0 c13
   replace hm := hm.tr0 c13
   replace ht := ht.tr0 c13
   refine w_plain rfl (st_beql T.u4 rfl rfl ?_)
   refine w_plain rfl (st_move (v := .bool _) rfl ?_)
   refine w_split (d := 19) rfl (fun g14 => ?_) (fun g14 => ?_)
   ·skip
    try simp only [nm, ne_eq] at g14
    refine w_yes 5 19 true (st_move (v := .slice _ _ _) rfl ?_)
    refine w_yes 5 19 true (st_move (v := .slice _ _ _) rfl ?_)
    refine w_yes 5 19 true (st_call (ags := [_, _]) rfl rfl T.ent29 rfl (ASame_spec hl hm (fun x hx => (hKl x hx).1) hlenl) ?_)
    rintro _ w15 ⟨rfl, c16⟩
    replace HC := HC.then c16
    replace hl := hl.tr0 c16
    replace hm := hm.tr0 c16
    replace ht := ht.tr0 c16
    refine w_yes 5 19 true (st_move (v := .slice _ _ _) rfl ?_)
    refine w_yes 5 19 true (st_move (v := .slice _ _ _) rfl ?_)
    refine w_yes 5 19 true (st_call (ags := [_, _]) rfl rfl T.ent23 rfl (RSameN_spec hl hm hlenl) ?_)
    rintro _ w17 ⟨rfl, c18⟩
    replace HC := HC.then c18
    replace hl := hl.tr0 c18
    replace hm := hm.tr0 c18
    replace ht := ht.tr0 c18
    refine w_yes 5 19 true (st_beql T.u4 rfl rfl ?_)
    refine w_plain rfl (st_pick (b := true) (v := .bool _) rfl rfl ?_)
    refine w_plain rfl (st_move (v := .bool _) rfl ?_)
    refine w_split (d := 28) rfl (fun g19 => ?_) (fun g19 => ?_)
    ·skip
     try simp only [nm, ne_eq] at g19
     refine w_yes 14 28 true (st_move (v := .slice _ _ _) rfl ?_)
     refine w_yes 14 28 true (st_move (v := .slice _ _ _) rfl ?_)
     refine w_yes 14 28 true (st_call (ags := [_, _]) rfl rfl T.ent29 rfl (ASame_spec hl hl (fun x hx => (hKl x hx).1) hlenl) ?_)
     rintro _ w20 ⟨rfl, c21⟩
     replace HC := HC.then c21
     replace hl := hl.tr0 c21
     replace hm := hm.tr0 c21
     replace ht := ht.tr0 c21
     refine w_plain rfl (st_pick (b := true) (v := .bool _) rfl rfl ?_)
     refine w_plain rfl (st_move (v := .bool _) rfl ?_)
     refine w_split (d := 33) rfl (fun g22 => ?_) (fun g22 => ?_)
     ·skip
      try simp only [nm, ne_eq] at g22
      refine w_yes 19 33 true (st_call (ags := []) rfl rfl T.ent20 rfl (awake3_spec _ ht) ?_)
      rintro _ w23 ⟨rfl, c24⟩
      replace HC := HC.then c24
      replace hl := hl.tr0 c24
      replace hm := hm.tr0 c24
      replace ht := ht.tr0 c24
      refine w_plain rfl (st_pick (b := true) (v := .bool _) rfl rfl ?_)
      refine w_plain rfl (st_assign (v := .bool _) rfl ?_)
      refine wops_nil ?_
      refine then_n ?_
      refine x_ret ?_
      refine ret_tmp (v := .bool _) rfl rfl ?_
      exact ⟨rfl, HC⟩
     ·skip
      try simp only [nm, ne_eq] at g22
      first | exact absurd rfl g22 | exact absurd trivial g22 | (simp at g22; done)
    ·skip
     try simp only [nm, ne_eq] at g19
     first | exact absurd rfl g19 | exact absurd trivial g19 | (simp at g19; done)
   ·skip
    try simp only [nm, ne_eq] at g14
    first | exact absurd rfl g14 | exact absurd trivial g14 | (simp at g14; done)

end Go.Proofs.YtcgcbpknbjafcaaDoor.K
