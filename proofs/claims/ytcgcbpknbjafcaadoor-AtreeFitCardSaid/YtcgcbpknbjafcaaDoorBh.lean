/- Walks: the laws of chapter 12. -/
import Derived.Test.YtcgcbpknbjafcaaDoorBg
import Derived.Test.YtcgcbpknbjafcaaDoorKitM
set_option linter.unusedVariables false
set_option linter.unusedSimpArgs false
set_option autoImplicit false
set_option maxRecDepth 20000
namespace Go.Proofs.YtcgcbpknbjafcaaDoor.K
open Go Go.Proofs Go.RowKit

theorem chunks_flat {α : Type} {sz : Nat} {f : α → List Value} {h1 h2 h3} {w : World} {D : Nat → Prop} : ∀ xs : List α, Chunks (Enc.flat sz f h1 h2 h3) w D xs (xs.flatMap f)
  | [] => .nil
  | x :: xs => by rw [List.flatMap_cons]; exact Chunks.cons rfl (chunks_flat xs)
theorem sl_lit {α : Type} {sz : Nat} {f : α → List Value} {h1 h2 h3} {w : World} {b : Nat} {T : TypeId} (xs : List α) (hm : xs.length ≤ 9223372036854775807) (h : Blk w b (xs.flatMap f) T) : Sl (Enc.flat sz f h1 h2 h3) w (fun k => k = b) (some ⟨b, 0, none⟩) xs :=
  (Own.of_blk (D := fun k => k = b) h rfl hm (chunks_flat xs)).sl
def aw1 : Bytes := [97, 60, 60, 61, 48, 120, 49, 70]
def aw2 : Bytes := [48, 57]
def aw3 : Bytes := [49, 32, 64]
def awT : List Tk := [((2, 0, [97]), 0), ((3, 0, [60, 60, 61]), 1), ((1, 31, []), 4), ((0, 0, []), 8)]
theorem aw1_eq : tokV (toksF (aw1.length + 1) aw1 0) = (awT, 0, 0) := by kernel_rfl
theorem aw2_eq : tokV (toksF (aw2.length + 1) aw2 0) = ([], 0, 102) := by kernel_rfl
theorem aw3_eq : tokV (toksF (aw3.length + 1) aw3 0) = ([], 2, 101) := by kernel_rfl

theorem awake_spec (w : World) (ht : Tab w) : CallR Tryd.prog 11 #[] w fun v w' => v = .bool true ∧ Chg [] w w' := by
 refine callR_of_wp (args := []) Tryd.func11 rfl (Nat.le_of_ble_eq_true rfl) ?_
 have HC : Chg [] w w := .refl _
 have ht1 := ht.lt
 refine x_seq ?_
 refine x_region rfl ?_
 refine w_plain rfl (st_assign (v := .bool _) rfl ?_)
 refine wops_nil ?_
 refine then_n ?_
 refine x_seq ?_
 refine x_region rfl ?_
 refine w_plain rfl (st_call (ags := [_]) rfl rfl T.ent12 rfl (Tokens_spec (L := (toksF (aw1.length + 1) aw1 0)) aw1 _ rfl (by decide) ht) ?_)
 rintro _ w1 ⟨A1, cap1, rfl, ho1, c2⟩
 rw [aw1_eq] at ho1 ⊢
 replace ho1 := ho1.mono (D' := fun k => w.heap.size ≤ k) (fun k _ h => by have := HC.size; omega)
 replace HC := HC.then c2
 replace ht := ht.tr0 c2
 refine w_plain rfl (st_move (v := .tuple ⟨[_, _, _]⟩) rfl ?_)
 refine w_plain rfl (st_extract (vs := [_, _, _]) (v := .slice _ _ _) rfl rfl ?_)
 refine w_plain rfl (st_extract (vs := [_, _, _]) (v := .int _ _) rfl rfl ?_)
 refine w_plain rfl (st_extract (vs := [_, _, _]) (v := .int _ _) rfl rfl ?_)
 refine w_plain rfl (st_assign (v := .slice _ _ _) rfl ?_)
 refine w_plain rfl (st_assign (v := .int _ _) rfl ?_)
 refine w_plain rfl (st_assign (v := .int _ _) rfl ?_)
 refine wops_nil ?_
 refine then_n ?_
 refine x_seq ?_
 refine x_region rfl ?_
 refine w_plain rfl (st_call (ags := [_]) rfl rfl T.ent12 rfl (Tokens_spec (L := (toksF (aw2.length + 1) aw2 0)) aw2 _ rfl (by decide) ht) ?_)
 rintro _ w3 ⟨A2, cap2, rfl, ho2, c4⟩
 rw [aw2_eq] at ho2 ⊢
 replace ho2 := ho2.mono (D' := fun k => w.heap.size ≤ k) (fun k _ h => by have := HC.size; omega)
 replace HC := HC.then c4
 replace ht := ht.tr0 c4
 replace ho1 := ho1.tr0 c4
 refine w_plain rfl (st_move (v := .tuple ⟨[_, _, _]⟩) rfl ?_)
 refine w_plain rfl (st_extract (vs := [_, _, _]) (v := .slice _ _ _) rfl rfl ?_)
 refine w_plain rfl (st_extract (vs := [_, _, _]) (v := .int _ _) rfl rfl ?_)
 refine w_plain rfl (st_extract (vs := [_, _, _]) (v := .int _ _) rfl rfl ?_)
 refine w_plain rfl (st_assign (v := .slice _ _ _) rfl ?_)
 refine w_plain rfl (st_assign (v := .int _ _) rfl ?_)
 refine w_plain rfl (st_assign (v := .int _ _) rfl ?_)
 refine wops_nil ?_
 refine then_n ?_
 refine x_seq ?_
 refine x_region rfl ?_
 refine w_plain rfl (st_call (ags := [_]) rfl rfl T.ent12 rfl (Tokens_spec (L := (toksF (aw3.length + 1) aw3 0)) aw3 _ rfl (by decide) ht) ?_)
 rintro _ w5 ⟨A3, cap3, rfl, ho3, c6⟩
 rw [aw3_eq] at ho3 ⊢
 replace ho3 := ho3.mono (D' := fun k => w.heap.size ≤ k) (fun k _ h => by have := HC.size; omega)
 replace HC := HC.then c6
 replace ht := ht.tr0 c6
 replace ho1 := ho1.tr0 c6
 replace ho2 := ho2.tr0 c6
 refine w_plain rfl (st_move (v := .tuple ⟨[_, _, _]⟩) rfl ?_)
 refine w_plain rfl (st_extract (vs := [_, _, _]) (v := .slice _ _ _) rfl rfl ?_)
 refine w_plain rfl (st_extract (vs := [_, _, _]) (v := .int _ _) rfl rfl ?_)
 refine w_plain rfl (st_extract (vs := [_, _, _]) (v := .int _ _) rfl rfl ?_)
 refine w_plain rfl (st_assign (v := .slice _ _ _) rfl ?_)
 refine w_plain rfl (st_assign (v := .int _ _) rfl ?_)
 refine w_plain rfl (st_assign (v := .int _ _) rfl ?_)
 refine wops_nil ?_
 refine then_n ?_
 refine x_seq ?_
 refine x_region rfl ?_
 refine w_plain rfl (st_move (v := .int _ _) rfl ?_)
 refine w_plain rfl (st_eql rfl rfl ?_)
 refine w_plain rfl (st_move (v := .bool _) rfl ?_)
 refine w_split (d := 27) rfl (fun g7 => ?_) (fun g7 => ?_)
 ·skip
  try simp only [nm, ne_eq] at g7
  refine w_yes 2 27 true (st_move (v := .slice _ _ _) rfl ?_)
  refine w_yes 2 27 true (st_bld (ps := [(0, .const (.int .i64 2)), (2, .const (S [97]))]) (vs := [.int _ _, .int _ _, S _, .int _ _]) T.bld34 rfl ?_)
  refine w_yes 2 27 true (st_bld (ps := [(0, .const (.int .i64 3)), (2, .const (S [60, 60, 61])), (3, .const (.int .i64 1))]) (vs := [.int _ _, .int _ _, S _, .int _ _]) T.bld34 rfl ?_)
  refine w_yes 2 27 true (st_bld (ps := [(0, .const (.int .i64 1)), (1, .const (.int .i64 31)), (3, .const (.int .i64 4))]) (vs := [.int _ _, .int _ _, S _, .int _ _]) T.bld34 rfl ?_)
  refine w_yes 2 27 true (st_bld (ps := [(3, .const (.int .i64 8))]) (vs := [.int _ _, .int _ _, S _, .int _ _]) T.bld34 rfl ?_)
  refine w_yes 2 27 true (st_lit (ps := [(0, .tmp 29), (1, .tmp 30), (2, .tmp 31), (3, .tmp 32)]) (vs := [.int _ _, .int _ _, S _, .int _ _, .int _ _, .int _ _, S _, .int _ _, .int _ _, .int _ _, S _, .int _ _, .int _ _, .int _ _, S _, .int _ _]) T.lit23 (by decide) rfl (by simp only [List.forall_mem_cons, List.not_mem_nil, false_imp_iff, implies_true, and_true]; exact ⟨rfl, rfl, rfl, rfl⟩) rfl ?_)
  intro b8 w9 e10 c11 hb12
  have ge_b8 : w.heap.size ≤ b8 := by rw [e10]; exact HC.size
  have na_b8 : b8 ∉ ob A1 := ho1.fresh (by rw [e10]; exact Nat.le_refl _)
  have na_b8 : b8 ∉ ob A2 := ho2.fresh (by rw [e10]; exact Nat.le_refl _)
  have na_b8 : b8 ∉ ob A3 := ho3.fresh (by rw [e10]; exact Nat.le_refl _)
  replace HC := HC.then c11
  replace ht := ht.tr0 c11
  replace ho1 := ho1.tr0 c11
  replace ho2 := ho2.tr0 c11
  replace ho3 := ho3.tr0 c11
  clear e10
  refine w_yes 2 27 true (st_call (ags := [_, _]) rfl rfl T.ent17 rfl (Same_spec (a := awT) (b := awT) ho1.sl (sl_lit awT (by decide) (show Blk _ _ (awT.flatMap fun x => tokC x.1 x.2) 34 from hb12)) (by decide)) ?_)
  rintro _ w13 ⟨rfl, c14⟩
  replace HC := HC.then c14
  replace ht := ht.tr0 c14
  replace ho1 := ho1.tr0 c14
  replace ho2 := ho2.tr0 c14
  replace ho3 := ho3.tr0 c14
  replace hb12 := hb12.tr0 c14
  refine w_plain rfl (st_pick (b := true) (v := .bool _) rfl rfl ?_)
  refine w_plain rfl (st_move (v := .bool _) rfl ?_)
  refine w_split (d := 36) rfl (fun g15 => ?_) (fun g15 => ?_)
  ·skip
   try simp only [nm, ne_eq] at g15
   refine w_yes 11 36 true (st_move (v := .int _ _) rfl ?_)
   refine w_yes 11 36 true (st_eql rfl rfl ?_)
   refine w_plain rfl (st_pick (b := true) (v := .bool _) rfl rfl ?_)
   refine w_plain rfl (st_move (v := .bool _) rfl ?_)
   refine w_split (d := 40) rfl (fun g16 => ?_) (fun g16 => ?_)
   ·skip
    try simp only [nm, ne_eq] at g16
    refine w_yes 15 40 true (st_move (v := .int _ _) rfl ?_)
    refine w_yes 15 40 true (st_eql rfl rfl ?_)
    refine w_plain rfl (st_pick (b := true) (v := .bool _) rfl rfl ?_)
    refine w_plain rfl (st_move (v := .bool _) rfl ?_)
    refine w_split (d := 44) rfl (fun g17 => ?_) (fun g17 => ?_)
    ·skip
     try simp only [nm, ne_eq] at g17
     refine w_yes 19 44 true (st_move (v := .int _ _) rfl ?_)
     refine w_yes 19 44 true (st_eql rfl rfl ?_)
     refine w_plain rfl (st_pick (b := true) (v := .bool _) rfl rfl ?_)
     refine w_plain rfl (st_move (v := .bool _) rfl ?_)
     refine w_split (d := 48) rfl (fun g18 => ?_) (fun g18 => ?_)
     ·skip
      try simp only [nm, ne_eq] at g18
      refine w_yes 23 48 true (st_move (v := .int _ _) rfl ?_)
      refine w_yes 23 48 true (st_eql rfl rfl ?_)
      refine w_plain rfl (st_pick (b := true) (v := .bool _) rfl rfl ?_)
      refine w_plain rfl (st_assign (v := .bool _) rfl ?_)
      refine wops_nil ?_
      refine then_n ?_
      refine x_ret ?_
      refine ret_tmp (v := .bool _) rfl rfl ?_
      exact ⟨rfl, HC⟩
     ·skip
      try simp only [nm, ne_eq] at g18
      first | exact absurd rfl g18 | exact absurd trivial g18 | simp at g18
    ·skip
     try simp only [nm, ne_eq] at g17
     first | exact absurd rfl g17 | exact absurd trivial g17 | simp at g17
   ·skip
    try simp only [nm, ne_eq] at g16
    first | exact absurd rfl g16 | exact absurd trivial g16 | simp at g16
  ·skip
   try simp only [nm, ne_eq] at g15
   first | exact absurd rfl g15 | exact absurd trivial g15 | simp at g15
 ·skip
  try simp only [nm, ne_eq] at g7
  first | exact absurd rfl g7 | exact absurd trivial g7 | simp at g7

theorem AtokReads_spec (s : Bytes) (w : World) (hs : s.length ≤ 9223372036854775807) (ht : Tab w) : CallR Tryd.prog 3 #[S s] w fun v w' => v = .bool true ∧ Chg [] w w' := by
 refine callR_of_wp (args := [_]) Tryd.func3 rfl (Nat.le_of_ble_eq_true rfl) ?_
 have HC : Chg [] w w := .refl _
 have ht1 := ht.lt
 obtain ⟨L, hL1⟩ : ∃ L, toksF (s.length + 1) s 0 = L := ⟨_, rfl⟩
 have hL2 := hL1
 refine x_seq ?_
 refine x_region rfl ?_
 refine w_plain rfl (st_assign (v := .bool _) rfl ?_)
 refine wops_nil ?_
 refine then_n ?_
 refine x_seq ?_
 refine x_seq ?_
 refine x_region rfl ?_
 refine w_plain rfl (st_move (v := S _) rfl ?_)
 refine w_plain rfl (st_slen (ct := #[9]) T.u9 rfl ?_)
 refine w_plain rfl (st_gtr rfl rfl ?_)
 refine wops_nil ?_
 refine then_n ?_
 refine x_cond rfl (fun h0 => ?_) (fun h0 => ?_)
 ·skip
  try simp only [nm, ne_eq] at h0
  refine x_seq ?_
  refine x_region rfl ?_
  refine w_plain rfl (st_call (ags := []) rfl rfl T.ent11 rfl (awake_spec _ ht) ?_)
  rintro _ w1 ⟨rfl, c2⟩
  replace HC := HC.then c2
  replace ht := ht.tr0 c2
  refine w_plain rfl (st_assign (v := .bool _) rfl ?_)
  refine wops_nil ?_
  refine then_n ?_
  refine x_ret ?_
  refine then_r ?_
  refine ret_tmp (v := .bool _) rfl rfl ?_
  exact ⟨rfl, HC⟩
 ·skip
  try simp only [nm, ne_eq] at h0
  refine x_skip ?_
  refine then_n ?_
  refine x_seq ?_
  refine x_region rfl ?_
  refine w_plain rfl (st_move (v := S _) rfl ?_)
  refine w_plain rfl (st_call (ags := [_]) rfl rfl T.ent12 rfl (Tokens_spec (L := L) s _ hL1 (by omega) ht) ?_)
  rintro _ w3 ⟨A1, cap1, rfl, ho1, c4⟩
  replace ho1 := ho1.mono (D' := fun k => w.heap.size ≤ k) (fun k _ h => by have := HC.size; omega)
  replace HC := HC.then c4
  replace ht := ht.tr0 c4
  refine w_plain rfl (st_move (v := .tuple ⟨[_, _, _]⟩) rfl ?_)
  refine w_plain rfl (st_extract (vs := [_, _, _]) (v := .slice _ _ _) rfl rfl ?_)
  refine w_plain rfl (st_extract (vs := [_, _, _]) (v := .int _ _) rfl rfl ?_)
  refine w_plain rfl (st_extract (vs := [_, _, _]) (v := .int _ _) rfl rfl ?_)
  refine w_plain rfl (st_assign (v := .slice _ _ _) rfl ?_)
  refine w_plain rfl (st_assign (v := .int _ _) rfl ?_)
  refine w_plain rfl (st_assign (v := .int _ _) rfl ?_)
  refine wops_nil ?_
  refine then_n ?_
  refine x_seq ?_
  refine x_region rfl ?_
  refine w_plain rfl (st_move (v := S _) rfl ?_)
  refine w_plain rfl (st_call (ags := [_]) rfl rfl T.ent13 rfl (RTokens_spec (L := L) s _ hL1 (by omega)) ?_)
  rintro _ w5 ⟨A2, cap2, rfl, ho2, c6⟩
  replace ho2 := ho2.mono (D' := fun k => w.heap.size ≤ k) (fun k _ h => by have := HC.size; omega)
  replace HC := HC.then c6
  replace ht := ht.tr0 c6
  replace ho1 := ho1.tr0 c6
  refine w_plain rfl (st_move (v := .tuple ⟨[_, _, _]⟩) rfl ?_)
  refine w_plain rfl (st_extract (vs := [_, _, _]) (v := .slice _ _ _) rfl rfl ?_)
  refine w_plain rfl (st_extract (vs := [_, _, _]) (v := .int _ _) rfl rfl ?_)
  refine w_plain rfl (st_extract (vs := [_, _, _]) (v := .int _ _) rfl rfl ?_)
  refine w_plain rfl (st_assign (v := .slice _ _ _) rfl ?_)
  refine w_plain rfl (st_assign (v := .int _ _) rfl ?_)
  refine w_plain rfl (st_assign (v := .int _ _) rfl ?_)
  refine wops_nil ?_
  refine then_n ?_
  refine x_seq ?_
  refine x_region rfl ?_
  refine w_plain rfl (st_move (v := S _) rfl ?_)
  refine w_plain rfl (st_call (ags := [_]) rfl rfl T.ent14 rfl (Constant_spec s _ hs) ?_)
  rintro _ w7 ⟨rfl, c8⟩
  replace HC := HC.then c8
  replace ht := ht.tr0 c8
  replace ho1 := ho1.tr0 c8
  replace ho2 := ho2.tr0 c8
  refine w_plain rfl (st_move (v := .tuple ⟨[_, _]⟩) rfl ?_)
  refine w_plain rfl (st_extract (vs := [_, _]) (v := .int _ _) rfl rfl ?_)
  refine w_plain rfl (st_extract (vs := [_, _]) (v := .bool _) rfl rfl ?_)
  refine w_plain rfl (st_assign (v := .int _ _) rfl ?_)
  refine w_plain rfl (st_assign (v := .bool _) rfl ?_)
  refine wops_nil ?_
  refine then_n ?_
  refine x_seq ?_
  refine x_region rfl ?_
  refine w_plain rfl (st_move (v := S _) rfl ?_)
  refine w_plain rfl (st_call (ags := [_]) rfl rfl T.ent15 rfl (RConstant_spec s _ hs) ?_)
  rintro _ w9 ⟨rfl, c10⟩
  replace HC := HC.then c10
  replace ht := ht.tr0 c10
  replace ho1 := ho1.tr0 c10
  replace ho2 := ho2.tr0 c10
  refine w_plain rfl (st_move (v := .tuple ⟨[_, _]⟩) rfl ?_)
  refine w_plain rfl (st_extract (vs := [_, _]) (v := .int _ _) rfl rfl ?_)
  refine w_plain rfl (st_extract (vs := [_, _]) (v := .bool _) rfl rfl ?_)
  refine w_plain rfl (st_assign (v := .int _ _) rfl ?_)
  refine w_plain rfl (st_assign (v := .bool _) rfl ?_)
  refine wops_nil ?_
  refine then_n ?_
  refine x_seq ?_
  refine x_region rfl ?_
  refine w_plain rfl (st_move (v := .slice _ _ _) rfl ?_)
  refine w_plain rfl (st_move (v := .slice _ _ _) rfl ?_)
  refine w_plain rfl (st_call (ags := [_, _]) rfl rfl T.ent16 rfl (RSame_spec ho1.sl ho2.sl (by have := ho1.le; omega)) ?_)
  rintro _ w11 ⟨rfl, c12⟩
  replace HC := HC.then c12
  replace ht := ht.tr0 c12
  replace ho1 := ho1.tr0 c12
  replace ho2 := ho2.tr0 c12
  refine w_plain rfl (st_move (v := .bool _) rfl ?_)
  refine w_split (d := 42) rfl (fun g13 => ?_) (fun g13 => ?_)
  ·skip
   try simp only [nm, ne_eq] at g13
   refine w_yes 3 42 true (st_move (v := .int _ _) rfl ?_)
   refine w_yes 3 42 true (st_move (v := .int _ _) rfl ?_)
   refine w_yes 3 42 true (st_eql rfl rfl ?_)
   refine w_plain rfl (st_pick (b := true) (v := .bool _) rfl rfl ?_)
   refine w_plain rfl (st_move (v := .bool _) rfl ?_)
   refine w_split (d := 47) rfl (fun g14 => ?_) (fun g14 => ?_)
   ·skip
    try simp only [nm, ne_eq] at g14
    refine w_yes 8 47 true (st_move (v := .int _ _) rfl ?_)
    refine w_yes 8 47 true (st_move (v := .int _ _) rfl ?_)
    refine w_yes 8 47 true (st_eql rfl rfl ?_)
    refine w_plain rfl (st_pick (b := true) (v := .bool _) rfl rfl ?_)
    refine w_plain rfl (st_move (v := .bool _) rfl ?_)
    refine w_split (d := 52) rfl (fun g15 => ?_) (fun g15 => ?_)
    ·skip
     try simp only [nm, ne_eq] at g15
     refine w_yes 13 52 true (st_move (v := .int _ _) rfl ?_)
     refine w_yes 13 52 true (st_move (v := .int _ _) rfl ?_)
     refine w_yes 13 52 true (st_eql rfl rfl ?_)
     refine w_plain rfl (st_pick (b := true) (v := .bool _) rfl rfl ?_)
     refine w_plain rfl (st_move (v := .bool _) rfl ?_)
     refine w_split (d := 57) rfl (fun g16 => ?_) (fun g16 => ?_)
     ·skip
      try simp only [nm, ne_eq] at g16
      refine w_yes 18 57 true (st_move (v := .bool _) rfl ?_)
      refine w_yes 18 57 true (st_move (v := .bool _) rfl ?_)
      refine w_yes 18 57 true (st_beql T.u4 rfl rfl ?_)
      refine w_plain rfl (st_pick (b := true) (v := .bool _) rfl rfl ?_)
      refine w_plain rfl (st_move (v := .bool _) rfl ?_)
      refine w_split (d := 62) rfl (fun g17 => ?_) (fun g17 => ?_)
      ·skip
       try simp only [nm, ne_eq] at g17
       refine w_yes 23 62 true (st_move (v := .slice _ _ _) rfl ?_)
       refine w_yes 23 62 true (st_move (v := .slice _ _ _) rfl ?_)
       refine w_yes 23 62 true (st_call (ags := [_, _]) rfl rfl T.ent17 rfl (Same_spec ho1.sl ho2.sl (by have := ho1.le; omega)) ?_)
       rintro _ w18 ⟨rfl, c19⟩
       replace HC := HC.then c19
       replace ht := ht.tr0 c19
       replace ho1 := ho1.tr0 c19
       replace ho2 := ho2.tr0 c19
       refine w_plain rfl (st_pick (b := true) (v := .bool _) rfl rfl ?_)
       refine w_plain rfl (st_move (v := .bool _) rfl ?_)
       refine w_split (d := 67) rfl (fun g20 => ?_) (fun g20 => ?_)
       ·skip
        try simp only [nm, ne_eq] at g20
        refine w_yes 28 67 true (st_call (ags := []) rfl rfl T.ent11 rfl (awake_spec _ ht) ?_)
        rintro _ w21 ⟨rfl, c22⟩
        replace HC := HC.then c22
        replace ht := ht.tr0 c22
        replace ho1 := ho1.tr0 c22
        replace ho2 := ho2.tr0 c22
        refine w_plain rfl (st_pick (b := true) (v := .bool _) rfl rfl ?_)
        refine w_plain rfl (st_assign (v := .bool _) rfl ?_)
        refine wops_nil ?_
        refine then_n ?_
        refine x_ret ?_
        refine ret_tmp (v := .bool _) rfl rfl ?_
        exact ⟨rfl, HC⟩
       ·skip
        try simp only [nm, ne_eq] at g20
        simp at g20
      ·skip
       try simp only [nm, ne_eq] at g17
       simp at g17
     ·skip
      try simp only [nm, ne_eq] at g16
      simp at g16
    ·skip
     try simp only [nm, ne_eq] at g15
     simp at g15
   ·skip
    try simp only [nm, ne_eq] at g14
    simp at g14
  ·skip
   try simp only [nm, ne_eq] at g13
   simp at g13

end Go.Proofs.YtcgcbpknbjafcaaDoor.K
