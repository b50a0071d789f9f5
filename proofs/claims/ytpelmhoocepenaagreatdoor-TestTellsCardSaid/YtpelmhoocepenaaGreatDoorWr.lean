import Derived.Test.YtpelmhoocepenaaGreatDoorWp
set_option linter.unusedVariables false
set_option linter.unusedSimpArgs false
set_option autoImplicit false
set_option maxRecDepth 20000
namespace Go.Proofs.YtpelmhoocepenaaGreatDoor.K
open Go Go.Proofs Go.RowKit

theorem chunks_flat {α : Type} {sz : Nat} {f : α → List Value} {h1 h2 h3} {w : World} {D : Nat → Prop} : ∀ xs : List α, Chunks (Enc.flat sz f h1 h2 h3) w D xs (xs.flatMap f)
  | [] => .nil
  | x :: xs => by rw [List.flatMap_cons]; exact Chunks.cons rfl (chunks_flat xs)
theorem sl_lit {α : Type} {sz : Nat} {f : α → List Value} {h1 h2 h3} {w : World} {b : Nat} {T' : TypeId} (xs : List α) (hm : xs.length ≤ 9223372036854775807) (h : Blk w b (xs.flatMap f) T') : Sl (Enc.flat sz f h1 h2 h3) w (fun k => k = b) (some ⟨b, 0, none⟩) xs :=
  (Own.of_blk (D := fun k => k = b) h rfl hm (chunks_flat xs)).sl
theorem newSl {w : World} {bn : Nat} (h : Blk w bn [.int .i64 2, .int .i64 7, .int .i64 0, S [], .slice none 0 0, .int .i64 0] 44) : Sl inE w (fun k => k = bn) (some ⟨bn, 0, none⟩) newZ :=
  Sl.of_one (c := inE) (x := (⟨2, 7, 0, [], [], 0⟩ : Ino)) h ⟨none, 0, rfl, Nat.le_refl _, by decide, Sl.nil⟩ rfl
theorem aw_1 : testV newZ 0 [[97], [61], [98]] = 1 := by kernel_rfl
theorem aw_2 : testV newZ 0 [[33], [97], [61], [98]] = 0 := by kernel_rfl
theorem aw_3 : testV newZ 0 [[45, 100], [47]] = 0 := by kernel_rfl
theorem aw_4 : testV newZ 0 [[51], [45, 108, 116], [120]] = 2 := by kernel_rfl
theorem aw_5 : testV newZ 0 [] = 1 := rfl
set_option maxHeartbeats 800000 in
theorem awake24_spec {w : World} (hmx : MaxT w) (ht : Tab w) : CallR Tryz.prog 5 #[] w fun v w' => v = .bool true ∧ Chg [] w w' := by
 refine callR_of_wp (args := []) Tryz.func5 rfl (Nat.le_of_ble_eq_true rfl) ?_
 have HC : Chg [] w w := .refl _
 have hm1 := hmx.lt
 have ht1 := ht.lt
 refine sr rfl <| aB rfl <| en <| sr rfl <| Wp rfl <| st_call (ags := [_, _]) rfl rfl T.ent11 rfl (New_spec _) ?_
 rintro _ w1 ⟨⟨bn, rfl, hgn, hbn⟩, c2⟩
 have ge_bn : w.heap.size ≤ bn := Nat.le_trans HC.size hgn
 replace HC := HC.then c2
 replace hmx := hmx.tr0 c2
 replace ht := ht.tr0 c2
 refine mv (v := .tuple ⟨[_, _]⟩) rfl <| Wp rfl <| st_extract (vs := [_, _]) (v := .agg ⟨[.slice _ _ _, .int _ _, .int _ _]⟩) rfl rfl <| Wp rfl <| st_extract (vs := [_, _]) (v := .int _ _) rfl rfl <| Wp rfl <| st_alloc T.zero24 ?_
 intro b1 w3 e4 c5 hb6
 have ge_b1 : w.heap.size ≤ b1 := by rw [e4]; exact HC.size
 have ne_bn_b1 : bn ≠ b1 := by rw [e4]; exact hbn.ne_size
 replace HC := HC.then c5
 replace hmx := hmx.tr0 c5
 replace ht := ht.tr0 c5
 replace hbn := hbn.tr0 c5
 clear e4
 refine Wp rfl <| st_store (v := .agg ⟨[.slice _ _ _, .int _ _, .int _ _]⟩) T.size24 rfl rfl rfl hb6 rfl (Nat.le_of_ble_eq_true rfl) (by simp [Value.oneCell', S]) rfl ?_
 intro w7 c8 hb9; simp only [setVs, setV] at hb9
 clear hb6
 replace HC := HC.then1 c8 ge_b1
 replace hmx := hmx.tr c8 (by intro hx; simp only [List.mem_cons, List.mem_nil_iff, or_false] at hx; omega)
 replace ht := ht.tr c8 (by intro hx; have := ht.lt; have := ht1; simp only [List.mem_cons, List.mem_nil_iff, or_false] at hx; omega)
 replace hbn := hbn.tr1 c8 ne_bn_b1
 refine aI rfl <| en <| sr rfl <| Wp rfl <| st_loadA (vs := [_, _, _]) T.agg24 rfl (hb9.cells (n := 3) (vs := [_, _, _]) rfl) rfl <| Wp rfl <| st_lit (ps := [(0, .const (S [97])), (1, .const (S [61])), (2, .const (S [98]))]) (vs := [S _, S _, S _]) T.lit25 (by decide) rfl (by simp only [List.forall_mem_cons, List.not_mem_nil, false_imp_iff, implies_true, and_true]; exact ⟨rfl, rfl, rfl⟩) rfl ?_
 intro b10 w11 e12 c13 hb14
 have ge_b10 : w.heap.size ≤ b10 := by rw [e12]; exact HC.size
 have ne_bn_b10 : bn ≠ b10 := by rw [e12]; exact hbn.ne_size
 have ne_b1_b10 : b1 ≠ b10 := by rw [e12]; exact hb9.ne_size
 replace HC := HC.then c13
 replace hmx := hmx.tr0 c13
 replace ht := ht.tr0 c13
 replace hbn := hbn.tr0 c13
 replace hb9 := hb9.tr0 c13
 clear e12
 refine Wp rfl <| st_call (ags := [_, _, _]) rfl rfl T.ent6 rfl (test3_spec (Z := newZ) (newSl hbn) (by decide) newZ_fit (a := [97]) (b := [61]) (d := [98]) (sl_lit (f := fun s : Bytes => [S s]) [[97], [61], [98]] (by simp) hb14) (Nat.le_refl _) hmx ht (by simp) (by simp) (by simp)) ?_
 rintro vT1 w15 ⟨hvT, c16⟩
 rw [aw_1] at hvT
 subst hvT
 replace HC := HC.then c16
 replace hmx := hmx.tr0 c16
 replace ht := ht.tr0 c16
 replace hbn := hbn.tr0 c16
 replace hb9 := hb9.tr0 c16
 replace hb14 := hb14.tr0 c16
 refine Wp rfl <| st_eql rfl rfl <| mB rfl <| w_split (d := 11) rfl (fun g17 => ?_) (fun g17 => ?_)
 ·try simp only [nm, ne_eq] at g17
  refine w_yes 4 11 true <| st_loadA (vs := [_, _, _]) T.agg24 rfl (hb9.cells (n := 3) (vs := [_, _, _]) rfl) rfl <| w_yes 4 11 true <| st_lit (ps := [(0, .const (S [33])), (1, .const (S [97])), (2, .const (S [61])), (3, .const (S [98]))]) (vs := [S _, S _, S _, S _]) T.lit25 (by decide) rfl (by simp only [List.forall_mem_cons, List.not_mem_nil, false_imp_iff, implies_true, and_true]; exact ⟨rfl, rfl, rfl, rfl⟩) rfl ?_
  intro b18 w19 e20 c21 hb22
  have ge_b18 : w.heap.size ≤ b18 := by rw [e20]; exact HC.size
  have ne_bn_b18 : bn ≠ b18 := by rw [e20]; exact hbn.ne_size
  have ne_b1_b18 : b1 ≠ b18 := by rw [e20]; exact hb9.ne_size
  have ne_b10_b18 : b10 ≠ b18 := by rw [e20]; exact hb14.ne_size
  replace HC := HC.then c21
  replace hmx := hmx.tr0 c21
  replace ht := ht.tr0 c21
  replace hbn := hbn.tr0 c21
  replace hb9 := hb9.tr0 c21
  replace hb14 := hb14.tr0 c21
  clear e20
  refine w_yes 4 11 true <| st_call (ags := [_, _, _]) rfl rfl T.ent6 rfl (test4_spec (Z := newZ) (newSl hbn) (by decide) newZ_fit (a := [33]) (b := [97]) (d := [61]) (e := [98]) (sl_lit (f := fun s : Bytes => [S s]) [[33], [97], [61], [98]] (by simp) hb22) (Nat.le_refl _) hmx ht (by simp) (by simp) (by simp) (by simp)) ?_
  rintro vT2 w23 ⟨hvT, c24⟩
  rw [aw_2] at hvT
  subst hvT
  replace HC := HC.then c24
  replace hmx := hmx.tr0 c24
  replace ht := ht.tr0 c24
  replace hbn := hbn.tr0 c24
  replace hb9 := hb9.tr0 c24
  replace hb14 := hb14.tr0 c24
  replace hb22 := hb22.tr0 c24
  refine w_yes 4 11 true <| st_eql rfl rfl <| pT rfl rfl <| mB rfl <| w_split (d := 17) rfl (fun g25 => ?_) (fun g25 => ?_)
  ·try simp only [nm, ne_eq] at g25
   refine w_yes 10 17 true <| st_loadA (vs := [_, _, _]) T.agg24 rfl (hb9.cells (n := 3) (vs := [_, _, _]) rfl) rfl <| w_yes 10 17 true <| st_lit (ps := [(0, .const (S [45, 100])), (1, .const (S [47]))]) (vs := [S _, S _]) T.lit25 (by decide) rfl (by simp only [List.forall_mem_cons, List.not_mem_nil, false_imp_iff, implies_true, and_true]; exact ⟨rfl, rfl⟩) rfl ?_
   intro b26 w27 e28 c29 hb30
   have ge_b26 : w.heap.size ≤ b26 := by rw [e28]; exact HC.size
   have ne_bn_b26 : bn ≠ b26 := by rw [e28]; exact hbn.ne_size
   have ne_b1_b26 : b1 ≠ b26 := by rw [e28]; exact hb9.ne_size
   have ne_b10_b26 : b10 ≠ b26 := by rw [e28]; exact hb14.ne_size
   have ne_b18_b26 : b18 ≠ b26 := by rw [e28]; exact hb22.ne_size
   replace HC := HC.then c29
   replace hmx := hmx.tr0 c29
   replace ht := ht.tr0 c29
   replace hbn := hbn.tr0 c29
   replace hb9 := hb9.tr0 c29
   replace hb14 := hb14.tr0 c29
   replace hb22 := hb22.tr0 c29
   clear e28
   refine w_yes 10 17 true <| st_call (ags := [_, _, _]) rfl rfl T.ent6 rfl (test2_spec (Z := newZ) (newSl hbn) (by decide) newZ_fit (a := [45, 100]) (b := [47]) (sl_lit (f := fun s : Bytes => [S s]) [[45, 100], [47]] (by simp) hb30) (Nat.le_refl _) hmx ht (by simp) (by simp)) ?_
   rintro vT3 w31 ⟨hvT, c32⟩
   rw [aw_3] at hvT
   subst hvT
   replace HC := HC.then c32
   replace hmx := hmx.tr0 c32
   replace ht := ht.tr0 c32
   replace hbn := hbn.tr0 c32
   replace hb9 := hb9.tr0 c32
   replace hb14 := hb14.tr0 c32
   replace hb22 := hb22.tr0 c32
   replace hb30 := hb30.tr0 c32
   refine w_yes 10 17 true <| st_eql rfl rfl <| pT rfl rfl <| mB rfl <| w_split (d := 23) rfl (fun g33 => ?_) (fun g33 => ?_)
   ·try simp only [nm, ne_eq] at g33
    refine w_yes 16 23 true <| st_loadA (vs := [_, _, _]) T.agg24 rfl (hb9.cells (n := 3) (vs := [_, _, _]) rfl) rfl <| w_yes 16 23 true <| st_lit (ps := [(0, .const (S [51])), (1, .const (S [45, 108, 116])), (2, .const (S [120]))]) (vs := [S _, S _, S _]) T.lit25 (by decide) rfl (by simp only [List.forall_mem_cons, List.not_mem_nil, false_imp_iff, implies_true, and_true]; exact ⟨rfl, rfl, rfl⟩) rfl ?_
    intro b34 w35 e36 c37 hb38
    have ge_b34 : w.heap.size ≤ b34 := by rw [e36]; exact HC.size
    have ne_bn_b34 : bn ≠ b34 := by rw [e36]; exact hbn.ne_size
    have ne_b1_b34 : b1 ≠ b34 := by rw [e36]; exact hb9.ne_size
    have ne_b10_b34 : b10 ≠ b34 := by rw [e36]; exact hb14.ne_size
    have ne_b18_b34 : b18 ≠ b34 := by rw [e36]; exact hb22.ne_size
    have ne_b26_b34 : b26 ≠ b34 := by rw [e36]; exact hb30.ne_size
    replace HC := HC.then c37
    replace hmx := hmx.tr0 c37
    replace ht := ht.tr0 c37
    replace hbn := hbn.tr0 c37
    replace hb9 := hb9.tr0 c37
    replace hb14 := hb14.tr0 c37
    replace hb22 := hb22.tr0 c37
    replace hb30 := hb30.tr0 c37
    clear e36
    refine w_yes 16 23 true <| st_call (ags := [_, _, _]) rfl rfl T.ent6 rfl (test3_spec (Z := newZ) (newSl hbn) (by decide) newZ_fit (a := [51]) (b := [45, 108, 116]) (d := [120]) (sl_lit (f := fun s : Bytes => [S s]) [[51], [45, 108, 116], [120]] (by simp) hb38) (Nat.le_refl _) hmx ht (by simp) (by simp) (by simp)) ?_
    rintro vT4 w39 ⟨hvT, c40⟩
    rw [aw_4] at hvT
    subst hvT
    replace HC := HC.then c40
    replace hmx := hmx.tr0 c40
    replace ht := ht.tr0 c40
    replace hbn := hbn.tr0 c40
    replace hb9 := hb9.tr0 c40
    replace hb14 := hb14.tr0 c40
    replace hb22 := hb22.tr0 c40
    replace hb30 := hb30.tr0 c40
    replace hb38 := hb38.tr0 c40
    refine w_yes 16 23 true <| st_eql rfl rfl <| pT rfl rfl <| mB rfl <| w_split (d := 29) rfl (fun g41 => ?_) (fun g41 => ?_)
    ·try simp only [nm, ne_eq] at g41
     refine w_yes 22 29 true <| st_loadA (vs := [_, _, _]) T.agg24 rfl (hb9.cells (n := 3) (vs := [_, _, _]) rfl) rfl <| w_yes 22 29 true <| st_call (ags := [_, _, _]) rfl rfl T.ent6 rfl (test0_spec (Z := newZ) (newSl hbn) (by decide) newZ_fit hmx ht) ?_
     rintro vT5 w42 ⟨hvT, c43⟩
     rw [aw_5] at hvT
     subst hvT
     replace HC := HC.then c43
     replace hmx := hmx.tr0 c43
     replace ht := ht.tr0 c43
     replace hbn := hbn.tr0 c43
     replace hb9 := hb9.tr0 c43
     replace hb14 := hb14.tr0 c43
     replace hb22 := hb22.tr0 c43
     replace hb30 := hb30.tr0 c43
     replace hb38 := hb38.tr0 c43
     refine w_yes 22 29 true <| st_eql rfl rfl <| pT rfl rfl <| aB rfl <| en <| x_ret <| ret_tmp (v := .bool _) rfl rfl ?_
     exact ⟨rfl, HC⟩
    ·try simp only [nm, ne_eq] at g41
     first | exact absurd rfl g41 | exact absurd trivial g41 | (simp at g41; done)
   ·try simp only [nm, ne_eq] at g33
    first | exact absurd rfl g33 | exact absurd trivial g33 | (simp at g33; done)
  ·try simp only [nm, ne_eq] at g25
   first | exact absurd rfl g25 | exact absurd trivial g25 | (simp at g25; done)
 ·try simp only [nm, ne_eq] at g17
  first | exact absurd rfl g17 | exact absurd trivial g17 | (simp at g17; done)

theorem bm_lt (c : Int) : bmapV c [45, 108, 116] = decide (c < 0) := rfl
theorem bm_eq (c : Int) : bmapV c [45, 101, 113] = decide (c = 0) := rfl
theorem bm_gt (c : Int) : bmapV c [45, 103, 116] = decide (0 < c) := rfl
theorem bm_ne (c : Int) : bmapV c [45, 110, 101] = !decide (c = 0) := rfl
theorem bm_le (c : Int) : bmapV c [45, 108, 101] = decide (c ≤ 0) := rfl
theorem bm_ge (c : Int) : bmapV c [45, 103, 101] = decide (0 ≤ c) := rfl
theorem tell_lt (a b : Int) : truN (bmapV (Lib.compareInt a b) [45, 108, 116]) = if a < b then 0 else 1 := by rw [bm_lt]; unfold truN Lib.compareInt; (repeat' split) <;> simp_all <;> omega
theorem tell_eq (a b : Int) : truN (bmapV (Lib.compareInt a b) [45, 101, 113]) = if a = b then 0 else 1 := by rw [bm_eq]; unfold truN Lib.compareInt; (repeat' split) <;> simp_all <;> omega
theorem tell_gt (a b : Int) : truN (bmapV (Lib.compareInt a b) [45, 103, 116]) = if b < a then 0 else 1 := by rw [bm_gt]; unfold truN Lib.compareInt; (repeat' split) <;> simp_all <;> omega
theorem tell_ne (a b : Int) : truN (bmapV (Lib.compareInt a b) [45, 110, 101]) = if a = b then 1 else 0 := by rw [bm_ne]; unfold truN Lib.compareInt; (repeat' split) <;> simp_all <;> omega
theorem tell_le (a b : Int) : truN (bmapV (Lib.compareInt a b) [45, 108, 101]) = if a ≤ b then 0 else 1 := by rw [bm_le]; unfold truN Lib.compareInt; (repeat' split) <;> simp_all <;> omega
theorem tell_ge (a b : Int) : truN (bmapV (Lib.compareInt a b) [45, 103, 101]) = if b ≤ a then 0 else 1 := by rw [bm_ge]; unfold truN Lib.compareInt; (repeat' split) <;> simp_all <;> omega

end Go.Proofs.YtpelmhoocepenaaGreatDoor.K
set_option linter.unusedVariables false
set_option linter.unusedSimpArgs false
set_option autoImplicit false
set_option maxRecDepth 20000
namespace Go.Proofs.YtpelmhoocepenaaGreatDoor.K
open Go Go.Proofs Go.RowKit

theorem r_sliceTo {P : Program} {E : Env} {w : World} {dst : Option Nat} {ty : TypeId} {pos : String} {af : Array Edge} {g : Option (Nat × Bool)} {t e : TypeId} {x y : Operand} {b o m c sz j : Nat} (ht : P.underlying t = some (.slice e)) (hs : sizeB P e sz = true) (hx : ev E x = .slice (some ⟨b, o, none⟩) m c)
    (hhi : ∃ k, ev E y = .int k (j : Int)) (h1 : j ≤ c) :
    (execOp (ev E) ⟨dst, .slice t x none (some y) none, ty, pos, af, g⟩).run P w = .ok (.value (.slice (some ⟨b, o, none⟩) j c)) w := by
  rw [r_slice (lo := none) (hi := some y) (i := 0) (j := j) ht hs hx rfl hhi (Nat.zero_le _) h1]
  have h : (if c = 0 then some (⟨b, o, none⟩ : Addr) else (some (⟨b, o, none⟩ : Addr)).map (·.add (0 * sz))) = some ⟨b, o, none⟩ := by
    split
    · rfl
    · rw [Nat.zero_mul, Option.map_some, Addr.add_lit]; rfl
  rw [h]; rfl
theorem sl_pre {w : World} {D : Nat → Prop} {A : Option Addr} {l r : List Bytes} (h : Sl sE w D A (l ++ r)) : Sl sE w D A l := by
  have h2 := h.take l.length; rwa [List.take_left] at h2

end Go.Proofs.YtpelmhoocepenaaGreatDoor.K
