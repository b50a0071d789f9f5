import Derived.Test.YtpelmhoocepenaaDoorWp
set_option linter.unusedVariables false
set_option linter.unusedSimpArgs false
set_option autoImplicit false
set_option maxRecDepth 20000
namespace Go.Proofs.YtpelmhoocepenaaDoor.K
open Go Go.Proofs Go.RowKit

theorem chunks_flat {α : Type} {sz : Nat} {f : α → List Value} {h1 h2 h3} {w : World} {D : Nat → Prop} : ∀ xs : List α, Chunks (Enc.flat sz f h1 h2 h3) w D xs (xs.flatMap f)
  | [] => .nil
  | x :: xs => by rw [List.flatMap_cons]; exact Chunks.cons rfl (chunks_flat xs)
theorem sl_lit {α : Type} {sz : Nat} {f : α → List Value} {h1 h2 h3} {w : World} {b : Nat} {T' : TypeId} (xs : List α) (hm : xs.length ≤ 9223372036854775807) (h : Blk w b (xs.flatMap f) T') : Sl (Enc.flat sz f h1 h2 h3) w (fun k => k = b) (some ⟨b, 0, none⟩) xs :=
  (Own.of_blk (D := fun k => k = b) h rfl hm (chunks_flat xs)).sl
theorem newSl {w : World} {bn : Nat} (h : Blk w bn [.int .i64 2, .int .i64 7, .int .i64 0, S [], .slice none 0 0, .int .i64 0] 39) : Sl inE w (fun k => k = bn) (some ⟨bn, 0, none⟩) newZ :=
  Sl.of_one (c := inE) (x := (⟨2, 7, 0, [], [], 0⟩ : Ino)) h ⟨none, 0, rfl, Nat.le_refl _, by decide, Sl.nil⟩ rfl
theorem aw_1 : testV newZ 0 [[97], [61], [98]] = 1 := by kernel_rfl
theorem aw_2 : testV newZ 0 [[33], [97], [61], [98]] = 0 := by kernel_rfl
theorem aw_3 : testV newZ 0 [[45, 100], [47]] = 0 := by kernel_rfl
theorem aw_4 : testV newZ 0 [[51], [45, 108, 116], [120]] = 2 := by kernel_rfl
theorem aw_5 : testV newZ 0 [] = 1 := rfl
set_option maxHeartbeats 800000 in
theorem awake24_spec {w : World} (hmx : MaxT w) (ht : Tab w) : CallR Tryd.prog 10 #[] w fun v w' => v = .bool true ∧ Chg [] w w' := by
 refine callR_of_wp (args := []) Tryd.func10 rfl (Nat.le_of_ble_eq_true rfl) ?_
 have HC : Chg [] w w := .refl _
 have hm1 := hmx.lt
 have ht1 := ht.lt
 refine sr rfl <| aB rfl <| en <| sr rfl <| Wp rfl <| st_call (ags := [_, _]) rfl rfl T.ent6 rfl (New_spec _) ?_
 rintro _ w1 ⟨⟨bn, rfl, hgn, hbn⟩, c2⟩
 have ge_bn : w.heap.size ≤ bn := Nat.le_trans HC.size hgn
 replace HC := HC.then c2
 replace hmx := hmx.tr0 c2
 replace ht := ht.tr0 c2
 refine mv (v := .tuple ⟨[_, _]⟩) rfl <| Wp rfl <| st_extract (vs := [_, _]) (v := .agg ⟨[.slice _ _ _, .int _ _, .int _ _]⟩) rfl rfl <| Wp rfl <| st_extract (vs := [_, _]) (v := .int _ _) rfl rfl <| Wp rfl <| st_alloc T.zero24 ?_
 intro b1 w3 e4 c5 hb6
 have ge_b1 : w.heap.size ≤ b1 := by rw [e4]; exact HC.size
 have ne_bn_b1 : bn ≠ b1 := by rw [e4]; exact hbn.ne_size
 replace HC := HC.then c5
 replace hmx := hmx.tr0 c5
 replace ht := ht.tr0 c5
 replace hbn := hbn.tr0 c5
 clear e4
 refine Wp rfl <| st_store (v := .agg ⟨[.slice _ _ _, .int _ _, .int _ _]⟩) T.size24 rfl rfl rfl hb6 rfl (Nat.le_of_ble_eq_true rfl) (by simp [Value.oneCell', S]) rfl ?_
 intro w7 c8 hb9; simp only [setVs, setV] at hb9
 clear hb6
 replace HC := HC.then1 c8 ge_b1
 replace hmx := hmx.tr c8 (by intro hx; simp only [List.mem_cons, List.mem_nil_iff, or_false] at hx; omega)
 replace ht := ht.tr c8 (by intro hx; have := ht.lt; have := ht1; simp only [List.mem_cons, List.mem_nil_iff, or_false] at hx; omega)
 replace hbn := hbn.tr1 c8 ne_bn_b1
 refine aI rfl <| en <| sr rfl <| Wp rfl <| st_loadA (vs := [_, _, _]) T.agg24 rfl (hb9.cells (n := 3) (vs := [_, _, _]) rfl) rfl <| Wp rfl <| st_lit (ps := [(0, .const (S [97])), (1, .const (S [61])), (2, .const (S [98]))]) (vs := [S _, S _, S _]) T.lit29 (by decide) rfl (by simp only [List.forall_mem_cons, List.not_mem_nil, false_imp_iff, implies_true, and_true]; exact ⟨rfl, rfl, rfl⟩) rfl ?_
 intro b10 w11 e12 c13 hb14
 have ge_b10 : w.heap.size ≤ b10 := by rw [e12]; exact HC.size
 have ne_bn_b10 : bn ≠ b10 := by rw [e12]; exact hbn.ne_size
 have ne_b1_b10 : b1 ≠ b10 := by rw [e12]; exact hb9.ne_size
 replace HC := HC.then c13
 replace hmx := hmx.tr0 c13
 replace ht := ht.tr0 c13
 replace hbn := hbn.tr0 c13
 replace hb9 := hb9.tr0 c13
 clear e12
 refine Wp rfl <| st_call (ags := [_, _, _]) rfl rfl T.ent8 rfl (test3_spec (Z := newZ) (newSl hbn) (by decide) newZ_fit (a := [97]) (b := [61]) (d := [98]) (sl_lit (f := fun s : Bytes => [S s]) [[97], [61], [98]] (by simp) hb14) (Nat.le_refl _) hmx ht (by simp) (by simp) (by simp)) ?_
 rintro vT1 w15 ⟨hvT, c16⟩
 rw [aw_1] at hvT
 subst hvT
 replace HC := HC.then c16
 replace hmx := hmx.tr0 c16
 replace ht := ht.tr0 c16
 replace hbn := hbn.tr0 c16
 replace hb9 := hb9.tr0 c16
 replace hb14 := hb14.tr0 c16
 refine Wp rfl <| st_eql rfl rfl <| mB rfl <| w_split (d := 11) rfl (fun g17 => ?_) (fun g17 => ?_)
 ·try simp only [nm, ne_eq] at g17
  refine w_yes 4 11 true <| st_loadA (vs := [_, _, _]) T.agg24 rfl (hb9.cells (n := 3) (vs := [_, _, _]) rfl) rfl <| w_yes 4 11 true <| st_lit (ps := [(0, .const (S [33])), (1, .const (S [97])), (2, .const (S [61])), (3, .const (S [98]))]) (vs := [S _, S _, S _, S _]) T.lit29 (by decide) rfl (by simp only [List.forall_mem_cons, List.not_mem_nil, false_imp_iff, implies_true, and_true]; exact ⟨rfl, rfl, rfl, rfl⟩) rfl ?_
  intro b18 w19 e20 c21 hb22
  have ge_b18 : w.heap.size ≤ b18 := by rw [e20]; exact HC.size
  have ne_bn_b18 : bn ≠ b18 := by rw [e20]; exact hbn.ne_size
  have ne_b1_b18 : b1 ≠ b18 := by rw [e20]; exact hb9.ne_size
  have ne_b10_b18 : b10 ≠ b18 := by rw [e20]; exact hb14.ne_size
  replace HC := HC.then c21
  replace hmx := hmx.tr0 c21
  replace ht := ht.tr0 c21
  replace hbn := hbn.tr0 c21
  replace hb9 := hb9.tr0 c21
  replace hb14 := hb14.tr0 c21
  clear e20
  refine w_yes 4 11 true <| st_call (ags := [_, _, _]) rfl rfl T.ent8 rfl (test4_spec (Z := newZ) (newSl hbn) (by decide) newZ_fit (a := [33]) (b := [97]) (d := [61]) (e := [98]) (sl_lit (f := fun s : Bytes => [S s]) [[33], [97], [61], [98]] (by simp) hb22) (Nat.le_refl _) hmx ht (by simp) (by simp) (by simp) (by simp)) ?_
  rintro vT2 w23 ⟨hvT, c24⟩
  rw [aw_2] at hvT
  subst hvT
  replace HC := HC.then c24
  replace hmx := hmx.tr0 c24
  replace ht := ht.tr0 c24
  replace hbn := hbn.tr0 c24
  replace hb9 := hb9.tr0 c24
  replace hb14 := hb14.tr0 c24
  replace hb22 := hb22.tr0 c24
  refine w_yes 4 11 true <| st_eql rfl rfl <| pT rfl rfl <| mB rfl <| w_split (d := 17) rfl (fun g25 => ?_) (fun g25 => ?_)
  ·try simp only [nm, ne_eq] at g25
   refine w_yes 10 17 true <| st_loadA (vs := [_, _, _]) T.agg24 rfl (hb9.cells (n := 3) (vs := [_, _, _]) rfl) rfl <| w_yes 10 17 true <| st_lit (ps := [(0, .const (S [45, 100])), (1, .const (S [47]))]) (vs := [S _, S _]) T.lit29 (by decide) rfl (by simp only [List.forall_mem_cons, List.not_mem_nil, false_imp_iff, implies_true, and_true]; exact ⟨rfl, rfl⟩) rfl ?_
   intro b26 w27 e28 c29 hb30
   have ge_b26 : w.heap.size ≤ b26 := by rw [e28]; exact HC.size
   have ne_bn_b26 : bn ≠ b26 := by rw [e28]; exact hbn.ne_size
   have ne_b1_b26 : b1 ≠ b26 := by rw [e28]; exact hb9.ne_size
   have ne_b10_b26 : b10 ≠ b26 := by rw [e28]; exact hb14.ne_size
   have ne_b18_b26 : b18 ≠ b26 := by rw [e28]; exact hb22.ne_size
   replace HC := HC.then c29
   replace hmx := hmx.tr0 c29
   replace ht := ht.tr0 c29
   replace hbn := hbn.tr0 c29
   replace hb9 := hb9.tr0 c29
   replace hb14 := hb14.tr0 c29
   replace hb22 := hb22.tr0 c29
   clear e28
   refine w_yes 10 17 true <| st_call (ags := [_, _, _]) rfl rfl T.ent8 rfl (test2_spec (Z := newZ) (newSl hbn) (by decide) newZ_fit (a := [45, 100]) (b := [47]) (sl_lit (f := fun s : Bytes => [S s]) [[45, 100], [47]] (by simp) hb30) (Nat.le_refl _) hmx ht (by simp) (by simp)) ?_
   rintro vT3 w31 ⟨hvT, c32⟩
   rw [aw_3] at hvT
   subst hvT
   replace HC := HC.then c32
   replace hmx := hmx.tr0 c32
   replace ht := ht.tr0 c32
   replace hbn := hbn.tr0 c32
   replace hb9 := hb9.tr0 c32
   replace hb14 := hb14.tr0 c32
   replace hb22 := hb22.tr0 c32
   replace hb30 := hb30.tr0 c32
   refine w_yes 10 17 true <| st_eql rfl rfl <| pT rfl rfl <| mB rfl <| w_split (d := 23) rfl (fun g33 => ?_) (fun g33 => ?_)
   ·try simp only [nm, ne_eq] at g33
    refine w_yes 16 23 true <| st_loadA (vs := [_, _, _]) T.agg24 rfl (hb9.cells (n := 3) (vs := [_, _, _]) rfl) rfl <| w_yes 16 23 true <| st_lit (ps := [(0, .const (S [51])), (1, .const (S [45, 108, 116])), (2, .const (S [120]))]) (vs := [S _, S _, S _]) T.lit29 (by decide) rfl (by simp only [List.forall_mem_cons, List.not_mem_nil, false_imp_iff, implies_true, and_true]; exact ⟨rfl, rfl, rfl⟩) rfl ?_
    intro b34 w35 e36 c37 hb38
    have ge_b34 : w.heap.size ≤ b34 := by rw [e36]; exact HC.size
    have ne_bn_b34 : bn ≠ b34 := by rw [e36]; exact hbn.ne_size
    have ne_b1_b34 : b1 ≠ b34 := by rw [e36]; exact hb9.ne_size
    have ne_b10_b34 : b10 ≠ b34 := by rw [e36]; exact hb14.ne_size
    have ne_b18_b34 : b18 ≠ b34 := by rw [e36]; exact hb22.ne_size
    have ne_b26_b34 : b26 ≠ b34 := by rw [e36]; exact hb30.ne_size
    replace HC := HC.then c37
    replace hmx := hmx.tr0 c37
    replace ht := ht.tr0 c37
    replace hbn := hbn.tr0 c37
    replace hb9 := hb9.tr0 c37
    replace hb14 := hb14.tr0 c37
    replace hb22 := hb22.tr0 c37
    replace hb30 := hb30.tr0 c37
    clear e36
    refine w_yes 16 23 true <| st_call (ags := [_, _, _]) rfl rfl T.ent8 rfl (test3_spec (Z := newZ) (newSl hbn) (by decide) newZ_fit (a := [51]) (b := [45, 108, 116]) (d := [120]) (sl_lit (f := fun s : Bytes => [S s]) [[51], [45, 108, 116], [120]] (by simp) hb38) (Nat.le_refl _) hmx ht (by simp) (by simp) (by simp)) ?_
    rintro vT4 w39 ⟨hvT, c40⟩
    rw [aw_4] at hvT
    subst hvT
    replace HC := HC.then c40
    replace hmx := hmx.tr0 c40
    replace ht := ht.tr0 c40
    replace hbn := hbn.tr0 c40
    replace hb9 := hb9.tr0 c40
    replace hb14 := hb14.tr0 c40
    replace hb22 := hb22.tr0 c40
    replace hb30 := hb30.tr0 c40
    replace hb38 := hb38.tr0 c40
    refine w_yes 16 23 true <| st_eql rfl rfl <| pT rfl rfl <| mB rfl <| w_split (d := 29) rfl (fun g41 => ?_) (fun g41 => ?_)
    ·try simp only [nm, ne_eq] at g41
     refine w_yes 22 29 true <| st_loadA (vs := [_, _, _]) T.agg24 rfl (hb9.cells (n := 3) (vs := [_, _, _]) rfl) rfl <| w_yes 22 29 true <| st_call (ags := [_, _, _]) rfl rfl T.ent8 rfl (test0_spec (Z := newZ) (newSl hbn) (by decide) newZ_fit hmx ht) ?_
     rintro vT5 w42 ⟨hvT, c43⟩
     rw [aw_5] at hvT
     subst hvT
     replace HC := HC.then c43
     replace hmx := hmx.tr0 c43
     replace ht := ht.tr0 c43
     replace hbn := hbn.tr0 c43
     replace hb9 := hb9.tr0 c43
     replace hb14 := hb14.tr0 c43
     replace hb22 := hb22.tr0 c43
     replace hb30 := hb30.tr0 c43
     replace hb38 := hb38.tr0 c43
     refine w_yes 22 29 true <| st_eql rfl rfl <| pT rfl rfl <| aB rfl <| en <| x_ret <| ret_tmp (v := .bool _) rfl rfl ?_
     exact ⟨rfl, HC⟩
    ·try simp only [nm, ne_eq] at g41
     first | exact absurd rfl g41 | exact absurd trivial g41 | (simp at g41; done)
   ·try simp only [nm, ne_eq] at g33
    first | exact absurd rfl g33 | exact absurd trivial g33 | (simp at g33; done)
  ·try simp only [nm, ne_eq] at g25
   first | exact absurd rfl g25 | exact absurd trivial g25 | (simp at g25; done)
 ·try simp only [nm, ne_eq] at g17
  first | exact absurd rfl g17 | exact absurd trivial g17 | (simp at g17; done)

end Go.Proofs.YtpelmhoocepenaaDoor.K
set_option linter.unusedVariables false
set_option linter.unusedSimpArgs false
set_option autoImplicit false
set_option maxRecDepth 20000
namespace Go.Proofs.YtpelmhoocepenaaDoor.K
open Go Go.Proofs Go.RowKit

theorem r_sliceTo {P : Program} {E : Env} {w : World} {dst : Option Nat} {ty : TypeId} {pos : String} {af : Array Edge} {g : Option (Nat × Bool)} {t e : TypeId} {x y : Operand} {b o m c sz j : Nat} (ht : P.underlying t = some (.slice e)) (hs : sizeB P e sz = true) (hx : ev E x = .slice (some ⟨b, o, none⟩) m c)
    (hhi : ∃ k, ev E y = .int k (j : Int)) (h1 : j ≤ c) :
    (execOp (ev E) ⟨dst, .slice t x none (some y) none, ty, pos, af, g⟩).run P w = .ok (.value (.slice (some ⟨b, o, none⟩) j c)) w := by
  rw [r_slice (lo := none) (hi := some y) (i := 0) (j := j) ht hs hx rfl hhi (Nat.zero_le _) h1]
  have h : (if c = 0 then some (⟨b, o, none⟩ : Addr) else (some (⟨b, o, none⟩ : Addr)).map (·.add (0 * sz))) = some ⟨b, o, none⟩ := by
    split
    · rfl
    · rw [Nat.zero_mul, Option.map_some, Addr.add_lit]; rfl
  rw [h]; rfl
theorem sl_pre {w : World} {D : Nat → Prop} {A : Option Addr} {l r : List Bytes} (h : Sl sE w D A (l ++ r)) : Sl sE w D A l := by
  have h2 := h.take l.length; rwa [List.take_left] at h2

theorem Bracket_at {Z : Tre} {An : Option Addr} {capn : Nat} {mx my : Int} {cwd : Int} {D : Nat → Prop} {w : World} (hT : Sl inE w D An Z) (hTl : Z.length ≤ 1000000000) (hF : FitT Z) {bl ol c : Nat} {Dl : Nat → Prop} {l : List Bytes} (hl : Sl sE w Dl (some ⟨bl, ol, none⟩) (l ++ [[93]])) (hc : l.length < c) (hll : l.length ≤ 1000000) (hmx : MaxT w) (ht : Tab w) (hb : ∀ s, s ∈ l → s.length ≤ 140737488355328) : CallR Tryd.prog 13 #[.agg ⟨[.slice An Z.length capn, .int .i64 mx, .int .i64 my]⟩, .int .i64 cwd, .slice (some ⟨bl, ol, none⟩) (l.length + 1 : Nat) c] w fun v w' => v = .int .i64 (testV Z cwd l) ∧ Chg [] w w' := by
 replace hT := hT.mono (D' := fun k => k < w.heap.size) (fun k hk _ => hk)
 refine callR_of_wp (args := [_, _, _]) Tryd.func13 rfl (Nat.le_of_ble_eq_true rfl) ?_
 have HC : Chg [] w w := .refl _
 have hm1 := hmx.lt
 have ht1 := ht.lt
 have hlen : (l ++ [[(93 : UInt8)]]).length = l.length + 1 := by simp
 refine sr rfl <| Wp rfl <| st_box (v := .agg ⟨[.slice _ _ _, .int _ _, .int _ _]⟩) (vs := [_, _, _]) rfl rfl ?_
 intro b3 w1 e2 c3 hb4
 have ge_b3 : w.heap.size ≤ b3 := by rw [e2]; exact HC.size
 have nf_hl_b3 : (l ++ [[93]]) = [] ∨ b3 ∉ ob ((some ⟨bl, ol, none⟩)) := hl.fresh (by rw [e2]; exact Nat.le_refl _)
 replace HC := HC.then c3
 replace hT := hT.tr0 c3
 replace hmx := hmx.tr0 c3
 replace ht := ht.tr0 c3
 replace hl := hl.tr0 c3
 clear e2
 refine aI rfl <| en <| sr rfl <| mL rfl <| Wp rfl <| st_len (ct := #[29]) (by rw [show ((#[29] : Array TypeId)[0]?).bind Tryd.prog.underlying = some (.slice 9) from T.u29]; rfl) rfl <| Wp rfl <| st_subn rfl rfl (by constructor <;> omega) <| aI rfl <| en <| x_seq <| sr rfl <| mI rfl <| Wp rfl <| st_lss rfl rfl <| mB rfl <| w_split (d := 13) rfl (fun g5 => ?_) (fun g5 => ?_)
 ·try simp only [nm, ne_eq] at g5
  omega
 ·try simp only [nm, ne_eq] at g5
  refine w_yes 2 13 false <| st_move (v := .slice _ _ _) rfl <| w_yes 2 13 false <| st_move (v := .int _ _) rfl ?_
  obtain ⟨lb10, _, vs9, hA6, hR8, hC7⟩ := hl.at (i := (((l.length + 1 : Nat) : Int) - 1).toNat) (x := [93]) (by rw [show (((l.length + 1 : Nat) : Int) - 1).toNat = l.length by omega]; simp)
  obtain rfl : vs9 = [S [93]] := hR8
  refine w_yes 2 13 false <| st_indexAddr T.u29 T.size9 (congrArg (fun z => Value.slice z _ _) hA6) rfl (by omega) (by omega) <| w_yes 2 13 false <| st_load1 (v := S _) T.one9 rfl (hC7.at (j := 0) rfl) <| w_yes 2 13 false <| st_sneq rfl rfl <| pF rfl rfl <| en <| x_cond rfl (fun h0 => ?_) (fun h0 => ?_)
  ·try simp only [nm, ne_eq] at h0
   exfalso; first | omega | (simp at h0; omega) | (simp at h0)
  ·try simp only [nm, ne_eq] at h0
   rw [show (((l.length + 1 : Nat) : Int) - 1) = (l.length : Int) by omega]
   refine x_skip <| then_n <| x_seq <| x_draw [(0, 0), (1, 0), (2, 0), (3, 0), (4, 0), (5, 1), (6, 0)] T.mixed rfl rfl rfl (fun W => W.heap[b3]? = w1.heap[b3]? ∧ True) ⟨rfl, trivial⟩ ?_
   have o13 := hb4
   have c12 := Chg.drew w1
   generalize World.drew w1 = w11 at c12 ⊢
   replace HC := HC.then c12
   replace hT := hT.tr0 c12
   replace hmx := hmx.tr0 c12
   replace ht := ht.tr0 c12
   replace hl := hl.tr0 c12
   replace hb4 := hb4.tr0 c12
   refine sq_q rfl (fun W hT => r_loadA (vs := [_, _, _]) T.agg24 rfl (Blk.cells (n := 3) (vs := [_, _, _]) (show Blk W b3 _ _ from hT.1.trans o13) rfl) rfl) <| sq_q rfl (fun W hT => r_move (v := .int _ _) rfl) <| sq_q rfl (fun W hT => r_move (v := .slice _ _ _) rfl) <| sq_q rfl (fun W hT => r_move (v := .int _ _) rfl) <| sq_q rfl (fun W hT => r_sliceTo (j := l.length) T.u29 T.size9 rfl ⟨_, rfl⟩ (by omega)) <| sq_call1 rfl (r_call (ags := [_, _, _]) rfl rfl T.ent8 rfl) (test_spec hT hTl hF (sl_pre hl) (by omega) hmx ht hb) ?_
   rintro _ w14 ⟨rfl, c15⟩
   replace HC := HC.then c15
   replace hT := hT.tr0 c15
   replace hmx := hmx.tr0 c15
   replace ht := ht.tr0 c15
   replace hl := hl.tr0 c15
   replace hb4 := hb4.tr0 c15
   refine ⟨_, fun _ h => h, ⟨(Eq.trans hb4 o13.symm), trivial⟩, ?_⟩
   refine sq_q rfl (fun W hT => r_assign (v := .int _ _) rfl) ?_
   clear o13
   refine sq_nil <| then_n <| x_ret <| ret_tmp (v := .int _ _) rfl rfl ?_
   exact ⟨rfl, HC⟩

end Go.Proofs.YtpelmhoocepenaaDoor.K
