/- Variables put. -/
import Derived.Test.YtmbbhgglllfelaaDoorGc
import Derived.Test.YtmbbhgglllfelaaDoorKitQ
set_option linter.unusedVariables false
set_option linter.unusedSimpArgs false
set_option autoImplicit false
set_option maxRecDepth 20000
namespace Go.Proofs.YtmbbhgglllfelaaDoor.K
open Go Go.Proofs Go.RowKit

/-- A whole number's digits, with its sign. -/
def textV (n : Int) : Bytes := if n < 0 then [45] ++ decT (-n).toNat else decT n.toNat

theorem TextI_spec (x : Int) (h0 : 0 ≤ x) (h1 : x ≤ 9223372036854775807) (w : World) : CallR Tryd.prog 73 #[.int .i64 x] w fun v w' => v = S (textV x) ∧ Chg [] w w' := by
  have h := Text_num (w := w) h0 h1
  unfold textV; rw [if_neg (by omega)]; exact h

theorem clone_spec {vs : List Vr} {Av : Option Addr} {cv : Nat} {Dv : Nat → Prop} {w : World} (hv : Sl prE w Dv Av vs) (hA : vs = [] → Av = none) (hl : vs.length ≤ 1000000000) : CallR Tryd.prog 74 #[.slice Av vs.length cv] w fun v w' => (∃ A cap, v = .slice A vs.length cap ∧ Own prE 46 w' (fun k => w.heap.size ≤ k) A cap vs) ∧ Chg [] w w' := by
 refine callR_of_wp (args := [_]) Tryd.func74 rfl (Nat.le_of_ble_eq_true rfl) ?_
 have HC : Chg [] w w := .refl _
 refine sr rfl <| aL rfl <| en <| x_seq <| sr rfl <| mL rfl <| Wp rfl <| st_sleqln T.u41 rfl rfl <| en <| x_cond rfl (fun h0 => ?_) (fun h0 => ?_)
 ·try simp only [nm, ne_eq] at h0
  obtain rfl : vs = [] := by rcases hv with h | ⟨vb, vo, h, _⟩ <;> first | exact h | (exfalso; simp [h] at h0; done)
  refine sr rfl <| aL rfl <| en <| x_ret <| then_r <| ret_tmp (v := .slice _ _ _) rfl rfl ?_
  exact ⟨⟨none, 0, rfl, Own.nil⟩, HC⟩
 ·try simp only [nm, ne_eq] at h0
  have hne : vs ≠ [] := fun e => by rw [hA e] at h0; simp at h0
  obtain ⟨vb, vo, rfl, _⟩ := hv.resolve_left hne
  refine x_skip <| then_n <| sr rfl <| Wp rfl <| st_lit (ps := []) (vs := []) T.lit41 (by decide) rfl (by simp only [List.forall_mem_cons, List.not_mem_nil, false_imp_iff, implies_true, and_true]) rfl ?_
  intro b1 w2 e3 c4 hb5
  have ge_b1 : w.heap.size ≤ b1 := by rw [e3]; exact HC.size
  have nf_hv_b1 : vs = [] ∨ b1 ∉ ob ((some ⟨vb, vo, none⟩)) := hv.fresh (by rw [e3]; exact Nat.le_refl _)
  replace HC := HC.then c4
  replace hv := hv.tr0 c4
  clear e3
  refine mL rfl ?_
  have ho0 : Own prE 46 w2 (fun k => w.heap.size ≤ k) (some ⟨b1, 0, none⟩) 0 ([] : List Vr) := Own.of_blk (xs := ([] : List Vr)) hb5 ge_b1 (by decide) Chunks.nil
  have hszA := HC.size
  refine Wp rfl <| st_append2 (c := prE) (D2 := fun _ => False) (xs := ([] : List Vr)) (ys := vs) T.slice41 rfl rfl ho0 rfl rfl (fun i y hy => by obtain ⟨lb, lo, us, hA, hR, hC⟩ := hv.at hy; cases hA; exact ⟨us, hR, hC⟩) (fun _ _ h => h.elim) (fun k hk => by omega) (by simp only [List.length_nil]; omega) (by simp only [List.length_nil]; omega) ?_
  intro A6 cap7 w8 ho9 c10 hg11
  simp only [List.nil_append] at ho9
  replace HC := HC.trans c10 (fun k hk => .inr (ho0.inD k hk))
  refine aL rfl <| en <| x_ret <| ret_tmp (v := .slice _ _ _) rfl rfl ?_
  exact ⟨⟨A6, cap7, rfl, ho9⟩, HC⟩

theorem insert_end {xs : List Vr} {A : Option Addr} {cap g : Nat} {D : Nat → Prop} {y : Vr} {w : World} (ho : Own prE 46 w D A cap xs) (hg : Blk w g [S y.1, S y.2] 46) (hfr : ∀ k, w.heap.size ≤ k → D k) (hl : xs.length ≤ 1000000000) : CallR Tryd.prog 75 #[.slice A xs.length cap, .int .i64 (xs.length : Int), .slice (some ⟨g, 0, none⟩) 1 1] w fun v w' => (∃ A' cap', v = .slice A' (xs ++ [y]).length cap' ∧ Own prE 46 w' D A' cap' (xs ++ [y])) ∧ Chg (ob A) w w' := by
 refine callR_of_wp (args := [_, _, _]) Tryd.func75 rfl (Nat.le_of_ble_eq_true rfl) ?_
 have HC : Chg (ob A) w w := .refl _
 have hle := ho.le
 refine sr rfl <| aL rfl <| en <| sr rfl <| mL rfl <| mI rfl <| Wp rfl <| st_slice (i := xs.length) (j := xs.length) T.u41 T.size46 rfl ⟨_, rfl⟩ (by rfl) (by omega) (by omega) <| en <| sr rfl <| mL rfl <| Wp rfl <| st_len (ct := #[41]) (by rw [show ((#[41] : Array TypeId)[0]?).bind Tryd.prog.underlying = some (.slice 46) from T.u41]; rfl) rfl <| aI rfl <| en <| x_seq <| sr rfl <| mI rfl <| Wp rfl <| st_eql rfl rfl <| en <| x_cond rfl (fun h0 => ?_) (fun h0 => ?_)
 ·try simp only [nm, ne_eq] at h0
  exact absurd h0 (by decide)
 ·try simp only [nm, ne_eq] at h0
  refine x_skip <| then_n <| sr rfl <| mL rfl <| Wp rfl <| st_len (ct := #[41]) (by rw [show ((#[41] : Array TypeId)[0]?).bind Tryd.prog.underlying = some (.slice 46) from T.u41]; rfl) rfl <| aI rfl <| en <| x_seq <| sr rfl <| mI rfl <| mI rfl <| Wp rfl <| st_eql rfl rfl <| en <| x_cond rfl (fun h1 => ?_) (fun h1 => ?_)
  ·try simp only [nm, ne_eq] at h1
   refine sr rfl <| mL rfl <| mL rfl <| Wp rfl <| st_append2 (c := prE) (D2 := fun _ => False) (xs := xs) (ys := [y]) T.slice41 rfl rfl ho rfl rfl (one_elem rfl (hg.cells (n := 2) rfl)) (fun _ _ h => h.elim) (fun k hk => hfr k (Nat.le_trans HC.size hk)) (by simp only [List.length_cons, List.length_nil]; omega) (by simp only [List.length_cons, List.length_nil]; omega) ?_
   intro A1 cap2 w3 ho4 c5 hg6
   replace HC := HC.trans c5 (fun k hk => .inl hk)
   refine aL rfl <| en <| x_ret <| then_r <| ret_tmp (v := .slice _ _ _) rfl rfl ?_
   exact ⟨⟨A1, cap2, rfl, ho4⟩, HC⟩
  ·try simp only [nm, ne_eq] at h1
   first | exact absurd rfl h1 | exact absurd trivial h1

def setOk (vs : List Vr) (n : Bytes) : Prop := plN vs n = vs.length
theorem setOk_at {vs : List Vr} {n : Bytes} (h : setOk vs n) : isAt vs n = false := by unfold isAt; rw [h, List.getElem?_eq_none (Nat.le_refl _)]; rfl

theorem set_end {vs : List Vr} {Al Av : Option Addr} {ll capl cv b : Nat} {e : Int} {w : World} (n : Bytes) (x : Int) (hx0 : 0 ≤ x) (hx1 : x ≤ 9223372036854775807) (hb : Blk w b [.slice Al ll capl, .slice Av vs.length cv, .int .i64 e] 57) (hv : Sl prE w (fun k => k ≠ b) Av vs) (hA : vs = [] → Av = none) (hr : Rise vs) (hl : vs.length ≤ 1000000000) (hso : setOk vs n) : CallR Tryd.prog 59 #[.pointer (some ⟨b, 0, none⟩), S n, .int .i64 x] w fun v w' => v = .int .i64 x ∧ (∃ Av cv, Blk w' b [.slice Al ll capl, .slice Av (vs ++ [(n, textV x)]).length cv, .int .i64 e] 57 ∧ Sl prE w' (fun k => k ≠ b) Av (vs ++ [(n, textV x)]) ∧ Av ≠ none) ∧ Chg [b] w w' := by
 replace hv := hv.mono (D' := fun k => k ≠ b ∧ k < w.heap.size) (fun k hk hD => ⟨hD, hk⟩)
 refine callR_of_wp (args := [_, _, _]) Tryd.func59 rfl (Nat.le_of_ble_eq_true rfl) ?_
 have HC : Chg [b] w w := .refl _
 have HC0 : w.heap.size ≤ w.heap.size := Nat.le_refl _
 refine sr rfl <| aI rfl <| en <| sr rfl <| mS rfl <| mI rfl <| Wp rfl <| st_call (ags := [_]) rfl rfl T.ent73 rfl (TextI_spec x hx0 hx1 _) ?_
 rintro _ w1 ⟨rfl, c2⟩
 replace HC := HC.then c2
 replace hb := hb.tr0 c2
 replace hv := hv.tr0 c2
 replace HC0 := Nat.le_trans HC0 c2.size
 refine Wp rfl <| st_bld (ps := [(0, .tmp 10), (1, .tmp 12)]) (vs := [S _, S _]) T.bld46 rfl <| Wp rfl <| st_alloc T.zero46 ?_
 intro b7 w3 e4 c5 hb6
 have ge_b7 : w.heap.size ≤ b7 := by rw [e4]; exact HC.size
 have ne_b_b7 : b ≠ b7 := by rw [e4]; exact hb.ne_size
 replace HC := HC.then c5
 replace hb := hb.tr0 c5
 replace hv := hv.tr0 c5
 replace HC0 := Nat.le_trans HC0 c5.size
 clear e4
 refine Wp rfl <| st_store (v := .agg ⟨[S _, S _]⟩) T.size46 rfl rfl rfl hb6 rfl (Nat.le_of_ble_eq_true rfl) (by simp [Value.oneCell', S]) rfl ?_
 intro w7 c8 hb9; simp only [setVs, setV] at hb9
 clear hb6
 replace HC := HC.then1 c8 ge_b7
 replace hb := hb.tr1 c8 ne_b_b7
 replace hv := hv.tr c8 (by intro k hx hD; obtain rfl := List.mem_singleton.1 hx; first | exact hD rfl | exact hD.1 rfl | (have hD2 := hD.2; omega))
 replace HC0 := Nat.le_trans HC0 c8.size
 refine en <| sr rfl <| mP rfl <| mP rfl <| nc rfl <| fa T.fld57_1 rfl <| lL T.one41 rfl (hb.cell rfl) ?_
 have hbw : b < w7.heap.size := hb.lt
 have h7w : b7 < w7.heap.size := hb9.lt
 have hcw := HC0
 have hwc : w7.heap.size ≤ w7.heap.size := Nat.le_refl _
 refine Wp rfl <| st_call (ags := [_]) rfl rfl T.ent74 rfl (clone_spec hv hA hl) ?_
 rintro _ w10 ⟨⟨A1, cap1, rfl, ho1⟩, c11⟩
 replace HC := HC.then c11
 replace hb := hb.tr0 c11
 replace hv := hv.tr0 c11
 replace HC0 := Nat.le_trans HC0 c11.size
 replace hb9 := hb9.tr0 c11
 replace hwc := Nat.le_trans hwc c11.size
 have nab : b ∉ ob A1 := fun hx => by have := ho1.inD _ hx; omega
 have na7 : b7 ∉ ob A1 := fun hx => by have := ho1.inD _ hx; omega
 have nah : ∀ k, k ∈ ob A1 → w.heap.size ≤ k := fun k hk => Nat.le_trans hcw (ho1.inD k hk)
 refine nc rfl <| fa T.fld57_1 rfl <| Wp rfl <| st_store (v := .slice _ _ _) T.size41 rfl rfl rfl hb rfl (Nat.le_of_ble_eq_true rfl) (by simp [Value.oneCell', S]) rfl ?_
 intro w12 c13 hb14; simp only [setVs, setV] at hb14
 clear hb
 replace HC := HC.trans c13 (by intro x hx; simp only [List.mem_singleton] at hx; subst hx; exact .inl (by simp))
 replace hb9 := hb9.tr1 c13 (Ne.symm ne_b_b7)
 replace hwc := Nat.le_trans hwc c13.size
 replace ho1 := ho1.trF flat_flat c13 (by intro k hk hx; simp only [List.mem_singleton] at hx; subst hx; exact nab hk)
 refine en <| x_seq <| x_seq ?_
 have hv1 := ho1.sl
 refine x_region rfl <| mP rfl <| nc rfl <| fa T.fld57_1 rfl <| lL T.one41 rfl (hb14.cell rfl) <| mS rfl <| Wp rfl <| st_call (ags := [_, _]) rfl rfl T.ent57 rfl (place_spec n hv1 hr hl) ?_
 rintro vpl w15 ⟨hvp, c16⟩
 rw [setOk_at hso, show plN vs n = vs.length from hso] at hvp
 subst hvp
 replace HC := HC.then c16
 replace hb9 := hb9.tr0 c16
 replace hwc := Nat.le_trans hwc c16.size
 replace ho1 := ho1.tr0 c16
 replace hb14 := hb14.tr0 c16
 refine mv (v := .tuple ⟨[_, _]⟩) rfl <| Wp rfl <| st_extract (vs := [_, _]) (v := .int _ _) rfl rfl <| Wp rfl <| st_extract (vs := [_, _]) (v := .bool false) rfl rfl <| aI rfl <| aB rfl <| en <| sr rfl <| mB rfl <| en <| x_cond (t := false) rfl (fun h0 => ?_) (fun h0 => ?_)
 · exact absurd h0 (by decide)
 refine x_draw [(0, 0), (1, 0), (2, 0), (3, 0), (4, 0), (5, 0), (6, 0), (7, 1), (8, 1), (9, 0), (10, 0), (11, 2)] T.mixed rfl rfl rfl (fun W => W.heap[b7]? = w15.heap[b7]? ∧ W.heap[b]? = w15.heap[b]? ∧ True) ⟨rfl, rfl, trivial⟩ ?_
 have o19 := hb9
 have o20 := hb14
 have c18 := Chg.drew w15
 generalize World.drew w15 = w17 at c18 ⊢
 replace HC := HC.then c18
 replace hb9 := hb9.tr0 c18
 replace hwc := Nat.le_trans hwc c18.size
 replace ho1 := ho1.tr0 c18
 replace hb14 := hb14.tr0 c18
 refine sq_q rfl (fun W hT => r_move (v := .pointer _) rfl) <| sq_q rfl (fun W hT => r_move (v := .pointer _) rfl) <| sq_q rfl (fun W hT => r_nilCheck rfl) <| sq_q rfl (fun W hT => r_fieldAddr T.fld57_1 rfl) <| sq_q rfl (fun W hT => r_load1 (v := .slice _ _ _) T.one41 rfl (Blk.cell (show Blk W b _ _ from hT.2.1.trans o20) rfl)) <| sq_q rfl (fun W hT => r_move (v := .int _ _) rfl) <| sq_q rfl (fun W hT => r_loadA (vs := [_, _]) T.agg46 rfl (Blk.cells (n := 2) (vs := [_, _]) (show Blk W b7 _ _ from hT.1.trans o19) rfl) rfl) <| sq_lit1 (ps := [(0, .tmp 45)]) (vs := [S _, S _]) rfl T.lit41 (by decide) rfl (by simp only [List.forall_mem_cons, List.not_mem_nil, false_imp_iff, implies_true, and_true]; exact rfl) rfl ?_
 intro b21 w22 e23 c24 hb25
 have ge_b21 : w.heap.size ≤ b21 := by rw [e23]; exact HC.size
 have ne_b7_b21 : b7 ≠ b21 := by rw [e23]; exact hb9.ne_size
 have ne_b_b21 : b ≠ b21 := by rw [e23]; exact hb14.ne_size
 have na_b21 : b21 ∉ ob A1 := ho1.fresh (by rw [e23]; exact Nat.le_refl _)
 replace HC := HC.then c24
 replace hb9 := hb9.tr0 c24
 replace hwc := Nat.le_trans hwc c24.size
 replace ho1 := ho1.tr0 c24
 replace hb14 := hb14.tr0 c24
 clear e23
 refine ext_T (b := b21) ⟨(Eq.trans hb9 o19.symm), (Eq.trans hb14 o20.symm), trivial⟩ ?_
 have o26 := hb25
 refine sq_call1 rfl (r_call (ags := [_, _, _]) rfl rfl T.ent75 rfl) (insert_end (y := (n, textV x)) ho1 hb25 (fun k hk => Nat.le_trans hwc hk) hl) ?_
 rintro _ w27 ⟨⟨A2, cap2, rfl, ho2⟩, c28⟩
 replace HC := HC.trans c28 (fun k hk => .inr (nah k hk))
 replace hb9 := hb9.tr c28 na7
 replace hb14 := hb14.tr c28 nab
 replace hb25 := hb25.tr c28 na_b21
 have nab2 : b ∉ ob A2 := fun hx => by have := ho2.inD _ hx; omega
 have hne2 : A2 ≠ none := by rcases ho2.form with h | ⟨g, h, _⟩ <;> first | exact absurd h.2.2 (by simp) | (rw [h]; simp)
 refine ⟨_, fun _ h => h, ⟨(Eq.trans hb25 o26.symm), ⟨(Eq.trans hb9 o19.symm), (Eq.trans hb14 o20.symm), trivial⟩⟩, ?_⟩
 refine sq_q rfl (fun W hT => r_nilCheck rfl) <| sq_q rfl (fun W hT => r_fieldAddr T.fld57_1 rfl) <| sq_store2 rfl T.size41 (v := .slice _ _ _) rfl rfl rfl hb14 rfl (Nat.le_of_ble_eq_true rfl) (by simp [Value.oneCell', S]) rfl ?_
 intro w29 c30 hb31; simp only [setVs, setV] at hb31
 clear hb14
 replace HC := HC.trans c30 (by intro x hx; simp only [List.mem_singleton] at hx; subst hx; exact .inl (by simp))
 replace hb9 := hb9.tr1 c30 (Ne.symm ne_b_b7)
 replace hb25 := hb25.tr1 c30 (Ne.symm ne_b_b21)
 replace ho2 := ho2.trF flat_flat c30 (by intro k hk hx; simp only [List.mem_singleton] at hx; subst hx; exact nab2 hk)
 clear o19
 clear o20
 clear o26
 refine sq_nil <| then_n <| sr rfl <| mI rfl <| aI rfl <| en <| x_ret <| ret_tmp (v := .int _ _) rfl rfl ?_
 exact ⟨rfl, ⟨A2, cap2, hb31, (ho2.sl).mono (fun k hk hD => by intro e; subst e; exact absurd hD (Nat.not_le.2 hbw)), hne2⟩, HC⟩

end Go.Proofs.YtmbbhgglllfelaaDoor.K
