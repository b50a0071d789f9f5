import Derived.Test.YtncnalboiljgiaaGreatKitSq
import Derived.Test.YtncnalboiljgiaaGreatGlob
set_option linter.unusedVariables false
set_option linter.unusedSimpArgs false
set_option autoImplicit false
set_option maxRecDepth 20000
namespace Go.Proofs.YtncnalboiljgiaaGreat.K
open Go Go.Proofs Go.RowKit
theorem kind_dir {Z : Tre} {k : Int} (h : 0 ≤ k ∧ k < Z.length) : ∃ x, Z[k.toNat]? = some x ∧ kindV Z k = x.kind ∧ dataV Z k = x.data ∧ upV Z k = x.up ∧ kidsV Z k = x.kids := by
  obtain ⟨x, h1, h2⟩ := ino_some h.1 h.2
  exact ⟨x, h1, by unfold kindV; rw [h2]; rfl, by unfold dataV; rw [h2]; rfl, by unfold upV; rw [h2]; rfl, by unfold kidsV; rw [h2]; rfl⟩
theorem step_in {Z : Tre} (hF : FitT Z) {k : Int} {n : Bytes} (h : (stepV Z k n).2 = 0) : 0 ≤ (stepV Z k n).1 ∧ (stepV Z k n).1 < Z.length := by
  unfold stepV at h ⊢
  by_cases c1 : dirV Z k = false
  · rw [if_pos c1] at h; exact absurd (show (20 : Int) = 0 from h) (by decide)
  rw [if_neg c1] at h ⊢
  have hd : dirV Z k = true := by simpa using c1
  have hk := dir_in hd
  obtain ⟨x, hx, hxk, _, hxu, hxs⟩ := kind_dir hk
  have hxm := List.mem_of_getElem? hx
  by_cases c2 : mayV Z k 1 = false
  · rw [if_pos c2] at h; exact absurd (show (13 : Int) = 0 from h) (by decide)
  rw [if_neg c2] at h ⊢
  by_cases c3 : n = [46]
  · rw [if_pos c3]; exact hk
  rw [if_neg c3] at h ⊢
  by_cases c4 : n = [46, 46]
  · rw [if_pos c4]; show 0 ≤ upV Z k ∧ upV Z k < _; rw [hxu]; exact dir_in (hF.up x hxm (by rw [← hxk]; unfold dirV at hd; simpa using hd))
  rw [if_neg c4] at h ⊢
  by_cases c5 : 0 ≤ kidV Z k n
  · rw [if_pos c5]
    refine ⟨c5, ?_⟩
    show kidV Z k n < _
    unfold kidV at c5 ⊢; rw [if_pos hd] at c5 ⊢
    cases h9 : isK (kidsV Z k) n with
    | false => unfold kidK at c5; rw [h9] at c5; simp at c5
    | true =>
      obtain ⟨p, h1, h2, h3⟩ := kidK_at h9
      rw [h2]; exact ((hF.kids x hxm).2.2 p (by rw [← hxs]; exact h3)).2.1
  · rw [if_neg c5] at h; exact absurd (show (2 : Int) = 0 from h) (by decide)
set_option maxHeartbeats 800000 in
theorem run_spec {Z : Tre} {An : Option Addr} {capn : Nat} {mx my : Int} {b : Nat} {q : Wst} {Al : Option Addr} {capl : Nat} {w0 w : World} (last : Bool) (HC0 : Chg [] w0 w) (hT : Sl inE w (fun k => k < w0.heap.size) An Z) (hTl : Z.length ≤ 1000000000) (hF : FitT Z) (hb : Blk w b [.slice An Z.length capn, .int .i64 mx, .int .i64 my, .int .i64 q.cur, .slice Al q.left.reverse.length capl, .int .i64 q.links] 127) (ho : Own sE 9 w (fun k => w0.heap.size ≤ k ∧ k ≠ b) Al capl q.left.reverse) (hlo : w0.heap.size ≤ b) (hmx : MaxT w) (hm0 : 0 < w0.heap.size) (hmq : mW q < 600000) (hq0 : 0 ≤ q.links) (hq8 : q.links ≤ 8) : CallR Tryz.prog 61 #[.pointer (some ⟨b, 0, none⟩), .bool last] w fun v w' => v = .tuple ⟨[.int .i64 (goV Z last 600000 q).1, .int .i64 (goV Z last 600000 q).2]⟩ ∧ Chg [] w0 w' := by
 have hoS := ho.lt
 have ge_b : w0.heap.size ≤ b := hlo
 refine callR_of_wpM (args := [_, _]) Tryz.func61 rfl (Nat.le_of_ble_eq_true rfl) ?_
 have hM : Marks w0.heap.size [] w := trivial
 refine sr rfl <| Wp rfl <| st_box (v := .pointer _) (vs := [_]) rfl rfl ?_
 intro b2 w1 e2 c3 hb4
 have ge_b2 : w0.heap.size ≤ b2 := by rw [e2]; exact HC0.size
 have ne_b_b2 := nF e2 hb.ne_size
 have nho_b2 : b2 ∉ ob Al := ho.fresh (by rw [e2]; exact Nat.le_refl _)
 have nm_b2 : b2 ∉ mb [] := fun hx => by have := (hM.lt _ hx).2; omega
 replace HC0 := HC0.then c3
 replace hT := hT.tr0 c3
 replace hmx := hmx.tr0 c3
 replace hb := hb.tr0 c3
 replace ho := ho.tr0 c3
 replace hM := hM.tr c3 (by simp)
 clear e2
 refine Wp rfl <| st_box (v := .bool _) (vs := [_]) rfl rfl ?_
 intro b3 w5 e6 c7 hb8
 have ge_b3 : w0.heap.size ≤ b3 := by rw [e6]; exact HC0.size
 have ne_b_b3 := nF e6 hb.ne_size
 have ne_b2_b3 := nF e6 hb4.ne_size
 have nho_b3 : b3 ∉ ob Al := ho.fresh (by rw [e6]; exact Nat.le_refl _)
 have nm_b3 : b3 ∉ mb [] := fun hx => by have := (hM.lt _ hx).2; omega
 replace HC0 := HC0.then c7
 replace hT := hT.tr0 c7
 replace hmx := hmx.tr0 c7
 replace hb := hb.tr0 c7
 replace ho := ho.tr0 c7
 replace hM := hM.tr c7 (by simp)
 replace hb4 := hb4.tr0 c7
 clear e6
 refine aI rfl <| aI rfl <| en <| x_scope <| sr rfl <| Wp rfl <| st_alloc T.zero76 ?_
 intro b6 w9 e10 c11 hb12
 have ge_b6 : w0.heap.size ≤ b6 := by rw [e10]; exact HC0.size
 have ne_b_b6 := nF e10 hb.ne_size
 have ne_b2_b6 := nF e10 hb4.ne_size
 have ne_b3_b6 := nF e10 hb8.ne_size
 have nho_b6 : b6 ∉ ob Al := ho.fresh (by rw [e10]; exact Nat.le_refl _)
 have nm_b6 : b6 ∉ mb [] := fun hx => by have := (hM.lt _ hx).2; omega
 replace HC0 := HC0.then c11
 replace hT := hT.tr0 c11
 replace hmx := hmx.tr0 c11
 replace hb := hb.tr0 c11
 replace ho := ho.tr0 c11
 replace hM := hM.tr c11 (by simp)
 replace hb4 := hb4.tr0 c11
 replace hb8 := hb8.tr0 c11
 clear e10
 refine Wp rfl <| st_st (v := .int _ _) T.size76 rfl rfl rfl hb12 ?_
 intro w13 c14 hb15; simp only [setVs, setV] at hb15
 clear hb12
 replace HC0 := HC0.then1 c14 ge_b6
 replace hT := hT.tr c14 (by intro k hx hD; simp only [List.mem_cons, List.mem_nil_iff, or_false] at hx; have hD2 : k < w0.heap.size := hD; omega)
 replace hmx := hmx.tr c14 q1
 replace hb := hb.tr1 c14 ne_b_b6
 replace ho := ho.trF flat_flat c14 (by intro k hk hx; exact nho_b6 (List.mem_singleton.1 hx ▸ hk))
 replace hM := hM.tr c14 (by intro k hk hx; have hlo := (hM.lt k hk).1; simp only [List.mem_singleton] at hx; subst hx; first | exact nm_b6 hk | omega | (cases hk; done))
 replace hb4 := hb4.tr1 c14 ne_b2_b6
 replace hb8 := hb8.tr1 c14 ne_b3_b6
 refine en <| x_seq <| x_label <| then_n <| x_seq <| sr rfl <| Wp rfl <| st_load1 (v := .pointer _) T.one100 rfl (hb4.cell rfl) <| Wp rfl <| st_call (ags := [_]) rfl rfl T.ent86 rfl (wnames_spec) ?_
 rintro _ w16 ⟨bw, rfl, hgw, hbw, c17⟩
 have ge_bw : w0.heap.size ≤ bw := Nat.le_trans HC0.size hgw
 have ne_b_bw : b ≠ bw := Nat.ne_of_lt (Nat.lt_of_lt_of_le hb.lt hgw)
 have ne_b2_bw : b2 ≠ bw := Nat.ne_of_lt (Nat.lt_of_lt_of_le hb4.lt hgw)
 have ne_b3_bw : b3 ≠ bw := Nat.ne_of_lt (Nat.lt_of_lt_of_le hb8.lt hgw)
 have ne_b6_bw : b6 ≠ bw := Nat.ne_of_lt (Nat.lt_of_lt_of_le hb15.lt hgw)
 have nho_bw : bw ∉ ob Al := ho.fresh hgw
 have nm_bw : bw ∉ mb [] := fun hx => by have := (hM.lt _ hx).2; omega
 replace HC0 := HC0.then c17
 replace hT := hT.tr0 c17
 replace hmx := hmx.tr0 c17
 replace hb := hb.tr0 c17
 replace ho := ho.tr0 c17
 replace hM := hM.tr c17 (by simp)
 replace hb4 := hb4.tr0 c17
 replace hb8 := hb8.tr0 c17
 replace hb15 := hb15.tr0 c17
 refine en <| x_block <| x_rangeG (bs := [b]) (K := (fun k => k = bw)) (ps := [12]) (encs := (fun s => [S s])) (xs := (trV Z last 600000 q)) rfl T.ent109 rfl (fun _ => rfl) (by intro x hx; rw [List.mem_singleton.1 hx]; exact hb.lt) (by intro k hk; rw [show k = bw from hk]; first | exact hbw.lt) (wnames_iter (Z := Z) (An := An) (capn := capn) (mx := mx) (my := my) (D := (fun k => w0.heap.size ≤ k ∧ k ≠ b ∧ k ≠ b2 ∧ k ≠ b3 ∧ k ≠ b6 ∧ k ≠ bw)) (bw := bw) (b := b) (xs := (trV Z last 600000 q)) (fun k h => h.2.1) (by have := hb.lt; omega)) (fun _ _ _ _ h => h.1) ?_
 intro DD lp w18 hD1 hD2 hD3 hD4 hD5 c19
 have hszlp := HC0.size
 have ge_DD : w0.heap.size ≤ DD := by omega
 have ne_b_DD : b ≠ DD := by have := hb.lt; omega
 have ne_b2_DD : b2 ≠ DD := by have := hb4.lt; omega
 have ne_b3_DD : b3 ≠ DD := by have := hb8.lt; omega
 have ne_b6_DD : b6 ≠ DD := by have := hb15.lt; omega
 have ne_bw_DD : bw ≠ DD := by have := hbw.lt; omega
 have nho_DD : DD ∉ ob Al := ho.fresh (by omega)
 have nm_DD : DD ∉ mb [] := fun hx => by have := (hM.lt _ hx).2; omega
 have ge_lp : w0.heap.size ≤ lp := by omega
 have ne_b_lp : b ≠ lp := by have := hb.lt; omega
 have ne_b2_lp : b2 ≠ lp := by have := hb4.lt; omega
 have ne_b3_lp : b3 ≠ lp := by have := hb8.lt; omega
 have ne_b6_lp : b6 ≠ lp := by have := hb15.lt; omega
 have ne_bw_lp : bw ≠ lp := by have := hbw.lt; omega
 have nho_lp : lp ∉ ob Al := ho.fresh (by omega)
 have nm_lp : lp ∉ mb [] := fun hx => by have := (hM.lt _ hx).2; omega
 replace HC0 := HC0.then c19
 replace hT := hT.tr0 c19
 replace hmx := hmx.tr0 c19
 replace hb := hb.tr0 c19
 replace ho := ho.tr0 c19
 replace hM := hM.tr c19 (by simp)
 replace hb4 := hb4.tr0 c19
 replace hb8 := hb8.tr0 c19
 replace hb15 := hb15.tr0 c19
 replace hbw := hbw.tr0 c19
 refine ⟨fun pre W => ∃ (u : Wst), ∃ (k : Nat), ∃ (A : Option Addr), ∃ (c : Nat), ((trV Z last 600000 q) = pre ++ trV Z last k u ∧ goV Z last k u = goV Z last 600000 q ∧ mW u < k ∧ k ≤ 600000 ∧ 0 ≤ u.links ∧ u.links ≤ 8) ∧ (Chg [] w0 W) ∧ (Sl inE W (fun k => k < w0.heap.size) An Z) ∧ (MaxT W) ∧ (Marks w0.heap.size [] W) ∧ (Blk W b2 [.pointer (some ⟨b, 0, none⟩)] 100) ∧ (Blk W b3 [.bool last] 4) ∧ (Blk W bw [.pointer (some ⟨b, 0, none⟩)] 100) ∧ (DD < W.heap.size) ∧ (lp < W.heap.size) ∧ (Blk W b [.slice An Z.length capn, .int .i64 mx, .int .i64 my, .int .i64 u.cur, .slice A u.left.reverse.length c, .int .i64 u.links] 127) ∧ (Own sE 9 W (fun k => w0.heap.size ≤ k ∧ k ≠ b ∧ k ≠ b2 ∧ k ≠ b3 ∧ k ≠ b6 ∧ k ≠ bw ∧ k ≠ lp ∧ k ≠ DD) A c u.left.reverse) ∧ (Blk W b6 [.int .i64 0] 76), fun c pre W => (c = Code.exit 0 ∧ ∃ (z : Int), (goV Z last 600000 q = (0, z) ∧ z ≠ 0) ∧ (Chg [] w0 W) ∧ (Sl inE W (fun k => k < w0.heap.size) An Z) ∧ (MaxT W) ∧ (Marks w0.heap.size [] W) ∧ (Blk W b2 [.pointer (some ⟨b, 0, none⟩)] 100) ∧ (Blk W b3 [.bool last] 4) ∧ (Blk W bw [.pointer (some ⟨b, 0, none⟩)] 100) ∧ (DD < W.heap.size) ∧ (lp < W.heap.size) ∧ (Blk W b6 [.int .i64 z] 76)), ⟨q, 600000, Al, capl, ⟨rfl, rfl, hmq, Nat.le_refl _, hq0, hq8⟩, HC0, hT, hmx, hM, hb4, hb8, hbw, hD4, hD5, hb, ho.flat flat_flat (fun k hk hD => ⟨hD.1, hD.2, fun e => nho_b2 (e ▸ hk), fun e => nho_b3 (e ▸ hk), fun e => nho_b6 (e ▸ hk), fun e => nho_bw (e ▸ hk), fun e => nho_lp (e ▸ hk), fun e => nho_DD (e ▸ hk)⟩), hb15⟩, ?_, ?_, ?_, ?_, ?_, ?_⟩
 ·rintro pre Wa ⟨u, k, A, c, ⟨htr, hgo, hmk, hk6, hu0, hu8⟩, HC0, hT, hmx, hM, hb4, hb8, hbw, hD4, hD5, hb, ho, hb6⟩
  have hoD := ho.flat (D' := (fun k => w0.heap.size ≤ k ∧ k ≠ b ∧ k ≠ b2 ∧ k ≠ b3 ∧ k ≠ b6 ∧ k ≠ bw)) flat_flat (fun k hk h => ⟨h.1, h.2.1, h.2.2.1, h.2.2.2.1, h.2.2.2.2.1, h.2.2.2.2.2.1⟩)
  refine ⟨hbw, u, A, c, ⟨hb, hoD⟩, ?_⟩
  cases hq9 : trV Z last k u with
  | nil => exact .inl ⟨(trV_nil hmk hq9).1, by rw [htr, hq9, List.append_nil]⟩
  | cons y rest => obtain ⟨j, l, _, h9, _⟩ := trV_cons hq9; exact .inr ⟨y, l, rest, h9, by rw [htr, hq9]⟩
 ·rintro pre Wa Wb ⟨u, k, A, c, hU, HC0, hT, hmx, hM, hb4, hb8, hbw, hD4, hD5, hb, ho, hb6⟩ cL
  replace HC0 := HC0.then1 cL ge_lp
  replace hT := hT.tr cL (by intro k hx hD; simp only [List.mem_cons, List.mem_nil_iff, or_false] at hx; have hD2 : k < w0.heap.size := hD; omega)
  replace hmx := hmx.tr cL q1
  replace hM := hM.tr cL (by intro k hk hx; have hlo := (hM.lt k hk).1; simp only [List.mem_singleton] at hx; subst hx; first | exact nm_lp hk | omega | (cases hk; done))
  replace hb4 := hb4.tr1 cL ne_b2_lp
  replace hb8 := hb8.tr1 cL ne_b3_lp
  replace hbw := hbw.tr1 cL ne_bw_lp
  replace hD4 := Nat.lt_of_lt_of_le hD4 cL.size
  replace hD5 := Nat.lt_of_lt_of_le hD5 cL.size
  replace hb := hb.tr1 cL ne_b_lp
  replace ho := ho.trF flat_flat cL (by intro k hk hx; have hD9 := ho.inD _ hk; simp only [List.mem_cons, List.mem_nil_iff, or_false] at hx; omega)
  replace hb6 := hb6.tr1 cL ne_b6_lp
  exact ⟨u, k, A, c, hU, HC0, hT, hmx, hM, hb4, hb8, hbw, hD4, hD5, hb, ho, hb6⟩
 ·intro c pre Wa Wb hX cL
  obtain ⟨rfl, ⟨z, hU, HC0, hT, hmx, hM, hb4, hb8, hbw, hD4, hD5, hb6⟩⟩ := hX
  replace HC0 := HC0.then1 cL ge_lp
  replace hT := hT.tr cL (by intro k hx hD; simp only [List.mem_cons, List.mem_nil_iff, or_false] at hx; have hD2 : k < w0.heap.size := hD; omega)
  replace hmx := hmx.tr cL q1
  replace hM := hM.tr cL (by intro k hk hx; have hlo := (hM.lt k hk).1; simp only [List.mem_singleton] at hx; subst hx; first | exact nm_lp hk | omega | (cases hk; done))
  replace hb4 := hb4.tr1 cL ne_b2_lp
  replace hb8 := hb8.tr1 cL ne_b3_lp
  replace hbw := hbw.tr1 cL ne_bw_lp
  replace hD4 := Nat.lt_of_lt_of_le hD4 cL.size
  replace hD5 := Nat.lt_of_lt_of_le hD5 cL.size
  replace hb6 := hb6.tr1 cL ne_b6_lp
  exact ⟨rfl, ⟨z, hU, HC0, hT, hmx, hM, hb4, hb8, hbw, hD4, hD5, hb6⟩⟩
 ·rintro pre y rest A0 Wa hxs ⟨u, k, A, c, ⟨htr, hgo, hmk, hk6, hu0, hu8⟩, HC0, hT, hmx, hM, hb4, hb8, hbw, hD4, hD5, hb, ho, hb6⟩ hpop ⟨rec, hrec⟩
  have lt0_b2 := hb4.lt
  have lt0_b3 := hb8.lt
  have lt0_bw := hbw.lt
  have lt0_b := hb.lt
  have lo0_ho := ho.lt
  have li0_ho := ho.inD
  have lt0_b6 := hb6.lt
  have hoD := ho.flat (D' := (fun k => w0.heap.size ≤ k ∧ k ≠ b ∧ k ≠ b2 ∧ k ≠ b3 ∧ k ≠ b6 ∧ k ≠ bw)) flat_flat (fun k hk h => ⟨h.1, h.2.1, h.2.2.1, h.2.2.2.1, h.2.2.2.2.1, h.2.2.2.2.2.1⟩)
  have hq9 : trV Z last k u = y :: rest := by rw [htr] at hxs; exact List.append_cancel_left hxs
  obtain ⟨j, l, rfl, hul, hcs⟩ := trV_cons hq9
  obtain ⟨hbP, hoP⟩ := hpop.2 u l A c ⟨hb, hoD⟩ hul
  have hiD := ho.inD
  dsimp only at hbP hoP
  have cA := hpop.1
  replace HC0 := HC0.then1 cA ge_b
  replace hT := hT.tr cA (by intro k hx hD; simp only [List.mem_cons, List.mem_nil_iff, or_false] at hx; have hD2 : k < w0.heap.size := hD; omega)
  replace hmx := hmx.tr cA q1
  replace hM := hM.tr cA (by intro k hk hx; have hlo := (hM.lt k hk).1; simp only [List.mem_singleton] at hx; subst hx; first | exact nm_b hk | omega | (cases hk; done))
  replace hb4 := hb4.tr1 cA (Ne.symm ne_b_b2)
  replace hb8 := hb8.tr1 cA (Ne.symm ne_b_b3)
  replace hbw := hbw.tr1 cA (Ne.symm ne_b_bw)
  replace hD4 := Nat.lt_of_lt_of_le hD4 cA.size
  replace hD5 := Nat.lt_of_lt_of_le hD5 cA.size
  replace hb6 := hb6.tr1 cA (Ne.symm ne_b_b6)
  have hoQ := hoP.flat (D' := (fun k => w0.heap.size ≤ k ∧ k ≠ b ∧ k ≠ b2 ∧ k ≠ b3 ∧ k ≠ b6 ∧ k ≠ bw ∧ k ≠ lp ∧ k ≠ DD)) flat_flat (fun k hk h => hiD k hk)
  have HK : Kept (fun k => k = lp ∨ k = DD ∨ (fun k => k = bw) k) Wa Wa := .refl'
  refine x_region rfl <| aS rfl <| en <| ⟨HK, ?_⟩
  intro ds1 Wc cL hrec2
  replace HC0 := HC0.then1 cL ge_lp
  replace hT := hT.tr cL (by intro k hx hD; simp only [List.mem_cons, List.mem_nil_iff, or_false] at hx; have hD2 : k < w0.heap.size := hD; omega)
  replace hmx := hmx.tr cL q1
  replace hM := hM.tr cL (by intro k hk hx; have hlo := (hM.lt k hk).1; simp only [List.mem_singleton] at hx; subst hx; first | exact nm_lp hk | omega | (cases hk; done))
  replace hb4 := hb4.tr1 cL ne_b2_lp
  replace hb8 := hb8.tr1 cL ne_b3_lp
  replace hbw := hbw.tr1 cL ne_bw_lp
  replace hD4 := Nat.lt_of_lt_of_le hD4 cL.size
  replace hD5 := Nat.lt_of_lt_of_le hD5 cL.size
  replace hb6 := hb6.tr1 cL ne_b6_lp
  replace hbP := hbP.tr1 cL ne_b_lp
  replace hoQ := hoQ.trF flat_flat cL (by intro k hk hx; have hD9 := hoQ.inD _ hk; simp only [List.mem_cons, List.mem_nil_iff, or_false] at hx; omega)
  have HK : Kept (fun k => k = lp ∨ k = DD ∨ (fun k => k = bw) k) Wc Wc := .refl'
  refine x_block <| x_seq <| x_draw [(0, 0), (1, 0), (2, 0), (3, 0), (4, 0), (5, 0), (6, 0), (7, 0), (8, 0), (9, 1), (10, 0), (11, 0), (12, 0), (13, 0), (14, 0)] T.mixed rfl rfl rfl (fun W => W.heap[b2]? = Wc.heap[b2]? ∧ W.heap[b3]? = Wc.heap[b3]? ∧ W.heap[bw]? = Wc.heap[bw]? ∧ W.heap[b6]? = Wc.heap[b6]? ∧ W.heap[b]? = Wc.heap[b]? ∧ True) ⟨rfl, rfl, rfl, rfl, rfl, trivial⟩ ?_
  have o22 := hb4
  have o23 := hb8
  have o24 := hbw
  have o25 := hb6
  have o26 := hbP
  have c21 := Chg.drew Wc
  generalize World.drew Wc = w20 at c21 ⊢
  replace HC0 := HC0.then c21
  replace hT := hT.tr0 c21
  replace hmx := hmx.tr0 c21
  replace hM := hM.tr c21 (by simp)
  replace hb4 := hb4.tr0 c21
  replace hb8 := hb8.tr0 c21
  replace hbw := hbw.tr0 c21
  replace hD4 := Nat.lt_of_lt_of_le hD4 c21.size
  replace hD5 := Nat.lt_of_lt_of_le hD5 c21.size
  replace hb6 := hb6.tr0 c21
  replace hbP := hbP.tr0 c21
  replace hoQ := hoQ.tr0 c21
  replace HK := HK.chg c21 (fun k hx => absurd hx (by simp))
  refine sq_q rfl (fun W hT => r_load1 (v := .pointer _) T.one100 rfl (Blk.cell (show Blk W b2 _ _ from hT.1.trans o22) rfl)) <| sq_q rfl (fun W hT => r_nilCheck rfl) <| sq_q rfl (fun W hT => r_fieldAddr T.fld127_0 rfl) <| sq_q rfl (fun W hT => r_loadA (vs := [_, _, _]) T.agg24 rfl (Blk.cells (n := 3) (vs := [_, _, _]) (show Blk W b _ _ from hT.2.2.2.2.1.trans o26) rfl) rfl) <| sq_q rfl (fun W hT => r_load1 (v := .pointer _) T.one100 rfl (Blk.cell (show Blk W b2 _ _ from hT.1.trans o22) rfl)) <| sq_q rfl (fun W hT => r_nilCheck rfl) <| sq_q rfl (fun W hT => r_fieldAddr T.fld127_1 rfl) <| sq_q rfl (fun W hT => r_load1 (v := .int _ _) T.one3 rfl (Blk.cell (show Blk W b _ _ from hT.2.2.2.2.1.trans o26) rfl)) <| sq_q rfl (fun W hT => r_move (v := S _) rfl) <| sq_call1 rfl (r_call (ags := [_, _, _]) rfl rfl T.ent87 rfl) (step_spec hT hTl hF u.cur y) ?_
  rintro _ w27 ⟨rfl, c28⟩
  replace HC0 := HC0.then c28
  replace hT := hT.tr0 c28
  replace hmx := hmx.tr0 c28
  replace hM := hM.tr c28 (by simp)
  replace hb4 := hb4.tr0 c28
  replace hb8 := hb8.tr0 c28
  replace hbw := hbw.tr0 c28
  replace hD4 := Nat.lt_of_lt_of_le hD4 c28.size
  replace hD5 := Nat.lt_of_lt_of_le hD5 c28.size
  replace hb6 := hb6.tr0 c28
  replace hbP := hbP.tr0 c28
  replace hoQ := hoQ.tr0 c28
  replace HK := HK.chg c28 (fun k hx => absurd hx (by simp))
  refine ⟨_, fun _ h => h, ⟨(Eq.trans hb4 o22.symm), (Eq.trans hb8 o23.symm), (Eq.trans hbw o24.symm), (Eq.trans hb6 o25.symm), (Eq.trans hbP o26.symm), trivial⟩, ?_⟩
  refine sq_q rfl (fun W hT => r_move (v := .tuple ⟨[_, _]⟩) rfl) <| sq_q rfl (fun W hT => r_extract (vs := [_, _]) (v := .int _ _) rfl rfl) <| sq_q rfl (fun W hT => r_extract (vs := [_, _]) (v := .int _ _) rfl rfl) <| sq_q rfl (fun W hT => r_assign (v := .int _ _) rfl) <| sq_q rfl (fun W hT => r_assign (v := .int _ _) rfl) ?_
  clear o22
  clear o23
  clear o24
  clear o25
  clear o26
  refine sq_nil <| then_n <| x_block <| sr rfl <| mI rfl <| Wp rfl <| st_neq rfl rfl <| aB rfl <| en <| x_cond rfl (fun h0 => ?_) (fun h0 => ?_)
  ·try simp only [nm, ne_eq] at h0
   refine sr rfl <| mI rfl <| Wp rfl <| st_st (v := .int _ _) T.size76 rfl rfl rfl hb6 ?_
   intro w29 c30 hb31; simp only [setVs, setV] at hb31
   clear hb6
   replace HC0 := HC0.then1 c30 ge_b6
   replace hT := hT.tr c30 (by intro k hx hD; simp only [List.mem_cons, List.mem_nil_iff, or_false] at hx; have hD2 : k < w0.heap.size := hD; omega)
   replace hmx := hmx.tr c30 q1
   replace hM := hM.tr c30 (by intro k hk hx; have hlo := (hM.lt k hk).1; simp only [List.mem_singleton] at hx; subst hx; first | exact nm_b6 hk | omega | (cases hk; done))
   replace hb4 := hb4.tr1 c30 ne_b2_b6
   replace hb8 := hb8.tr1 c30 ne_b3_b6
   replace hbw := hbw.tr1 c30 (Ne.symm ne_b6_bw)
   replace hD4 := Nat.lt_of_lt_of_le hD4 c30.size
   replace hD5 := Nat.lt_of_lt_of_le hD5 c30.size
   replace HK := HK.chg c30 (by
    intro k hx hK
    obtain rfl := List.mem_singleton.1 hx
    rcases hK with h | h | (h)
    · exact absurd h ne_b6_lp
    · exact absurd h ne_b6_DD
    · exact absurd h ne_b6_bw)
   refine en <| x_exit <| block_o rfl <| block_o rfl <| ⟨HK, ?_⟩
   exact ⟨rfl, ⟨(stepV Z u.cur y).2, (by have hn : nxtW Z last u y l = ((stepV Z u.cur y).2, u) := (by unfold nxtW; rw [if_pos (by first | assumption | simpa using h0)]); rcases hcs with h | h; (rw [hn] at h; exact ⟨by rw [← hgo]; exact h.2, h.1⟩); (rw [hn] at h; exact absurd h.1 (by first | assumption | simpa using h0))), HC0, hT, hmx, hM, hb4, hb8, hbw, hD4, hD5, hb31⟩⟩
  ·try simp only [nm, ne_eq] at h0
   have he0 : (stepV Z u.cur y).2 = 0 := by first | assumption | simpa using h0
   have hsi := step_in hF he0
   obtain ⟨nd, hnd, hndk, hndd, _⟩ := kind_dir hsi
   refine sr rfl <| Wp rfl <| st_load1 (v := .pointer _) T.one100 rfl (hb4.cell rfl) <| nc rfl <| fa T.fld127_0 rfl <| fa T.fld24_0 rfl <| lL T.one22 rfl (hbP.cell rfl) <| mI rfl ?_
   obtain ⟨lb36, _, vs35, hA32, hR34, hC33⟩ := hT.at (i := ((stepV Z u.cur y).1.toNat)) (x := nd) (hnd)
   obtain ⟨K37, cK37, rfl, hk1_37, hk2_37, hk3_37⟩ := hR34
   refine Wp rfl <| st_indexAddr T.u22 T.size36 (congrArg (fun z => Value.slice z _ _) hA32) rfl (by omega) (by omega) <| fa T.fld36_0 rfl <| lI T.one3 rfl (hC33.at (j := 0) rfl) <| Wp rfl <| st_neq rfl rfl <| mB rfl <| w_split (d := 59) rfl (fun g38 => ?_) (fun g38 => ?_)
   ·try simp only [nm, ne_eq] at g38
    iterate 7 refine w_no 10 59 false ?_
    refine w_no 17 66 true <| w_no 17 66 true <| w_no 10 59 false <| pT rfl rfl <| aB rfl <| en <| x_cond (t := true) rfl (fun h1 => ?_) (fun h1 => ?_)
    rotate_left
    · exact absurd h1 (by decide)
    have hnx : nxtW Z last u y l = (0, ⟨(stepV Z u.cur y).1, l, u.links⟩) := by unfold nxtW; rw [if_neg (fun h => h he0), if_pos (by rw [hndk]; first | (left; assumption) | (right; simp_all; done) | (left; simp_all; done))]
    obtain ⟨hn1, hrest, hgo2⟩ := hcs.resolve_left (fun h => h.1 (by rw [hnx]))
    have hm2 := nxtW_m (last := last) hF hul hu0 hu8 hn1
    rw [hnx] at hrest hgo2 hm2
    refine x_region rfl <| Wp rfl <| st_load1 (v := .pointer _) T.one100 rfl (hb4.cell rfl) <| mI rfl <| nc rfl <| fa T.fld127_1 rfl <| Wp rfl <| st_st (v := .int _ _) T.size3 rfl rfl rfl hbP ?_
    intro w39 c40 hb41; simp only [setVs, setV] at hb41
    clear hbP
    replace HC0 := HC0.then1 c40 ge_b
    replace hT := hT.tr c40 (by intro k hx hD; simp only [List.mem_cons, List.mem_nil_iff, or_false] at hx; have hD2 : k < w0.heap.size := hD; omega)
    replace hmx := hmx.tr c40 q1
    replace hM := hM.tr c40 (by intro k hk hx; have hlo := (hM.lt k hk).1; simp only [List.mem_singleton] at hx; subst hx; first | exact nm_b hk | omega | (cases hk; done))
    replace hb4 := hb4.tr1 c40 (Ne.symm ne_b_b2)
    replace hb8 := hb8.tr1 c40 (Ne.symm ne_b_b3)
    replace hbw := hbw.tr1 c40 (Ne.symm ne_b_bw)
    replace hD4 := Nat.lt_of_lt_of_le hD4 c40.size
    replace hD5 := Nat.lt_of_lt_of_le hD5 c40.size
    replace hb6 := hb6.tr1 c40 (Ne.symm ne_b_b6)
    replace hoQ := hoQ.trF flat_flat c40 (by intro k hk hx; have hD9 := hoQ.inD _ hk; simp only [List.mem_cons, List.mem_nil_iff, or_false] at hx; omega)
    replace HK := HK.chg c40 (by
     intro k hx hK
     obtain rfl := List.mem_singleton.1 hx
     rcases hK with h | h | (h)
     · exact absurd h ne_b_lp
     · exact absurd h ne_b_DD
     · exact absurd h ne_b_bw)
    refine wops_nil <| block_n <| block_n <| ⟨HK, ?_⟩
    exact ⟨⟨(stepV Z u.cur y).1, l, u.links⟩, j, A, c, ⟨by rw [hxs, hrest]; simp, by rw [← hgo2]; exact hgo, by have h9 := hm2.1; dsimp only at h9; omega , by omega, hm2.2.1, hm2.2.2⟩, HC0, hT, hmx, hM, hb4, hb8, hbw, hD4, hD5, hb41, hoQ, hb6⟩
   ·try simp only [nm, ne_eq] at g38
    refine w_yes 10 59 false <| st_load1 (v := .pointer _) T.one100 rfl (hb4.cell rfl) <| w_yes 10 59 false <| st_nilCheck rfl <| w_yes 10 59 false <| st_fieldAddr T.fld127_2 rfl <| w_yes 10 59 false <| st_load1 (v := .slice _ _ _) T.one29 rfl (hbP.cell rfl) <| w_yes 10 59 false <| st_len (ct := #[29]) (by rw [show ((#[29] : Array TypeId)[0]?).bind Tryz.prog.underlying = some (.slice 9) from T.u29]; rfl) rfl <| w_yes 10 59 false <| st_eql rfl rfl <| w_yes 10 59 false <| st_move (v := .bool _) rfl <| w_split (d := 66) rfl (fun g42 => ?_) (fun g42 => ?_)
    ·try simp only [nm, ne_eq] at g42
     refine w_yes 17 66 true <| st_load1 (v := .bool _) T.one4 rfl (hb8.cell rfl) <| w_yes 17 66 true <| st_not rfl <| w_yes 10 59 false <| st_pick (b := true) (v := .bool _) rfl rfl <| pF rfl rfl <| aB rfl <| en <| x_cond rfl (fun h1 => ?_) (fun h1 => ?_)
     ·try simp only [nm, ne_eq] at h1
      have hnx : nxtW Z last u y l = (0, ⟨(stepV Z u.cur y).1, l, u.links⟩) := by unfold nxtW; rw [if_neg (fun h => h he0), if_pos (by rw [hndk]; first | (left; assumption) | (right; simp_all; done) | (left; simp_all; done))]
      obtain ⟨hn1, hrest, hgo2⟩ := hcs.resolve_left (fun h => h.1 (by rw [hnx]))
      have hm2 := nxtW_m (last := last) hF hul hu0 hu8 hn1
      rw [hnx] at hrest hgo2 hm2
      refine x_region rfl <| Wp rfl <| st_load1 (v := .pointer _) T.one100 rfl (hb4.cell rfl) <| mI rfl <| nc rfl <| fa T.fld127_1 rfl <| Wp rfl <| st_st (v := .int _ _) T.size3 rfl rfl rfl hbP ?_
      intro w43 c44 hb45; simp only [setVs, setV] at hb45
      clear hbP
      replace HC0 := HC0.then1 c44 ge_b
      replace hT := hT.tr c44 (by intro k hx hD; simp only [List.mem_cons, List.mem_nil_iff, or_false] at hx; have hD2 : k < w0.heap.size := hD; omega)
      replace hmx := hmx.tr c44 q1
      replace hM := hM.tr c44 (by intro k hk hx; have hlo := (hM.lt k hk).1; simp only [List.mem_singleton] at hx; subst hx; first | exact nm_b hk | omega | (cases hk; done))
      replace hb4 := hb4.tr1 c44 (Ne.symm ne_b_b2)
      replace hb8 := hb8.tr1 c44 (Ne.symm ne_b_b3)
      replace hbw := hbw.tr1 c44 (Ne.symm ne_b_bw)
      replace hD4 := Nat.lt_of_lt_of_le hD4 c44.size
      replace hD5 := Nat.lt_of_lt_of_le hD5 c44.size
      replace hb6 := hb6.tr1 c44 (Ne.symm ne_b_b6)
      replace hoQ := hoQ.trF flat_flat c44 (by intro k hk hx; have hD9 := hoQ.inD _ hk; simp only [List.mem_cons, List.mem_nil_iff, or_false] at hx; omega)
      replace HK := HK.chg c44 (by
       intro k hx hK
       obtain rfl := List.mem_singleton.1 hx
       rcases hK with h | h | (h)
       · exact absurd h ne_b_lp
       · exact absurd h ne_b_DD
       · exact absurd h ne_b_bw)
      refine wops_nil <| block_n <| block_n <| ⟨HK, ?_⟩
      exact ⟨⟨(stepV Z u.cur y).1, l, u.links⟩, j, A, c, ⟨by rw [hxs, hrest]; simp, by rw [← hgo2]; exact hgo, by have h9 := hm2.1; dsimp only at h9; omega , by omega, hm2.2.1, hm2.2.2⟩, HC0, hT, hmx, hM, hb4, hb8, hbw, hD4, hD5, hb45, hoQ, hb6⟩
     ·try simp only [nm, ne_eq] at h1
      have hnl : ¬ (¬ kindV Z (stepV Z u.cur y).1 = 3 ∨ (l = [] ∧ last = false)) := by rw [hndk]; intro h; rcases h with h | h; (exact h (by first | assumption | simp_all)); simp_all
      refine sr rfl <| Wp rfl <| st_load1 (v := .pointer _) T.one100 rfl (hb4.cell rfl) <| nc rfl <| fa T.fld127_3 rfl <| lI T.one3 rfl (hbP.cell rfl) <| Wp rfl <| st_eql rfl rfl <| aB rfl <| en <| x_cond rfl (fun h2 => ?_) (fun h2 => ?_)
      ·try simp only [nm, ne_eq] at h2
       refine sr rfl <| Wp rfl <| st_st (v := .int _ _) T.size76 rfl rfl rfl hb6 ?_
       intro w46 c47 hb48; simp only [setVs, setV] at hb48
       clear hb6
       replace HC0 := HC0.then1 c47 ge_b6
       replace hT := hT.tr c47 (by intro k hx hD; simp only [List.mem_cons, List.mem_nil_iff, or_false] at hx; have hD2 : k < w0.heap.size := hD; omega)
       replace hmx := hmx.tr c47 q1
       replace hM := hM.tr c47 (by intro k hk hx; have hlo := (hM.lt k hk).1; simp only [List.mem_singleton] at hx; subst hx; first | exact nm_b6 hk | omega | (cases hk; done))
       replace hb4 := hb4.tr1 c47 ne_b2_b6
       replace hb8 := hb8.tr1 c47 ne_b3_b6
       replace hbw := hbw.tr1 c47 (Ne.symm ne_b6_bw)
       replace hD4 := Nat.lt_of_lt_of_le hD4 c47.size
       replace hD5 := Nat.lt_of_lt_of_le hD5 c47.size
       replace HK := HK.chg c47 (by
        intro k hx hK
        obtain rfl := List.mem_singleton.1 hx
        rcases hK with h | h | (h)
        · exact absurd h ne_b6_lp
        · exact absurd h ne_b6_DD
        · exact absurd h ne_b6_bw)
       refine en <| x_exit <| block_o rfl <| block_o rfl <| ⟨HK, ?_⟩
       exact ⟨rfl, ⟨40, (by have hn : nxtW Z last u y l = (40, u) := (by unfold nxtW; rw [if_neg (fun h => h he0), if_neg hnl, if_pos (by first | assumption | omega)]); rcases hcs with h | h; (rw [hn] at h; exact ⟨by rw [← hgo]; exact h.2, by decide⟩); (rw [hn] at h; exact absurd (show (40 : Int) = 0 from h.1) (by decide))), HC0, hT, hmx, hM, hb4, hb8, hbw, hD4, hD5, hb48⟩⟩
      ·try simp only [nm, ne_eq] at h2
       have hnx : nxtW Z last u y l = (0, ⟨curV (dataV Z (stepV Z u.cur y).1) u.cur, partsV (dataV Z (stepV Z u.cur y).1) ++ l, u.links + 1⟩) := by unfold nxtW; rw [if_neg (fun h => h he0), if_neg hnl, if_neg (by first | assumption | omega)]
       obtain ⟨hn1, hrest, hgo2⟩ := hcs.resolve_left (fun h => h.1 (by rw [hnx]))
       have hm2 := nxtW_m (last := last) hF hul hu0 hu8 hn1
       rw [hnx] at hrest hgo2 hm2
       refine sr rfl <| Wp rfl <| st_load1 (v := .pointer _) T.one100 rfl (hb4.cell rfl) <| nc rfl <| fa T.fld127_3 rfl <| lI T.one3 rfl (hbP.cell rfl) <| Wp rfl <| st_addn rfl rfl (by constructor <;> omega) <| nc rfl <| fa T.fld127_3 rfl <| Wp rfl <| st_st (v := .int _ _) T.size3 rfl rfl rfl hbP ?_
       intro w49 c50 hb51; simp only [setVs, setV] at hb51
       clear hbP
       replace HC0 := HC0.then1 c50 ge_b
       replace hT := hT.tr c50 (by intro k hx hD; simp only [List.mem_cons, List.mem_nil_iff, or_false] at hx; have hD2 : k < w0.heap.size := hD; omega)
       replace hmx := hmx.tr c50 q1
       replace hM := hM.tr c50 (by intro k hk hx; have hlo := (hM.lt k hk).1; simp only [List.mem_singleton] at hx; subst hx; first | exact nm_b hk | omega | (cases hk; done))
       replace hb4 := hb4.tr1 c50 (Ne.symm ne_b_b2)
       replace hb8 := hb8.tr1 c50 (Ne.symm ne_b_b3)
       replace hbw := hbw.tr1 c50 (Ne.symm ne_b_bw)
       replace hD4 := Nat.lt_of_lt_of_le hD4 c50.size
       replace hD5 := Nat.lt_of_lt_of_le hD5 c50.size
       replace hb6 := hb6.tr1 c50 (Ne.symm ne_b_b6)
       replace hoQ := hoQ.trF flat_flat c50 (by intro k hk hx; have hD9 := hoQ.inD _ hk; simp only [List.mem_cons, List.mem_nil_iff, or_false] at hx; omega)
       replace HK := HK.chg c50 (by
        intro k hx hK
        obtain rfl := List.mem_singleton.1 hx
        rcases hK with h | h | (h)
        · exact absurd h ne_b_lp
        · exact absurd h ne_b_DD
        · exact absurd h ne_b_bw)
       refine en ?_
       obtain ⟨lb56, _, vs55, hA52, hR54, hC53⟩ := hT.at (i := ((stepV Z u.cur y).1.toNat)) (x := nd) (hnd)
       obtain ⟨K57, cK57, rfl, hk1_57, hk2_57, hk3_57⟩ := hR54
       refine x_draw [(0, 0), (1, 0), (2, 0), (3, 0), (4, 0), (5, 0), (6, 0), (7, 0), (8, 0), (9, 0), (10, 2)] T.mixed rfl rfl rfl (fun W => W.heap[b2]? = w49.heap[b2]? ∧ W.heap[b3]? = w49.heap[b3]? ∧ W.heap[bw]? = w49.heap[bw]? ∧ W.heap[b6]? = w49.heap[b6]? ∧ W.heap[b]? = w49.heap[b]? ∧ W.heap[lb56]? = w49.heap[lb56]? ∧ True) ⟨rfl, rfl, rfl, rfl, rfl, rfl, trivial⟩ ?_
       have o60 := hb4
       have o61 := hb8
       have o62 := hbw
       have o63 := hb6
       have o64 := hb51
       have c59 := Chg.drew w49
       generalize World.drew w49 = w58 at c59 ⊢
       have ht_lb56 : lb56 < w58.heap.size ∧ w58.heap[lb56]? = w49.heap[lb56]? := ⟨Nat.lt_of_lt_of_le hC53.lt c59.size, c59.block lb56 hC53.lt (by simp)⟩
       replace HC0 := HC0.then c59
       replace hT := hT.tr0 c59
       replace hmx := hmx.tr0 c59
       replace hM := hM.tr c59 (by simp)
       replace hb4 := hb4.tr0 c59
       replace hb8 := hb8.tr0 c59
       replace hbw := hbw.tr0 c59
       replace hD4 := Nat.lt_of_lt_of_le hD4 c59.size
       replace hD5 := Nat.lt_of_lt_of_le hD5 c59.size
       replace hb6 := hb6.tr0 c59
       replace hoQ := hoQ.tr0 c59
       replace HK := HK.chg c59 (fun k hx => absurd hx (by simp))
       replace hb51 := hb51.tr0 c59
       refine sq_q rfl (fun W hT => r_load1 (v := .pointer _) T.one100 rfl (Blk.cell (show Blk W b2 _ _ from hT.1.trans o60) rfl)) <| sq_q rfl (fun W hT => r_load1 (v := .pointer _) T.one100 rfl (Blk.cell (show Blk W b2 _ _ from hT.1.trans o60) rfl)) <| sq_q rfl (fun W hT => r_nilCheck rfl) <| sq_q rfl (fun W hT => r_fieldAddr T.fld127_0 rfl) <| sq_q rfl (fun W hT => r_fieldAddr T.fld24_0 rfl) <| sq_q rfl (fun W hT => r_load1 (v := .slice _ _ _) T.one22 rfl (Blk.cell (show Blk W b _ _ from hT.2.2.2.2.1.trans o64) rfl)) <| sq_q rfl (fun W hT => r_move (v := .int _ _) rfl) <| sq_q rfl (fun W hT => r_indexAddr T.u22 T.size36 (congrArg (fun z => Value.slice z _ _) hA52) rfl (by omega) (by omega)) <| sq_q rfl (fun W hT => r_fieldAddr T.fld36_3 rfl) <| sq_q rfl (fun W hT => r_load1 (v := S _) T.one9 rfl (Cells.at (j := 3) (Cells.tr hC53 hT.2.2.2.2.2.1) rfl)) ?_
       have hdl := data_len hF (stepV Z u.cur y).1
       have hpb : b ≠ 0 := by omega
       have hiQ := hoQ.inD
       have hszQ := HC0.size
       refine sq_call2 rfl (r_call (ags := [_, _]) rfl rfl T.ent83 rfl) (push_spec (D := (fun k => w0.heap.size ≤ k ∧ k ≠ b ∧ k ≠ b2 ∧ k ≠ b3 ∧ k ≠ b6 ∧ k ≠ bw ∧ k ≠ lp ∧ k ≠ DD)) (l := l.reverse) nd.data hb51 hoQ (fun k h => h.2.1) (fun k h => ⟨by omega, by have := hb51.lt; omega, by have := hb4.lt; omega, by have := hb8.lt; omega, by have := hb6.lt; omega, by have := hbw.lt; omega, by have := hD5; omega, by have := hD4; omega⟩) hmx hpb (by rw [← hndd]; omega) (by rw [List.length_reverse]; have h9 : mW u < 600001 := (by omega); unfold mW at h9; rw [hul] at h9; simp at h9; omega)) ?_
       rintro _ w65 ⟨rfl, ⟨A2, c2, hb2z, ho2z, hob2⟩, c66⟩
       replace HC0 := HC0.trans c66 (fun k hk => .inr ((List.mem_cons.1 hk).elim (fun h => by rw [h]; exact ge_b) (fun h => (hiQ _ h).1)))
       replace hT := hT.tr c66 (fun k hk hD => (List.mem_cons.1 hk).elim (fun h => Nat.not_le.2 (show k < w0.heap.size from hD) (by rw [h]; exact ge_b)) (fun h => Nat.not_le.2 (show k < w0.heap.size from hD) (hiQ _ h).1))
       replace hmx := hmx.tr c66 (fun hx => (List.mem_cons.1 hx).elim (fun h => Nat.not_le.2 hm0 (by rw [h]; exact ge_b)) (fun h => Nat.not_le.2 hm0 (hiQ _ h).1))
       replace hM := hM.tr c66 (fun k hk => by cases hk)
       replace hb4 := hb4.tr c66 (fun hx => (List.mem_cons.1 hx).elim (fun h => absurd h (Ne.symm ne_b_b2)) (fun h => (hiQ _ h).2.2.1 rfl))
       replace hb8 := hb8.tr c66 (fun hx => (List.mem_cons.1 hx).elim (fun h => absurd h (Ne.symm ne_b_b3)) (fun h => (hiQ _ h).2.2.2.1 rfl))
       replace hbw := hbw.tr c66 (fun hx => (List.mem_cons.1 hx).elim (fun h => absurd h (Ne.symm ne_b_bw)) (fun h => (hiQ _ h).2.2.2.2.2.1 rfl))
       replace hD4 := Nat.lt_of_lt_of_le hD4 c66.size
       replace hD5 := Nat.lt_of_lt_of_le hD5 c66.size
       replace hb6 := hb6.tr c66 (fun hx => (List.mem_cons.1 hx).elim (fun h => absurd h (Ne.symm ne_b_b6)) (fun h => (hiQ _ h).2.2.2.2.1 rfl))
       replace HK := HK.chg c66 (by intro k hx hK; exfalso; rcases List.mem_cons.1 hx with h8 | h8; (rcases hK with h | h | h <;> (rw [h8] at h; first | exact absurd h ne_b_lp | exact absurd h ne_b_DD | exact absurd h ne_b_bw)); (have h9 := hiQ _ h8; rcases hK with h | h | h; (exact absurd h h9.2.2.2.2.2.2.1); (exact absurd h h9.2.2.2.2.2.2.2); (exact absurd h h9.2.2.2.2.2.1)))
       rw [← List.reverse_append, ← hndd] at hb2z ho2z
       clear o60
       clear o61
       clear o62
       clear o63
       clear o64
       refine sq_nil <| block_n <| block_n <| ⟨HK, ?_⟩
       exact ⟨⟨curV (dataV Z (stepV Z u.cur y).1) u.cur, partsV (dataV Z (stepV Z u.cur y).1) ++ l, u.links + 1⟩, j, A2, c2, ⟨by rw [hxs, hrest]; simp, by rw [← hgo2]; exact hgo, by have h9 := hm2.1; dsimp only at h9; omega , by omega, hm2.2.1, hm2.2.2⟩, HC0, hT, hmx, hM, hb4, hb8, hbw, hD4, hD5, hb2z, ho2z, hb6⟩
    ·try simp only [nm, ne_eq] at g42
     refine w_no 17 66 true <| w_no 17 66 true <| w_yes 10 59 false <| st_pick (b := false) (v := .bool _) rfl rfl <| pF rfl rfl <| aB rfl <| en <| x_cond (t := false) rfl (fun h1 => ?_) (fun h1 => ?_)
     · exact absurd h1 (by decide)
     have hnl : ¬ (¬ kindV Z (stepV Z u.cur y).1 = 3 ∨ (l = [] ∧ last = false)) := by rw [hndk]; intro h; rcases h with h | h; (exact h (by first | assumption | simp_all)); simp_all
     refine sr rfl <| Wp rfl <| st_load1 (v := .pointer _) T.one100 rfl (hb4.cell rfl) <| nc rfl <| fa T.fld127_3 rfl <| lI T.one3 rfl (hbP.cell rfl) <| Wp rfl <| st_eql rfl rfl <| aB rfl <| en <| x_cond rfl (fun h2 => ?_) (fun h2 => ?_)
     ·try simp only [nm, ne_eq] at h2
      refine sr rfl <| Wp rfl <| st_st (v := .int _ _) T.size76 rfl rfl rfl hb6 ?_
      intro w67 c68 hb69; simp only [setVs, setV] at hb69
      clear hb6
      replace HC0 := HC0.then1 c68 ge_b6
      replace hT := hT.tr c68 (by intro k hx hD; simp only [List.mem_cons, List.mem_nil_iff, or_false] at hx; have hD2 : k < w0.heap.size := hD; omega)
      replace hmx := hmx.tr c68 q1
      replace hM := hM.tr c68 (by intro k hk hx; have hlo := (hM.lt k hk).1; simp only [List.mem_singleton] at hx; subst hx; first | exact nm_b6 hk | omega | (cases hk; done))
      replace hb4 := hb4.tr1 c68 ne_b2_b6
      replace hb8 := hb8.tr1 c68 ne_b3_b6
      replace hbw := hbw.tr1 c68 (Ne.symm ne_b6_bw)
      replace hD4 := Nat.lt_of_lt_of_le hD4 c68.size
      replace hD5 := Nat.lt_of_lt_of_le hD5 c68.size
      replace HK := HK.chg c68 (by
       intro k hx hK
       obtain rfl := List.mem_singleton.1 hx
       rcases hK with h | h | (h)
       · exact absurd h ne_b6_lp
       · exact absurd h ne_b6_DD
       · exact absurd h ne_b6_bw)
      refine en <| x_exit <| block_o rfl <| block_o rfl <| ⟨HK, ?_⟩
      exact ⟨rfl, ⟨40, (by have hn : nxtW Z last u y l = (40, u) := (by unfold nxtW; rw [if_neg (fun h => h he0), if_neg hnl, if_pos (by first | assumption | omega)]); rcases hcs with h | h; (rw [hn] at h; exact ⟨by rw [← hgo]; exact h.2, by decide⟩); (rw [hn] at h; exact absurd (show (40 : Int) = 0 from h.1) (by decide))), HC0, hT, hmx, hM, hb4, hb8, hbw, hD4, hD5, hb69⟩⟩
     ·try simp only [nm, ne_eq] at h2
      have hnx : nxtW Z last u y l = (0, ⟨curV (dataV Z (stepV Z u.cur y).1) u.cur, partsV (dataV Z (stepV Z u.cur y).1) ++ l, u.links + 1⟩) := by unfold nxtW; rw [if_neg (fun h => h he0), if_neg hnl, if_neg (by first | assumption | omega)]
      obtain ⟨hn1, hrest, hgo2⟩ := hcs.resolve_left (fun h => h.1 (by rw [hnx]))
      have hm2 := nxtW_m (last := last) hF hul hu0 hu8 hn1
      rw [hnx] at hrest hgo2 hm2
      refine sr rfl <| Wp rfl <| st_load1 (v := .pointer _) T.one100 rfl (hb4.cell rfl) <| nc rfl <| fa T.fld127_3 rfl <| lI T.one3 rfl (hbP.cell rfl) <| Wp rfl <| st_addn rfl rfl (by constructor <;> omega) <| nc rfl <| fa T.fld127_3 rfl <| Wp rfl <| st_st (v := .int _ _) T.size3 rfl rfl rfl hbP ?_
      intro w70 c71 hb72; simp only [setVs, setV] at hb72
      clear hbP
      replace HC0 := HC0.then1 c71 ge_b
      replace hT := hT.tr c71 (by intro k hx hD; simp only [List.mem_cons, List.mem_nil_iff, or_false] at hx; have hD2 : k < w0.heap.size := hD; omega)
      replace hmx := hmx.tr c71 q1
      replace hM := hM.tr c71 (by intro k hk hx; have hlo := (hM.lt k hk).1; simp only [List.mem_singleton] at hx; subst hx; first | exact nm_b hk | omega | (cases hk; done))
      replace hb4 := hb4.tr1 c71 (Ne.symm ne_b_b2)
      replace hb8 := hb8.tr1 c71 (Ne.symm ne_b_b3)
      replace hbw := hbw.tr1 c71 (Ne.symm ne_b_bw)
      replace hD4 := Nat.lt_of_lt_of_le hD4 c71.size
      replace hD5 := Nat.lt_of_lt_of_le hD5 c71.size
      replace hb6 := hb6.tr1 c71 (Ne.symm ne_b_b6)
      replace hoQ := hoQ.trF flat_flat c71 (by intro k hk hx; have hD9 := hoQ.inD _ hk; simp only [List.mem_cons, List.mem_nil_iff, or_false] at hx; omega)
      replace HK := HK.chg c71 (by
       intro k hx hK
       obtain rfl := List.mem_singleton.1 hx
       rcases hK with h | h | (h)
       · exact absurd h ne_b_lp
       · exact absurd h ne_b_DD
       · exact absurd h ne_b_bw)
      refine en ?_
      obtain ⟨lb77, _, vs76, hA73, hR75, hC74⟩ := hT.at (i := ((stepV Z u.cur y).1.toNat)) (x := nd) (hnd)
      obtain ⟨K78, cK78, rfl, hk1_78, hk2_78, hk3_78⟩ := hR75
      refine x_draw [(0, 0), (1, 0), (2, 0), (3, 0), (4, 0), (5, 0), (6, 0), (7, 0), (8, 0), (9, 0), (10, 2)] T.mixed rfl rfl rfl (fun W => W.heap[b2]? = w70.heap[b2]? ∧ W.heap[b3]? = w70.heap[b3]? ∧ W.heap[bw]? = w70.heap[bw]? ∧ W.heap[b6]? = w70.heap[b6]? ∧ W.heap[b]? = w70.heap[b]? ∧ W.heap[lb77]? = w70.heap[lb77]? ∧ True) ⟨rfl, rfl, rfl, rfl, rfl, rfl, trivial⟩ ?_
      have o81 := hb4
      have o82 := hb8
      have o83 := hbw
      have o84 := hb6
      have o85 := hb72
      have c80 := Chg.drew w70
      generalize World.drew w70 = w79 at c80 ⊢
      have ht_lb77 : lb77 < w79.heap.size ∧ w79.heap[lb77]? = w70.heap[lb77]? := ⟨Nat.lt_of_lt_of_le hC74.lt c80.size, c80.block lb77 hC74.lt (by simp)⟩
      replace HC0 := HC0.then c80
      replace hT := hT.tr0 c80
      replace hmx := hmx.tr0 c80
      replace hM := hM.tr c80 (by simp)
      replace hb4 := hb4.tr0 c80
      replace hb8 := hb8.tr0 c80
      replace hbw := hbw.tr0 c80
      replace hD4 := Nat.lt_of_lt_of_le hD4 c80.size
      replace hD5 := Nat.lt_of_lt_of_le hD5 c80.size
      replace hb6 := hb6.tr0 c80
      replace hoQ := hoQ.tr0 c80
      replace HK := HK.chg c80 (fun k hx => absurd hx (by simp))
      replace hb72 := hb72.tr0 c80
      refine sq_q rfl (fun W hT => r_load1 (v := .pointer _) T.one100 rfl (Blk.cell (show Blk W b2 _ _ from hT.1.trans o81) rfl)) <| sq_q rfl (fun W hT => r_load1 (v := .pointer _) T.one100 rfl (Blk.cell (show Blk W b2 _ _ from hT.1.trans o81) rfl)) <| sq_q rfl (fun W hT => r_nilCheck rfl) <| sq_q rfl (fun W hT => r_fieldAddr T.fld127_0 rfl) <| sq_q rfl (fun W hT => r_fieldAddr T.fld24_0 rfl) <| sq_q rfl (fun W hT => r_load1 (v := .slice _ _ _) T.one22 rfl (Blk.cell (show Blk W b _ _ from hT.2.2.2.2.1.trans o85) rfl)) <| sq_q rfl (fun W hT => r_move (v := .int _ _) rfl) <| sq_q rfl (fun W hT => r_indexAddr T.u22 T.size36 (congrArg (fun z => Value.slice z _ _) hA73) rfl (by omega) (by omega)) <| sq_q rfl (fun W hT => r_fieldAddr T.fld36_3 rfl) <| sq_q rfl (fun W hT => r_load1 (v := S _) T.one9 rfl (Cells.at (j := 3) (Cells.tr hC74 hT.2.2.2.2.2.1) rfl)) ?_
      have hdl := data_len hF (stepV Z u.cur y).1
      have hpb : b ≠ 0 := by omega
      have hiQ := hoQ.inD
      have hszQ := HC0.size
      refine sq_call2 rfl (r_call (ags := [_, _]) rfl rfl T.ent83 rfl) (push_spec (D := (fun k => w0.heap.size ≤ k ∧ k ≠ b ∧ k ≠ b2 ∧ k ≠ b3 ∧ k ≠ b6 ∧ k ≠ bw ∧ k ≠ lp ∧ k ≠ DD)) (l := l.reverse) nd.data hb72 hoQ (fun k h => h.2.1) (fun k h => ⟨by omega, by have := hb72.lt; omega, by have := hb4.lt; omega, by have := hb8.lt; omega, by have := hb6.lt; omega, by have := hbw.lt; omega, by have := hD5; omega, by have := hD4; omega⟩) hmx hpb (by rw [← hndd]; omega) (by rw [List.length_reverse]; have h9 : mW u < 600001 := (by omega); unfold mW at h9; rw [hul] at h9; simp at h9; omega)) ?_
      rintro _ w86 ⟨rfl, ⟨A2, c2, hb2z, ho2z, hob2⟩, c87⟩
      replace HC0 := HC0.trans c87 (fun k hk => .inr ((List.mem_cons.1 hk).elim (fun h => by rw [h]; exact ge_b) (fun h => (hiQ _ h).1)))
      replace hT := hT.tr c87 (fun k hk hD => (List.mem_cons.1 hk).elim (fun h => Nat.not_le.2 (show k < w0.heap.size from hD) (by rw [h]; exact ge_b)) (fun h => Nat.not_le.2 (show k < w0.heap.size from hD) (hiQ _ h).1))
      replace hmx := hmx.tr c87 (fun hx => (List.mem_cons.1 hx).elim (fun h => Nat.not_le.2 hm0 (by rw [h]; exact ge_b)) (fun h => Nat.not_le.2 hm0 (hiQ _ h).1))
      replace hM := hM.tr c87 (fun k hk => by cases hk)
      replace hb4 := hb4.tr c87 (fun hx => (List.mem_cons.1 hx).elim (fun h => absurd h (Ne.symm ne_b_b2)) (fun h => (hiQ _ h).2.2.1 rfl))
      replace hb8 := hb8.tr c87 (fun hx => (List.mem_cons.1 hx).elim (fun h => absurd h (Ne.symm ne_b_b3)) (fun h => (hiQ _ h).2.2.2.1 rfl))
      replace hbw := hbw.tr c87 (fun hx => (List.mem_cons.1 hx).elim (fun h => absurd h (Ne.symm ne_b_bw)) (fun h => (hiQ _ h).2.2.2.2.2.1 rfl))
      replace hD4 := Nat.lt_of_lt_of_le hD4 c87.size
      replace hD5 := Nat.lt_of_lt_of_le hD5 c87.size
      replace hb6 := hb6.tr c87 (fun hx => (List.mem_cons.1 hx).elim (fun h => absurd h (Ne.symm ne_b_b6)) (fun h => (hiQ _ h).2.2.2.2.1 rfl))
      replace HK := HK.chg c87 (by intro k hx hK; exfalso; rcases List.mem_cons.1 hx with h8 | h8; (rcases hK with h | h | h <;> (rw [h8] at h; first | exact absurd h ne_b_lp | exact absurd h ne_b_DD | exact absurd h ne_b_bw)); (have h9 := hiQ _ h8; rcases hK with h | h | h; (exact absurd h h9.2.2.2.2.2.2.1); (exact absurd h h9.2.2.2.2.2.2.2); (exact absurd h h9.2.2.2.2.2.1)))
      rw [← List.reverse_append, ← hndd] at hb2z ho2z
      clear o81
      clear o82
      clear o83
      clear o84
      clear o85
      refine sq_nil <| block_n <| block_n <| ⟨HK, ?_⟩
      exact ⟨⟨curV (dataV Z (stepV Z u.cur y).1) u.cur, partsV (dataV Z (stepV Z u.cur y).1) ++ l, u.links + 1⟩, j, A2, c2, ⟨by rw [hxs, hrest]; simp, by rw [← hgo2]; exact hgo, by have h9 := hm2.1; dsimp only at h9; omega , by omega, hm2.2.1, hm2.2.2⟩, HC0, hT, hmx, hM, hb4, hb8, hbw, hD4, hD5, hb2z, ho2z, hb6⟩
 ·rintro W9 ⟨u, k, A, c, ⟨htr, hgo, hmk, hk6, hu0, hu8⟩, HC0, hT, hmx, hM, hb4, hb8, hbw, hD4, hD5, hb, ho, hb6⟩ hDef
  replace hM := hM.cons (by omega) hDef nm_DD
  have nm_b2 : b2 ∉ mb (mk DD :: []) := fun hx => (List.mem_cons.1 (show b2 ∈ DD :: mb [] from hx)).elim (fun h => ne_b2_DD h) (fun h => by cases h)
  have nm_b3 : b3 ∉ mb (mk DD :: []) := fun hx => (List.mem_cons.1 (show b3 ∈ DD :: mb [] from hx)).elim (fun h => ne_b3_DD h) (fun h => by cases h)
  have nm_bw : bw ∉ mb (mk DD :: []) := fun hx => (List.mem_cons.1 (show bw ∈ DD :: mb [] from hx)).elim (fun h => ne_bw_DD h) (fun h => by cases h)
  have nm_b : b ∉ mb (mk DD :: []) := fun hx => (List.mem_cons.1 (show b ∈ DD :: mb [] from hx)).elim (fun h => ne_b_DD h) (fun h => by cases h)
  have nm_b6 : b6 ∉ mb (mk DD :: []) := fun hx => (List.mem_cons.1 (show b6 ∈ DD :: mb [] from hx)).elim (fun h => ne_b6_DD h) (fun h => by cases h)
  have hq9 : trV Z last k u = [] := by have h9 := congrArg List.length htr; simp at h9; exact h9
  obtain ⟨hul, hgl⟩ := trV_nil hmk hq9
  rw [hgl] at hgo
  refine block_n <| then_n <| x_seq <| sr rfl <| lI T.one76 rfl (hb6.cell rfl) <| Wp rfl <| st_neq rfl rfl <| en <| x_cond rfl (fun h3 => ?_) (fun h3 => ?_)
  ·try simp only [nm, ne_eq] at h3
   first | exact absurd rfl h3 | exact absurd trivial h3 | (simp at h3; done)
  ·try simp only [nm, ne_eq] at h3
   refine x_skip <| then_n <| sr rfl <| Wp rfl <| st_load1 (v := .pointer _) T.one100 rfl (hb4.cell rfl) <| nc rfl <| fa T.fld127_1 rfl <| lI T.one3 rfl (hb.cell rfl) <| aI rfl <| aI rfl <| en <| x_ret <| scope_r <| retM_marks hM ?_
   intro w99 c99
   have hlm := hM.lt
   replace HC0 := HC0.trans c99 (fun k hk => .inr (by have := (hlm k hk).1; omega))
   refine ret_tmp2 (v := .int _ _) (v2 := .int _ _) rfl rfl rfl ?_
   rw [← hgo]
   exact ⟨rfl, HC0⟩
 ·intro c pre W9 hX hDef
  obtain ⟨rfl, ⟨z, ⟨hz1, hz2⟩, HC0, hT, hmx, hM, hb4, hb8, hbw, hD4, hD5, hb6⟩⟩ := hX
  replace hM := hM.cons (by omega) hDef nm_DD
  have nm_b2 : b2 ∉ mb (mk DD :: []) := fun hx => (List.mem_cons.1 (show b2 ∈ DD :: mb [] from hx)).elim (fun h => ne_b2_DD h) (fun h => by cases h)
  have nm_b3 : b3 ∉ mb (mk DD :: []) := fun hx => (List.mem_cons.1 (show b3 ∈ DD :: mb [] from hx)).elim (fun h => ne_b3_DD h) (fun h => by cases h)
  have nm_bw : bw ∉ mb (mk DD :: []) := fun hx => (List.mem_cons.1 (show bw ∈ DD :: mb [] from hx)).elim (fun h => ne_bw_DD h) (fun h => by cases h)
  have nm_b6 : b6 ∉ mb (mk DD :: []) := fun hx => (List.mem_cons.1 (show b6 ∈ DD :: mb [] from hx)).elim (fun h => ne_b6_DD h) (fun h => by cases h)
  refine x_exit <| block_x <| then_n <| x_seq <| sr rfl <| lI T.one76 rfl (hb6.cell rfl) <| Wp rfl <| st_neq rfl rfl <| en <| x_cond rfl (fun h3 => ?_) (fun h3 => ?_)
  ·try simp only [nm, ne_eq] at h3
   refine x_seq <| x_draw [(0, 0), (1, 0), (2, 0)] T.mixed rfl rfl rfl (fun W => W.heap[b2]? = W9.heap[b2]? ∧ W.heap[b3]? = W9.heap[b3]? ∧ W.heap[bw]? = W9.heap[bw]? ∧ W.heap[b6]? = W9.heap[b6]? ∧ True) ⟨rfl, rfl, rfl, rfl, trivial⟩ ?_
   have o90 := hb4
   have o91 := hb8
   have o92 := hbw
   have o93 := hb6
   have c89 := Chg.drew W9
   generalize World.drew W9 = w88 at c89 ⊢
   replace HC0 := HC0.then c89
   replace hT := hT.tr0 c89
   replace hM := hM.tr c89 (by simp)
   refine sq_q rfl (fun W hT => r_load1 (v := .int _ _) T.one76 rfl (Blk.cell (show Blk W b6 _ _ from hT.2.2.2.1.trans o93) rfl)) <| sq_q rfl (fun W hT => r_assign (v := .int _ _) rfl) <| sq_q rfl (fun W hT => r_assign (v := .int _ _) rfl) ?_
   clear o90
   clear o91
   clear o92
   clear o93
   refine sq_nil <| then_n <| x_ret <| then_r <| scope_r <| retM_marks hM ?_
   intro w99 c99
   have hlm := hM.lt
   replace HC0 := HC0.trans c99 (fun k hk => .inr (by have := (hlm k hk).1; omega))
   refine ret_tmp2 (v := .int _ _) (v2 := .int _ _) rfl rfl rfl ?_
   rw [hz1]
   exact ⟨rfl, HC0⟩
  ·try simp only [nm, ne_eq] at h3
   exact absurd (by first | exact h3 | simpa using h3) hz2
end Go.Proofs.YtncnalboiljgiaaGreat.K
