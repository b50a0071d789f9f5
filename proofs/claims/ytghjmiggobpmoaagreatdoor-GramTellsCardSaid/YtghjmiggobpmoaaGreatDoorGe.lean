import Derived.Test.YtghjmiggobpmoaaGreatDoorTok
import Derived.Test.YtghjmiggobpmoaaGreatDoorGc
set_option linter.unusedVariables false
set_option linter.unusedSimpArgs false
set_option autoImplicit false
set_option maxRecDepth 20000
namespace Go.Proofs.YtghjmiggobpmoaaGreatDoor.K
open Go Go.Proofs Go.RowKit

theorem own_ne {α β : Type} {s1 s2 : Nat} {f1 : α → List Value} {f2 : β → List Value} {p1 l1 o1 p2 l2 o2} {e1 e2 : TypeId} {w : World} {D D' : Nat → Prop} {A B : Option Addr} {cap capw : Nat} {xs : List α} {ys : List β}
    (ho : Own (Enc.flat s1 f1 p1 l1 o1) e1 w D A cap xs) (hw : Own (Enc.flat s2 f2 p2 l2 o2) e2 w D' B capw ys) (hne : e1 ≠ e2) : ∀ k, k ∈ ob A → k ∉ ob B := by
  intro k hk
  cases A with
  | none => cases hk
  | some a =>
    obtain ⟨g, rest, rfl, hb, _⟩ := Own.raw (h := ho)
    simp only [ob, List.mem_singleton] at hk; subst hk
    exact hw.ne_blk hb hne
theorem simple_some {n : Nat} {a : List (Bytes × Bytes)} {ws : List Bytes} {rs : List Rdr} {Y R : List Tok} {x : Rdr} (h : redirG Y = .ok (some x) R) : simpleG (n + 1) a ws rs Y = simpleG n a ws (rs ++ [x]) R := by
  rw [simpleG, h]; rfl
theorem simple_end {n : Nat} {a : List (Bytes × Bytes)} {ws : List Bytes} {rs : List Rdr} {Y R : List Tok} (h : redirG Y = .ok none R) (hk : (hd Y).kind ≠ 1) : simpleG (n + 1) a ws rs Y = if rs.length + a.length + ws.length = 0 then .er Y 101 else .ok (.mk 1 [] false false a ws rs [] []) Y := by
  rw [simpleG, h]; simp only [Rs.bind, if_pos hk]
theorem simple_asg {n : Nat} {a : List (Bytes × Bytes)} {ws : List Bytes} {rs : List Rdr} {Y R : List Tok} (h : redirG Y = .ok none R) (hk : (hd Y).kind = 1) (ha : (assignG (hd Y).text).2 = true ∧ ws = []) : simpleG (n + 1) a ws rs Y = simpleG n (a ++ [(assignG (hd Y).text).1]) ws rs Y.tail := by
  rw [simpleG, h]; simp only [Rs.bind, if_neg (fun e : (hd Y).kind ≠ 1 => e hk), if_pos ha]
theorem simple_word {n : Nat} {a : List (Bytes × Bytes)} {ws : List Bytes} {rs : List Rdr} {Y R : List Tok} (h : redirG Y = .ok none R) (hk : (hd Y).kind = 1) (ha : ¬ ((assignG (hd Y).text).2 = true ∧ ws = [])) : simpleG (n + 1) a ws rs Y = simpleG n a (ws ++ [(hd Y).text]) rs Y.tail := by
  rw [simpleG, h]; simp only [Rs.bind, if_neg (fun e : (hd Y).kind ≠ 1 => e hk), if_neg ha]
theorem simple_er {n : Nat} {a : List (Bytes × Bytes)} {ws : List Bytes} {rs : List Rdr} {Y R : List Tok} {e : Int} (h : redirG Y = .er R e) : simpleG (n + 1) a ws rs Y = .er R e := by
  rw [simpleG, h]; rfl

theorem gsimple_spec {Z : List Tok} {rb tb : Nat} {d : Int} {w : World} (hg : GT Z) (hz : GB Z) (hR : RdAt w rb tb d Z) (hq : QOk rb tb) (hmx : MaxT w) (ht : Tab w) : CallP Tryz.prog 82 #[.pointer (some ⟨rb, 0, none⟩)] w (fun v w' => OkC (simpleG Z.length [] [] [] Z) Z rb tb d w w' v) (fun v w' => ErT (simpleG Z.length [] [] [] Z) Z rb w w' v) := by
 refine callP_of_wp (args := [_]) Tryz.func82 rfl (Nat.le_of_ble_eq_true rfl) ?_
 have HC : Chg [rb] w w := .refl _
 have hrl := hR.lt hg
 have hq9 := hq
 obtain ⟨hq1, hq2, hq3⟩ := hq9
 have ht1 := ht.lt
 have hm1 := hmx.lt
 have hzl := hz.1
 refine sr rfl <| Wp rfl <| st_alloc T.zero30 ?_
 intro b2 w1 e2 c3 hb4
 have ge_b2 := gB e2 HC.size
 replace HC := HC.then c3
 replace hR := hR.tr0 c3
 replace ht := ht.tr0 c3
 replace hmx := hmx.tr0 c3
 clear e2
 refine en <| sr rfl <| Wp rfl <| st_bld (ps := [(0, .const (.int .i64 1))]) (vs := [.int _ _, S _, .bool _, .bool _, .slice _ _ _, .slice _ _ _, .slice _ _ _, .slice _ _ _, .slice _ _ _]) T.bld30 rfl <| Wp rfl <| st_alloc T.zero30 ?_
 intro b3 w5 e6 c7 hb8
 have ge_b3 := gB e6 HC.size
 have ne_b2_b3 := nE e6 hb4.ne_size
 replace HC := HC.then c7
 replace hR := hR.tr0 c7
 replace ht := ht.tr0 c7
 replace hmx := hmx.tr0 c7
 replace hb4 := hb4.tr0 c7
 clear e6
 refine Wp rfl <| st_st (v := .agg ⟨[_, _, _, _, _, _, _, _, _]⟩) T.size30 rfl rfl rfl hb8 ?_
 intro w9 c10 hb11; simp only [setVs, setV] at hb11
 clear hb8
 replace HC := HC.then1 c10 ge_b3
 replace hR := hR.tr c10 q2
 replace ht := ht.tr c10 q1
 replace hmx := hmx.tr c10 q1
 replace hb4 := hb4.tr1 c10 ne_b2_b3
 refine en <| x_seq <| x_block ?_
 have oA : Own pairE2 56 w9 (fun k => w.heap.size ≤ k ∧ k ≠ b2 ∧ k ≠ b3) none 0 [] := Own.nil
 have oW : Own sE 9 w9 (fun k => w.heap.size ≤ k ∧ k ≠ b2 ∧ k ≠ b3) none 0 [] := Own.nil
 have oR : Own rdrE 40 w9 (fun k => w.heap.size ≤ k ∧ k ≠ b2 ∧ k ≠ b3) none 0 [] := Own.nil
 refine x_loop (ι := Nat × List (Bytes × Bytes) × List Bytes × List Rdr × List Tok × Option Addr × Nat × Option Addr × Nat × Option Addr × Nat) [4, 5, 6, 7, 8, 10, 11, 12, 13, 14, 15, 16, 17, 18, 19, 20, 21, 22, 23, 24, 25, 26, 27, 28, 29, 30, 31, 32, 33, 34, 35, 36, 37, 38, 39, 40, 41, 42, 43, 44, 45, 46, 47, 48, 49, 50, 51, 52] (fun ⟨n, a, ws, rs, Y, A4, c4, A5, c5, A6, c6⟩ => []) (fun ⟨n, a, ws, rs, Y, A4, c4, A5, c5, A6, c6⟩ W => (simpleG Z.length [] [] [] Z = simpleG n a ws rs Y ∧ Suf Y Z ∧ Y.length ≤ n ∧ a.length + ws.length + rs.length + Y.length ≤ Z.length) ∧ (Chg [rb] w W) ∧ (RdAt W rb tb d Y) ∧ (Tab W) ∧ (MaxT W) ∧ (Blk W b2 [.int .i64 0, S [], .bool false, .bool false, .slice none 0 0, .slice none 0 0, .slice none 0 0, .slice none 0 0, .slice none 0 0] 30) ∧ (Own pairE2 56 W (fun k => w.heap.size ≤ k ∧ k ≠ b2 ∧ k ≠ b3) A4 c4 a) ∧ (Own sE 9 W (fun k => w.heap.size ≤ k ∧ k ≠ b2 ∧ k ≠ b3) A5 c5 ws) ∧ (Own rdrE 40 W (fun k => w.heap.size ≤ k ∧ k ≠ b2 ∧ k ≠ b3) A6 c6 rs) ∧ (Blk W b3 [.int .i64 1, S [], .bool false, .bool false, .slice A4 a.length c4, .slice A5 ws.length c5, .slice A6 rs.length c6, .slice none 0 0, .slice none 0 0] 30)) (fun ⟨n, a, ws, rs, Y, A4, c4, A5, c5, A6, c6⟩ => Y.length) (Z.length, [], [], [], Z, none, 0, none, 0, none, 0) ?_ ?_ ?_
 · exact trivial
 ·refine ⟨?_, HC, hR, ht, hmx, hb4, oA, oW, oR, hb11⟩
  exact ⟨rfl, .refl hg, Nat.le_refl _, by simp⟩
 intro ⟨n, a, ws, rs, Y, A4, c4, A5, c5, A6, c6⟩ G13 w12 ⟨⟨hse, hsY, hn, hll⟩, HC, hR, ht, hmx, hb4, oA, oW, oR, hb3⟩
 change wp _ _ _ _ _ (upds (over _ _ G13) []) _ _
 have hgY := hsY.good
 have hzY := hsY.gb hz
 have hpY := hgY.pos
 obtain ⟨n, rfl⟩ : ∃ m, n = m + 1 := ⟨n - 1, by omega⟩
 refine x_block <| x_seq <| sr rfl <| mP rfl <| w_plain rfl (st_callP (ags := [_]) rfl rfl T.ent103 rfl (gredir_spec hgY hR hq ht) ?_ ?_)
 ·rintro _ w14 ⟨R9, e9, he9, hs9, rfl, c15⟩
  replace HC := HC.trans c15 q4
  refine then_p <| then_p <| block_p <| then_p <| block_p <| then_p <| pp_panic ?_
  exact ⟨R9, e9, by rw [hse]; exact simple_er he9, hs9.trans hsY, rfl, HC⟩
 rintro _ w16 ⟨x, R, hre, hsR, hxn, hxl, rfl, hR, c17⟩
 replace HC := HC.trans c17 q4
 replace ht := ht.tr c17 q1
 replace hmx := hmx.tr c17 q1
 replace hb4 := hb4.tr1 c17 (by omega)
 replace oA := oA.trF flat_flat c17 (by intro k hk hx; have hD := oA.inD k hk; simp only [List.mem_cons, List.mem_nil_iff, or_false] at hx; first | omega)
 replace oW := oW.trF flat_flat c17 (by intro k hk hx; have hD := oW.inD k hk; simp only [List.mem_cons, List.mem_nil_iff, or_false] at hx; first | omega)
 replace oR := oR.trF flat_flat c17 (by intro k hk hx; have hD := oR.inD k hk; simp only [List.mem_cons, List.mem_nil_iff, or_false] at hx; first | omega)
 replace hb3 := hb3.tr1 c17 (by omega)
 refine mv (v := .tuple ⟨[_, _]⟩) rfl <| Wp rfl <| st_extract (vs := [_, _]) (v := .agg ⟨[.int _ _, S _, S _, S _, .bool _]⟩) rfl rfl <| Wp rfl <| st_extract (vs := [_, _]) (v := .bool _) rfl rfl <| Wp rfl <| st_alloc T.zero40 ?_
 intro b4 w18 e19 c20 hb21
 have ge_b4 := gB e19 HC.size
 have ne_b2_b4 := nE e19 hb4.ne_size
 have ne_b3_b4 := nE e19 hb3.ne_size
 have na_Ab4 : b4 ∉ ob A4 := oA.fresh (by rw [e19]; exact Nat.le_refl _)
 have na_Wb4 : b4 ∉ ob A5 := oW.fresh (by rw [e19]; exact Nat.le_refl _)
 have na_Rb4 : b4 ∉ ob A6 := oR.fresh (by rw [e19]; exact Nat.le_refl _)
 replace HC := HC.then c20
 replace ht := ht.tr0 c20
 replace hmx := hmx.tr0 c20
 replace hb4 := hb4.tr0 c20
 replace oA := oA.tr0 c20
 replace oW := oW.tr0 c20
 replace oR := oR.tr0 c20
 replace hb3 := hb3.tr0 c20
 replace hR := hR.tr0 c20
 clear e19
 refine Wp rfl <| st_st (v := .agg ⟨[_, _, _, _, _]⟩) T.size40 rfl rfl rfl hb21 ?_
 intro w22 c23 hb24; simp only [setVs, setV] at hb24
 clear hb21
 replace HC := HC.then1 c23 ge_b4
 replace ht := ht.tr c23 q1
 replace hmx := hmx.tr c23 q1
 replace hb4 := hb4.tr1 c23 ne_b2_b4
 replace oA := oA.trF flat_flat c23 (by intro k hk hx; have hD := oA.inD k hk; simp only [List.mem_cons, List.mem_nil_iff, or_false] at hx; first | omega | (obtain rfl := hx; exact na_Ab4 hk))
 replace oW := oW.trF flat_flat c23 (by intro k hk hx; have hD := oW.inD k hk; simp only [List.mem_cons, List.mem_nil_iff, or_false] at hx; first | omega | (obtain rfl := hx; exact na_Wb4 hk))
 replace oR := oR.trF flat_flat c23 (by intro k hk hx; have hD := oR.inD k hk; simp only [List.mem_cons, List.mem_nil_iff, or_false] at hx; first | omega | (obtain rfl := hx; exact na_Rb4 hk))
 replace hb3 := hb3.tr1 c23 ne_b3_b4
 replace hR := hR.tr c23 q2
 refine aB rfl <| en <| sr rfl <| mB rfl <| en <| x_cond rfl (fun h0 => ?_) (fun h0 => ?_)
 ·try simp only [nm, ne_eq] at h0
  obtain ⟨r, rfl⟩ := Option.isSome_iff_exists.1 (show x.isSome = true by first | assumption | simp_all)
  have hxl2 := hxl (by simp)
  have hlR := hsR.len
  refine sr rfl <| fa T.fld30_6 rfl <| lL T.one26 rfl (hb3.cell rfl) <| Wp rfl <| st_loadA (vs := [_, _, _, _, _]) T.agg40 rfl (hb24.cells (n := 5) (vs := [_, _, _, _, _]) rfl) rfl <| Wp rfl <| st_lit (ps := [(0, .tmp 18)]) (vs := [.int _ _, S _, S _, S _, .bool _]) T.lit26 (by decide) rfl q6 rfl ?_
  intro b25 w26 e27 c28 hb29
  have ge_b25 := gB e27 HC.size
  have na_Ab25 : b25 ∉ ob A4 := oA.fresh (by rw [e27]; exact Nat.le_refl _)
  have na_Wb25 : b25 ∉ ob A5 := oW.fresh (by rw [e27]; exact Nat.le_refl _)
  have na_Rb25 : b25 ∉ ob A6 := oR.fresh (by rw [e27]; exact Nat.le_refl _)
  replace HC := HC.then c28
  replace ht := ht.tr0 c28
  replace hmx := hmx.tr0 c28
  replace hb4 := hb4.tr0 c28
  replace oA := oA.tr0 c28
  replace oW := oW.tr0 c28
  replace oR := oR.tr0 c28
  replace hb3 := hb3.tr0 c28
  replace hR := hR.tr0 c28
  clear e27
  have hszA := HC.size
  refine Wp rfl <| st_append2 (c := rdrE) (D2 := fun _ => False) (xs := rs) (ys := [r]) T.slice26 rfl rfl oR rfl rfl (one_elem rfl (hb29.cells (n := 5) rfl)) (fun _ _ h => h.elim) (fun k hk => (by have h7 := HC.size; have h8 := hb4.lt; have h9 := hb3.lt; exact ⟨by omega, by omega, by omega⟩)) q7 q7 ?_
  intro A30 cap31 w32 ho33 c34 hg35
  replace HC := HC.trans c34 (fun k hk => .inr ((oR.inD k hk).1))
  replace ht := ht.tr c34 (fun hx => by first | (have h1 := (oR.inD _ hx).1; omega) | (have h1 : w.heap.size ≤ 0 := oR.inD _ hx; omega))
  replace hmx := hmx.tr c34 (by intro hx; have hD := oR.inD _ hx; omega)
  replace hb4 := hb4.tr c34 (fun hx => by first | (have h1 := oR.inD _ hx; omega) | exact na_Rb2 hx | exact hav _ hx (by simp))
  replace oA := oA.trF flat_flat c34 (fun k hk hx => own_ne oA oR (by decide) k hk hx)
  replace oW := oW.trF flat_flat c34 (fun k hk hx => own_ne oW oR (by decide) k hk hx)
  replace hb3 := hb3.tr c34 (fun hx => by first | (have h1 := oR.inD _ hx; omega) | exact na_Rb3 hx | exact hav _ hx (by simp))
  replace hR := hR.tr c34 (by intro k hk; have hD := oR.inD k hk; omega)
  refine fa T.fld30_6 rfl <| Wp rfl <| st_st (v := .slice _ _ _) T.size26 rfl rfl rfl hb3 ?_
  intro w36 c37 hb38; simp only [setVs, setV] at hb38
  clear hb3
  replace HC := HC.then1 c37 ge_b3
  replace ht := ht.tr c37 q1
  replace hmx := hmx.tr c37 q1
  replace hb4 := hb4.tr1 c37 ne_b2_b3
  replace oA := oA.trF flat_flat c37 (by intro k hk hx; have hD := oA.inD k hk; simp only [List.mem_cons, List.mem_nil_iff, or_false] at hx; first | omega | (obtain rfl := hx; exact na_Ab3 hk))
  replace oW := oW.trF flat_flat c37 (by intro k hk hx; have hD := oW.inD k hk; simp only [List.mem_cons, List.mem_nil_iff, or_false] at hx; first | omega | (obtain rfl := hx; exact na_Wb3 hk))
  replace ho33 := ho33.trF flat_flat c37 (by intro k hk hx; have hD := ho33.inD k hk; simp only [List.mem_cons, List.mem_nil_iff, or_false] at hx; first | omega | (obtain rfl := hx; exact na_Rb3 hk))
  replace hR := hR.tr c37 q2
  refine en <| x_exit <| then_x <| block_x <| then_n <| ⟨(n, a, ws, rs ++ [r], R, A4, c4, A5, c5, A30, cap31), ?_, ?_, rfl, trivial, ?_⟩
  ·refine ⟨?_, HC, hR, ht, hmx, hb4, oA, oW, ho33, hb38⟩
   exact ⟨by rw [hse]; exact simple_some hre, hsR.trans hsY, by omega, by simp only [List.length_append, List.length_cons, List.length_nil]; omega⟩
  ·show R.length < Y.length; omega
  exact q9
 ·try simp only [nm, ne_eq] at h0
  obtain rfl : x = none := by cases x with | none => rfl | some _ => simp_all
  obtain rfl : Y = R := (hxn rfl).symm
  refine x_skip <| then_n <| x_seq <| sr rfl <| mP rfl <| Wp rfl <| st_call (ags := [_]) rfl rfl T.ent15 rfl (gtok_spec (Z := Y) hgY hR) ?_
  rintro _ w39 ⟨rfl, c40⟩
  replace HC := HC.then c40
  replace ht := ht.tr0 c40
  replace hmx := hmx.tr0 c40
  replace hb4 := hb4.tr0 c40
  replace oA := oA.tr0 c40
  replace oW := oW.tr0 c40
  replace oR := oR.tr0 c40
  replace hb3 := hb3.tr0 c40
  replace hR := hR.tr0 c40
  refine Wp rfl <| st_field (v := .int _ _) T.fone51_0 rfl rfl <| Wp rfl <| st_neq rfl rfl <| en <| x_cond rfl (fun h1 => ?_) (fun h1 => ?_)
  ·try simp only [nm, ne_eq] at h1
   have hk1 : (hd Y).kind ≠ 1 := by first | assumption | simp_all
   have hfin := hse.trans (simple_end hre hk1)
   refine x_exit <| then_x <| block_o rfl <| then_x <| block_x <| then_n <| x_seq <| sr rfl <| fa T.fld30_6 rfl <| lL T.one26 rfl (hb3.cell rfl) <| Wp rfl <| st_len (ct := #[26]) (by rw [show ((#[26] : Array TypeId)[0]?).bind Tryz.prog.underlying = some (.slice 40) from T.u26]; rfl) rfl <| fa T.fld30_4 rfl <| lL T.one25 rfl (hb3.cell rfl) <| Wp rfl <| st_len (ct := #[25]) (by rw [show ((#[25] : Array TypeId)[0]?).bind Tryz.prog.underlying = some (.slice 56) from T.u25]; rfl) rfl <| Wp rfl <| st_addn rfl rfl (by constructor <;> omega) <| fa T.fld30_5 rfl <| lL T.one23 rfl (hb3.cell rfl) <| Wp rfl <| st_len (ct := #[23]) (by rw [show ((#[23] : Array TypeId)[0]?).bind Tryz.prog.underlying = some (.slice 9) from T.u23]; rfl) rfl <| Wp rfl <| st_addn rfl rfl (by constructor <;> omega) <| Wp rfl <| st_eql rfl rfl <| en <| x_cond rfl (fun h3 => ?_) (fun h3 => ?_)
   ·try simp only [nm, ne_eq] at h3
    rw [if_pos (by omega)] at hfin
    refine x_region rfl <| mP rfl <| w_plain rfl (st_callP (ags := [_, _]) rfl rfl T.ent17 rfl (gfail_spec 101 hgY hR) ?_ ?_)
    ·rintro _ w41 ⟨rfl, c42⟩
     replace HC := HC.then c42
     refine then_p <| pp_panic ?_
     exact ⟨Y, 101, hfin, hsY, rfl, HC⟩
    exact fun _ _ h9 => h9.elim
   ·try simp only [nm, ne_eq] at h3
    rw [if_neg (by omega)] at hfin
    refine x_skip <| then_n <| sr rfl <| Wp rfl <| st_loadA (vs := [_, _, _, _, _, _, _, _, _]) T.agg30 rfl (hb3.cells (n := 9) (vs := [_, _, _, _, _, _, _, _, _]) rfl) rfl <| Wp rfl <| st_st (v := .agg ⟨[_, _, _, _, _, _, _, _, _]⟩) T.size30 rfl rfl rfl hb4 ?_
    intro w43 c44 hb45; simp only [setVs, setV] at hb45
    clear hb4
    replace HC := HC.then1 c44 ge_b2
    replace oA := oA.trF flat_flat c44 (by intro k hk hx; have hD := oA.inD k hk; simp only [List.mem_cons, List.mem_nil_iff, or_false] at hx; first | omega | (obtain rfl := hx; exact na_Ab2 hk))
    replace oW := oW.trF flat_flat c44 (by intro k hk hx; have hD := oW.inD k hk; simp only [List.mem_cons, List.mem_nil_iff, or_false] at hx; first | omega | (obtain rfl := hx; exact na_Wb2 hk))
    replace oR := oR.trF flat_flat c44 (by intro k hk hx; have hD := oR.inD k hk; simp only [List.mem_cons, List.mem_nil_iff, or_false] at hx; first | omega | (obtain rfl := hx; exact na_Rb2 hk))
    replace hR := hR.tr c44 q2
    refine en <| x_ret <| pp_ret <| ret_cellA (vs := [_, _, _, _, _, _, _, _, _]) rfl rfl T.agg30 (hb45.cells (n := 9) rfl) rfl ?_
    exact ⟨_, Y, _, hfin, hsY, by omega, rfl, cm_shut (c := .mk 1 [] false false a ws rs [] []) ⟨oA.sl.mono (fun k _ h => h.1), oW.sl.mono (fun k _ h => h.1), oR.sl.mono (fun k _ h => h.1), .nil, .nil⟩ oA.le oW.le oR.le ⟨Nat.le_refl _, by decide⟩ ⟨Nat.le_refl _, by decide⟩, hR, HC⟩
  ·try simp only [nm, ne_eq] at h1
   have hk1 : (hd Y).kind = 1 := by first | assumption | simp_all
   have hsT := Suf.tail hgY (by rw [hk1]; decide)
   refine x_skip <| then_n <| sr rfl <| mP rfl <| Wp rfl <| st_call (ags := [_]) rfl rfl T.ent29 rfl (gnext_spec hgY hR hq) ?_
   rintro _ w46 ⟨rfl, hR, c47⟩
   replace HC := HC.trans c47 q4
   replace ht := ht.tr c47 q1
   replace hmx := hmx.tr c47 q1
   replace hb4 := hb4.tr1 c47 (by omega)
   replace oA := oA.trF flat_flat c47 (by intro k hk hx; have hD := oA.inD k hk; simp only [List.mem_cons, List.mem_nil_iff, or_false] at hx; first | omega)
   replace oW := oW.trF flat_flat c47 (by intro k hk hx; have hD := oW.inD k hk; simp only [List.mem_cons, List.mem_nil_iff, or_false] at hx; first | omega)
   replace oR := oR.trF flat_flat c47 (by intro k hk hx; have hD := oR.inD k hk; simp only [List.mem_cons, List.mem_nil_iff, or_false] at hx; first | omega)
   replace hb3 := hb3.tr1 c47 (by omega)
   refine Wp rfl <| st_field (v := S _) T.fone51_1 rfl rfl <| aS rfl <| en <| sr rfl <| mS rfl <| Wp rfl <| st_call (ags := [_]) rfl rfl T.ent107 rfl (gassign_spec (hd Y).text _ (by have := hzY.2 _ (hd_mem hgY); omega) hmx) ?_
   rintro _ w48 ⟨rfl, c49⟩
   replace HC := HC.then c49
   replace ht := ht.tr0 c49
   replace hmx := hmx.tr0 c49
   replace hb4 := hb4.tr0 c49
   replace oA := oA.tr0 c49
   replace oW := oW.tr0 c49
   replace oR := oR.tr0 c49
   replace hb3 := hb3.tr0 c49
   replace hR := hR.tr0 c49
   refine mv (v := .tuple ⟨[_, _]⟩) rfl <| Wp rfl <| st_extract (vs := [_, _]) (v := .agg ⟨[S _, S _]⟩) rfl rfl <| Wp rfl <| st_extract (vs := [_, _]) (v := .bool _) rfl rfl <| Wp rfl <| st_alloc T.zero56 ?_
   intro b7 w50 e51 c52 hb53
   have ge_b7 := gB e51 HC.size
   have ne_b2_b7 := nE e51 hb4.ne_size
   have ne_b3_b7 := nE e51 hb3.ne_size
   have na_Ab7 : b7 ∉ ob A4 := oA.fresh (by rw [e51]; exact Nat.le_refl _)
   have na_Wb7 : b7 ∉ ob A5 := oW.fresh (by rw [e51]; exact Nat.le_refl _)
   have na_Rb7 : b7 ∉ ob A6 := oR.fresh (by rw [e51]; exact Nat.le_refl _)
   replace HC := HC.then c52
   replace ht := ht.tr0 c52
   replace hmx := hmx.tr0 c52
   replace hb4 := hb4.tr0 c52
   replace oA := oA.tr0 c52
   replace oW := oW.tr0 c52
   replace oR := oR.tr0 c52
   replace hb3 := hb3.tr0 c52
   replace hR := hR.tr0 c52
   clear e51
   refine Wp rfl <| st_st (v := .agg ⟨[_, _]⟩) T.size56 rfl rfl rfl hb53 ?_
   intro w54 c55 hb56; simp only [setVs, setV] at hb56
   clear hb53
   replace HC := HC.then1 c55 ge_b7
   replace ht := ht.tr c55 q1
   replace hmx := hmx.tr c55 q1
   replace hb4 := hb4.tr1 c55 ne_b2_b7
   replace oA := oA.trF flat_flat c55 (by intro k hk hx; have hD := oA.inD k hk; simp only [List.mem_cons, List.mem_nil_iff, or_false] at hx; first | omega | (obtain rfl := hx; exact na_Ab7 hk))
   replace oW := oW.trF flat_flat c55 (by intro k hk hx; have hD := oW.inD k hk; simp only [List.mem_cons, List.mem_nil_iff, or_false] at hx; first | omega | (obtain rfl := hx; exact na_Wb7 hk))
   replace oR := oR.trF flat_flat c55 (by intro k hk hx; have hD := oR.inD k hk; simp only [List.mem_cons, List.mem_nil_iff, or_false] at hx; first | omega | (obtain rfl := hx; exact na_Rb7 hk))
   replace hb3 := hb3.tr1 c55 ne_b3_b7
   replace hR := hR.tr c55 q2
   refine aB rfl <| en <| sr rfl <| mB rfl <| mB rfl <| w_split (d := 35) rfl (fun g57 => ?_) (fun g57 => ?_)
   ·try simp only [nm, ne_eq] at g57
    refine w_yes 1 35 true <| st_fieldAddr T.fld30_5 rfl <| w_yes 1 35 true <| st_load1 (v := .slice _ _ _) T.one23 rfl (hb3.cell rfl) <| w_yes 1 35 true <| st_len (ct := #[23]) (by rw [show ((#[23] : Array TypeId)[0]?).bind Tryz.prog.underlying = some (.slice 9) from T.u23]; rfl) rfl <| w_yes 1 35 true <| st_eql rfl rfl <| pT rfl rfl <| en <| x_cond rfl (fun h2 => ?_) (fun h2 => ?_)
    ·try simp only [nm, ne_eq] at h2
     have has : (assignG (hd Y).text).2 = true ∧ ws = [] := ⟨by first | assumption | simp_all, List.eq_nil_of_length_eq_zero (by first | omega | simp_all)⟩
     refine x_region rfl <| fa T.fld30_4 rfl <| lL T.one25 rfl (hb3.cell rfl) <| Wp rfl <| st_loadA (vs := [_, _]) T.agg56 rfl (hb56.cells (n := 2) (vs := [_, _]) rfl) rfl <| Wp rfl <| st_lit (ps := [(0, .tmp 43)]) (vs := [S _, S _]) T.lit25 (by decide) rfl q6 rfl ?_
     intro b58 w59 e60 c61 hb62
     have ge_b58 := gB e60 HC.size
     have na_Ab58 : b58 ∉ ob A4 := oA.fresh (by rw [e60]; exact Nat.le_refl _)
     have na_Wb58 : b58 ∉ ob A5 := oW.fresh (by rw [e60]; exact Nat.le_refl _)
     have na_Rb58 : b58 ∉ ob A6 := oR.fresh (by rw [e60]; exact Nat.le_refl _)
     replace HC := HC.then c61
     replace ht := ht.tr0 c61
     replace hmx := hmx.tr0 c61
     replace hb4 := hb4.tr0 c61
     replace oA := oA.tr0 c61
     replace oW := oW.tr0 c61
     replace oR := oR.tr0 c61
     replace hb3 := hb3.tr0 c61
     replace hR := hR.tr0 c61
     clear e60
     have hszA := HC.size
     refine Wp rfl <| st_append2 (c := pairE2) (D2 := fun _ => False) (xs := a) (ys := [(assignG (hd Y).text).1]) T.slice25 rfl rfl oA rfl rfl (one_elem rfl (hb62.cells (n := 2) rfl)) (fun _ _ h => h.elim) (fun k hk => (by have h7 := HC.size; have h8 := hb4.lt; have h9 := hb3.lt; exact ⟨by omega, by omega, by omega⟩)) q7 q7 ?_
     intro A63 cap64 w65 ho66 c67 hg68
     replace HC := HC.trans c67 (fun k hk => .inr ((oA.inD k hk).1))
     replace ht := ht.tr c67 (fun hx => by first | (have h1 := (oA.inD _ hx).1; omega) | (have h1 : w.heap.size ≤ 0 := oA.inD _ hx; omega))
     replace hmx := hmx.tr c67 (by intro hx; have hD := oA.inD _ hx; omega)
     replace hb4 := hb4.tr c67 (fun hx => by first | (have h1 := oA.inD _ hx; omega) | exact na_Ab2 hx | exact hav _ hx (by simp))
     replace oW := oW.trF flat_flat c67 (fun k hk hx => own_ne oW oA (by decide) k hk hx)
     replace oR := oR.trF flat_flat c67 (fun k hk hx => own_ne oR oA (by decide) k hk hx)
     replace hb3 := hb3.tr c67 (fun hx => by first | (have h1 := oA.inD _ hx; omega) | exact na_Ab3 hx | exact hav _ hx (by simp))
     replace hR := hR.tr c67 (by intro k hk; have hD := oA.inD k hk; omega)
     refine fa T.fld30_4 rfl <| Wp rfl <| st_st (v := .slice _ _ _) T.size25 rfl rfl rfl hb3 ?_
     intro w69 c70 hb71; simp only [setVs, setV] at hb71
     clear hb3
     replace HC := HC.then1 c70 ge_b3
     replace ht := ht.tr c70 q1
     replace hmx := hmx.tr c70 q1
     replace hb4 := hb4.tr1 c70 ne_b2_b3
     replace ho66 := ho66.trF flat_flat c70 (by intro k hk hx; have hD := ho66.inD k hk; simp only [List.mem_cons, List.mem_nil_iff, or_false] at hx; first | omega | (obtain rfl := hx; exact na_Ab3 hk))
     replace oW := oW.trF flat_flat c70 (by intro k hk hx; have hD := oW.inD k hk; simp only [List.mem_cons, List.mem_nil_iff, or_false] at hx; first | omega | (obtain rfl := hx; exact na_Wb3 hk))
     replace oR := oR.trF flat_flat c70 (by intro k hk hx; have hD := oR.inD k hk; simp only [List.mem_cons, List.mem_nil_iff, or_false] at hx; first | omega | (obtain rfl := hx; exact na_Rb3 hk))
     replace hR := hR.tr c70 q2
     refine wops_nil <| block_n <| then_n <| ⟨(n, a ++ [(assignG (hd Y).text).1], ws, rs, Y.tail, A63, cap64, A5, c5, A6, c6), ?_, ?_, rfl, trivial, ?_⟩
     ·refine ⟨?_, HC, hR, ht, hmx, hb4, ho66, oW, oR, hb71⟩
      exact ⟨by rw [hse]; exact simple_asg hre hk1 has, hsT.trans hsY, by have := tail_len hgY; omega, by have := tail_len hgY; simp only [List.length_append, List.length_cons, List.length_nil]; omega⟩
     ·show Y.tail.length < Y.length; have := tail_len hgY; omega
     exact q9
    ·try simp only [nm, ne_eq] at h2
     have has : ¬ ((assignG (hd Y).text).2 = true ∧ ws = []) := by rintro ⟨h7, h8⟩; subst h8; simp_all
     refine x_region rfl <| fa T.fld30_5 rfl <| lL T.one23 rfl (hb3.cell rfl) <| mS rfl <| Wp rfl <| st_lit (ps := [(0, .tmp 49)]) (vs := [S _]) T.lit23 (by decide) rfl q6 rfl ?_
     intro b72 w73 e74 c75 hb76
     have ge_b72 := gB e74 HC.size
     have na_Ab72 : b72 ∉ ob A4 := oA.fresh (by rw [e74]; exact Nat.le_refl _)
     have na_Wb72 : b72 ∉ ob A5 := oW.fresh (by rw [e74]; exact Nat.le_refl _)
     have na_Rb72 : b72 ∉ ob A6 := oR.fresh (by rw [e74]; exact Nat.le_refl _)
     replace HC := HC.then c75
     replace ht := ht.tr0 c75
     replace hmx := hmx.tr0 c75
     replace hb4 := hb4.tr0 c75
     replace oA := oA.tr0 c75
     replace oW := oW.tr0 c75
     replace oR := oR.tr0 c75
     replace hb3 := hb3.tr0 c75
     replace hR := hR.tr0 c75
     clear e74
     have hszA := HC.size
     refine Wp rfl <| st_append2 (c := sE) (D2 := fun _ => False) (xs := ws) (ys := [(hd Y).text]) T.slice23 rfl rfl oW rfl rfl (one_elem rfl (hb76.cells (n := 1) rfl)) (fun _ _ h => h.elim) (fun k hk => (by have h7 := HC.size; have h8 := hb4.lt; have h9 := hb3.lt; exact ⟨by omega, by omega, by omega⟩)) q7 q7 ?_
     intro A77 cap78 w79 ho80 c81 hg82
     replace HC := HC.trans c81 (fun k hk => .inr ((oW.inD k hk).1))
     replace ht := ht.tr c81 (fun hx => by first | (have h1 := (oW.inD _ hx).1; omega) | (have h1 : w.heap.size ≤ 0 := oW.inD _ hx; omega))
     replace hmx := hmx.tr c81 (by intro hx; have hD := oW.inD _ hx; omega)
     replace hb4 := hb4.tr c81 (fun hx => by first | (have h1 := oW.inD _ hx; omega) | exact na_Wb2 hx | exact hav _ hx (by simp))
     replace oA := oA.trF flat_flat c81 (fun k hk hx => own_ne oA oW (by decide) k hk hx)
     replace oR := oR.trF flat_flat c81 (fun k hk hx => own_ne oR oW (by decide) k hk hx)
     replace hb3 := hb3.tr c81 (fun hx => by first | (have h1 := oW.inD _ hx; omega) | exact na_Wb3 hx | exact hav _ hx (by simp))
     replace hR := hR.tr c81 (by intro k hk; have hD := oW.inD k hk; omega)
     refine fa T.fld30_5 rfl <| Wp rfl <| st_st (v := .slice _ _ _) T.size23 rfl rfl rfl hb3 ?_
     intro w83 c84 hb85; simp only [setVs, setV] at hb85
     clear hb3
     replace HC := HC.then1 c84 ge_b3
     replace ht := ht.tr c84 q1
     replace hmx := hmx.tr c84 q1
     replace hb4 := hb4.tr1 c84 ne_b2_b3
     replace oA := oA.trF flat_flat c84 (by intro k hk hx; have hD := oA.inD k hk; simp only [List.mem_cons, List.mem_nil_iff, or_false] at hx; first | omega | (obtain rfl := hx; exact na_Ab3 hk))
     replace ho80 := ho80.trF flat_flat c84 (by intro k hk hx; have hD := ho80.inD k hk; simp only [List.mem_cons, List.mem_nil_iff, or_false] at hx; first | omega | (obtain rfl := hx; exact na_Wb3 hk))
     replace oR := oR.trF flat_flat c84 (by intro k hk hx; have hD := oR.inD k hk; simp only [List.mem_cons, List.mem_nil_iff, or_false] at hx; first | omega | (obtain rfl := hx; exact na_Rb3 hk))
     replace hR := hR.tr c84 q2
     refine wops_nil <| block_n <| then_n <| ⟨(n, a, ws ++ [(hd Y).text], rs, Y.tail, A4, c4, A77, cap78, A6, c6), ?_, ?_, rfl, trivial, ?_⟩
     ·refine ⟨?_, HC, hR, ht, hmx, hb4, oA, ho80, oR, hb85⟩
      exact ⟨by rw [hse]; exact simple_word hre hk1 has, hsT.trans hsY, by have := tail_len hgY; omega, by have := tail_len hgY; simp only [List.length_append, List.length_cons, List.length_nil]; omega⟩
     ·show Y.tail.length < Y.length; have := tail_len hgY; omega
     exact q9
   ·try simp only [nm, ne_eq] at g57
    iterate 4 refine w_no 1 35 true ?_
    refine pF rfl rfl <| en <| x_cond (t := false) rfl (fun h2 => ?_) (fun h2 => ?_)
    · exact absurd h2 (by decide)
    have has : ¬ ((assignG (hd Y).text).2 = true ∧ ws = []) := by rintro ⟨h7, h8⟩; subst h8; simp_all
    refine x_region rfl <| fa T.fld30_5 rfl <| lL T.one23 rfl (hb3.cell rfl) <| mS rfl <| Wp rfl <| st_lit (ps := [(0, .tmp 49)]) (vs := [S _]) T.lit23 (by decide) rfl q6 rfl ?_
    intro b86 w87 e88 c89 hb90
    have ge_b86 := gB e88 HC.size
    have na_Ab86 : b86 ∉ ob A4 := oA.fresh (by rw [e88]; exact Nat.le_refl _)
    have na_Wb86 : b86 ∉ ob A5 := oW.fresh (by rw [e88]; exact Nat.le_refl _)
    have na_Rb86 : b86 ∉ ob A6 := oR.fresh (by rw [e88]; exact Nat.le_refl _)
    replace HC := HC.then c89
    replace ht := ht.tr0 c89
    replace hmx := hmx.tr0 c89
    replace hb4 := hb4.tr0 c89
    replace oA := oA.tr0 c89
    replace oW := oW.tr0 c89
    replace oR := oR.tr0 c89
    replace hb3 := hb3.tr0 c89
    replace hR := hR.tr0 c89
    clear e88
    have hszA := HC.size
    refine Wp rfl <| st_append2 (c := sE) (D2 := fun _ => False) (xs := ws) (ys := [(hd Y).text]) T.slice23 rfl rfl oW rfl rfl (one_elem rfl (hb90.cells (n := 1) rfl)) (fun _ _ h => h.elim) (fun k hk => (by have h7 := HC.size; have h8 := hb4.lt; have h9 := hb3.lt; exact ⟨by omega, by omega, by omega⟩)) q7 q7 ?_
    intro A91 cap92 w93 ho94 c95 hg96
    replace HC := HC.trans c95 (fun k hk => .inr ((oW.inD k hk).1))
    replace ht := ht.tr c95 (fun hx => by first | (have h1 := (oW.inD _ hx).1; omega) | (have h1 : w.heap.size ≤ 0 := oW.inD _ hx; omega))
    replace hmx := hmx.tr c95 (by intro hx; have hD := oW.inD _ hx; omega)
    replace hb4 := hb4.tr c95 (fun hx => by first | (have h1 := oW.inD _ hx; omega) | exact na_Wb2 hx | exact hav _ hx (by simp))
    replace oA := oA.trF flat_flat c95 (fun k hk hx => own_ne oA oW (by decide) k hk hx)
    replace oR := oR.trF flat_flat c95 (fun k hk hx => own_ne oR oW (by decide) k hk hx)
    replace hb3 := hb3.tr c95 (fun hx => by first | (have h1 := oW.inD _ hx; omega) | exact na_Wb3 hx | exact hav _ hx (by simp))
    replace hR := hR.tr c95 (by intro k hk; have hD := oW.inD k hk; omega)
    refine fa T.fld30_5 rfl <| Wp rfl <| st_st (v := .slice _ _ _) T.size23 rfl rfl rfl hb3 ?_
    intro w97 c98 hb99; simp only [setVs, setV] at hb99
    clear hb3
    replace HC := HC.then1 c98 ge_b3
    replace ht := ht.tr c98 q1
    replace hmx := hmx.tr c98 q1
    replace hb4 := hb4.tr1 c98 ne_b2_b3
    replace oA := oA.trF flat_flat c98 (by intro k hk hx; have hD := oA.inD k hk; simp only [List.mem_cons, List.mem_nil_iff, or_false] at hx; first | omega | (obtain rfl := hx; exact na_Ab3 hk))
    replace ho94 := ho94.trF flat_flat c98 (by intro k hk hx; have hD := ho94.inD k hk; simp only [List.mem_cons, List.mem_nil_iff, or_false] at hx; first | omega | (obtain rfl := hx; exact na_Wb3 hk))
    replace oR := oR.trF flat_flat c98 (by intro k hk hx; have hD := oR.inD k hk; simp only [List.mem_cons, List.mem_nil_iff, or_false] at hx; first | omega | (obtain rfl := hx; exact na_Rb3 hk))
    replace hR := hR.tr c98 q2
    refine wops_nil <| block_n <| then_n <| ⟨(n, a, ws ++ [(hd Y).text], rs, Y.tail, A4, c4, A91, cap92, A6, c6), ?_, ?_, rfl, trivial, ?_⟩
    ·refine ⟨?_, HC, hR, ht, hmx, hb4, oA, ho94, oR, hb99⟩
     exact ⟨by rw [hse]; exact simple_word hre hk1 has, hsT.trans hsY, by have := tail_len hgY; omega, by have := tail_len hgY; simp only [List.length_append, List.length_cons, List.length_nil]; omega⟩
    ·show Y.tail.length < Y.length; have := tail_len hgY; omega
    exact q9

end Go.Proofs.YtghjmiggobpmoaaGreatDoor.K
set_option linter.unusedVariables false
set_option linter.unusedSimpArgs false
set_option autoImplicit false
set_option maxRecDepth 20000
namespace Go.Proofs.YtghjmiggobpmoaaGreatDoor.K
open Go Go.Proofs Go.RowKit

def ReadsC (fn : FuncId) (g : List Tok → Rs Cm) (rb tb : Nat) (d : Int) : Prop := ∀ (Z : List Tok) (w : World), GT Z → GB Z → RdAt w rb tb d Z → QOk rb tb → MaxT w → Tab w →
  CallP Tryz.prog fn #[.pointer (some ⟨rb, 0, none⟩)] w (fun v w' => OkC (g Z) Z rb tb d w w' v) (fun v w' => ErT (g Z) Z rb w w' v)
theorem Enc.chg {α : Type} {c : Enc α} {w w' : World} {D : Nat → Prop} {x : α} {vs : List Value} {bs : List Nat} (h : c.R w D x vs) (k : Chg bs w w') (hb : ∀ b, b ∈ bs → ¬ D b) : c.R w' D x vs := c.tr h (fun i hi hD => k.block i hi fun hx => hb i hx hD) k.size
theorem suf_take {k : Int} {l : List Bytes} {Z : List Tok} (hg : GT Z) (hk : k ≠ 0) : Suf (if isT k l Z = true then Z.tail else Z) Z := by
  split
  · rename_i h; exact .tail hg (by rw [(isT_tail h).1]; exact hk)
  · exact .refl hg
theorem own_one {w : World} {D D' : Nat → Prop} {b : Nat} {x : Cm} {vs : List Value} (hb : Blk w b vs 30) (hD : D b) (h : cmE.R w D' x vs) (hi : ∀ k, k < w.heap.size → D' k → D k ∧ k ≠ b) : Own cmE 30 w D (some ⟨b, 0, none⟩) 1 [x] :=
  Own.of_blk (xs := [x]) hb hD (by simp) (Chunks.one (cmE.mono h hi))
theorem own_two {w : World} {D D1 D2 : Nat → Prop} {b : Nat} {x y : Cm} {vs us : List Value} (hb : Blk w b (vs ++ us) 30) (hD : D b) (h : cmE.R w D1 x vs) (h2 : cmE.R w D2 y us) (hi : ∀ k, k < w.heap.size → D1 k → D k ∧ k ≠ b) (hi2 : ∀ k, k < w.heap.size → D2 k → D k ∧ k ≠ b) : Own cmE 30 w D (some ⟨b, 0, none⟩) 2 [x, y] :=
  Own.of_blk (xs := [x, y]) hb hD (by simp) (Chunks.cons (cmE.mono h hi) (Chunks.one (cmE.mono h2 hi2)))
theorem pipeL_on {com : List Tok → Rs Cm} {n : Nat} {l : List Cm} {Y R : List Tok} {c : Cm} (h : isT 2 [[124]] Y = true) (hc : com (linesG Y.tail) = .ok c R) : pipeL com (n + 1) l Y = pipeL com n (l ++ [c]) R := by rw [pipeL, if_pos h, hc]; rfl
theorem pipeL_er {com : List Tok → Rs Cm} {n : Nat} {l : List Cm} {Y R : List Tok} {e : Int} (h : isT 2 [[124]] Y = true) (hc : com (linesG Y.tail) = .er R e) : pipeL com (n + 1) l Y = .er R e := by rw [pipeL, if_pos h, hc]; rfl
theorem pipeL_end {com : List Tok → Rs Cm} {n : Nat} {l : List Cm} {Y : List Tok} (h : isT 2 [[124]] Y = false) : pipeL com (n + 1) l Y = .ok l Y := by rw [pipeL, if_neg (by rw [h]; simp)]

theorem gpipe_spec {Z : List Tok} {rb tb : Nat} {d : Int} {w : World} (hg : GT Z) (hz : GB Z) (hR : RdAt w rb tb d Z) (hq : QOk rb tb) (hmx : MaxT w) (ht : Tab w) {com : List Tok → Rs Cm} (hcom : ReadsC 64 com rb tb d) : CallP Tryz.prog 43 #[.pointer (some ⟨rb, 0, none⟩)] w (fun v w' => OkC (pipeG com Z) Z rb tb d w w' v) (fun v w' => ErT (pipeG com Z) Z rb w w' v) := by
 refine callP_of_wp (args := [_]) Tryz.func43 rfl (Nat.le_of_ble_eq_true rfl) ?_
 have HC : Chg [rb] w w := .refl _
 have hrl := hR.lt hg
 have hq9 := hq
 obtain ⟨hq1, hq2, hq3⟩ := hq9
 have ht1 := ht.lt
 have hm1 := hmx.lt
 have hzl := hz.1
 refine sr rfl <| Wp rfl <| st_alloc T.zero30 ?_
 intro b2 w1 e2 c3 hb4
 have ge_b2 := gB e2 HC.size
 replace HC := HC.then c3
 replace hR := hR.tr0 c3
 replace ht := ht.tr0 c3
 replace hmx := hmx.tr0 c3
 clear e2
 refine en <| sr rfl <| mP rfl <| Wp rfl <| st_lit (ps := [(0, .const (S [33]))]) (vs := [S _]) T.lit23 (by decide) rfl q6 rfl ?_
 intro b5 w6 e7 c8 hb9
 have ge_b5 := gB e7 HC.size
 replace HC := HC.then c8
 replace hR := hR.tr0 c8
 replace ht := ht.tr0 c8
 replace hmx := hmx.tr0 c8
 replace hb4 := hb4.tr0 c8
 clear e7
 refine Wp rfl <| st_call (ags := [_, _, _]) rfl rfl T.ent63 rfl (gtake_spec (Z := Z) (l := [[33]]) 1 hg hR hq (sl_str [[33]] hb9) (by simp)) ?_
 rintro _ w10 ⟨rfl, hR, c11⟩
 replace HC := HC.trans c11 q4
 replace ht := ht.tr c11 q1
 replace hmx := hmx.tr c11 q1
 replace hb4 := hb4.tr1 c11 (by omega)
 replace hb9 := hb9.tr1 c11 (by omega)
 refine Wp rfl <| st_bld (ps := [(0, .const (.int .i64 2)), (2, .tmp 6)]) (vs := [.int _ _, S _, .bool _, .bool _, .slice _ _ _, .slice _ _ _, .slice _ _ _, .slice _ _ _, .slice _ _ _]) T.bld30 rfl <| Wp rfl <| st_alloc T.zero30 ?_
 intro b3 w12 e13 c14 hb15
 have ge_b3 := gB e13 HC.size
 have ne_b2_b3 := nE e13 hb4.ne_size
 have ne_b5_b3 := nE e13 hb9.ne_size
 replace HC := HC.then c14
 replace ht := ht.tr0 c14
 replace hmx := hmx.tr0 c14
 replace hb4 := hb4.tr0 c14
 replace hb9 := hb9.tr0 c14
 replace hR := hR.tr0 c14
 clear e13
 refine Wp rfl <| st_st (v := .agg ⟨[_, _, _, _, _, _, _, _, _]⟩) T.size30 rfl rfl rfl hb15 ?_
 intro w16 c17 hb18; simp only [setVs, setV] at hb18
 clear hb15
 replace HC := HC.then1 c17 ge_b3
 replace ht := ht.tr c17 q1
 replace hmx := hmx.tr c17 q1
 replace hb4 := hb4.tr1 c17 ne_b2_b3
 replace hb9 := hb9.tr1 c17 ne_b5_b3
 replace hR := hR.tr c17 q2
 refine en <| x_seq ?_
 have hsY0 := suf_take (k := 1) (l := [[33]]) hg (by decide)
 have hgY0 := hsY0.good
 have hzY0 := hsY0.gb hz
 refine x_region rfl <| mP rfl ?_
 have ltP_b2 := hb4.lt
 have ltP_b5 := hb9.lt
 have ltP_b3 := hb18.lt
 have szlP := HC.size
 refine w_plain rfl (st_callP (ags := [_]) rfl rfl T.ent64 rfl (hcom _ _ hgY0 hzY0 hR hq hmx ht) ?_ ?_)
 ·rintro _ w19 ⟨R9, e9, he9, hs9, rfl, c20⟩
  replace HC := HC.trans c20 q4
  refine then_p <| pp_panic ?_
  exact ⟨R9, e9, by rw [pipeG, he9]; rfl, hs9.trans hsY0, rfl, HC⟩
 rintro _ w21 ⟨cP, RP, vsP, heP, hsP, hlP, rfl, hvP, hR, c22⟩
 obtain ⟨A1P, n1P, A2P, n2P, A3P, n3P, A4P, n4P, A5P, n5P, rfl, hAP, k1P, k2P, k3P, k4P, k5P⟩ := cm_open hvP
 replace hvP := cmE.mono hvP (D' := (fun k => w16.heap.size ≤ k ∧ k < w21.heap.size)) (fun k hk h => ⟨h, hk⟩)
 have szP : w21.heap.size ≤ w21.heap.size := Nat.le_refl _
 have szmP := c22.size
 replace HC := HC.trans c22 q4
 replace ht := ht.tr c22 q1
 replace hmx := hmx.tr c22 q1
 replace hb4 := hb4.tr1 c22 (by omega)
 replace hb18 := hb18.tr1 c22 (by omega)
 refine Wp rfl <| st_lit (ps := [(0, .tmp 9)]) (vs := [.int _ _, S _, .bool _, .bool _, .slice _ _ _, .slice _ _ _, .slice _ _ _, .slice _ _ _, .slice _ _ _]) T.lit27 (by decide) rfl q6 rfl ?_
 intro b23 w24 e25 c26 hb27
 have ge_b23 := gB e25 HC.size
 have ne_b3_b23 := nE e25 hb18.ne_size
 have gq_szP_b23 : w21.heap.size ≤ b23 := by rw [e25]; exact szP
 replace HC := HC.then c26
 replace ht := ht.tr0 c26
 replace hmx := hmx.tr0 c26
 replace hb4 := hb4.tr0 c26
 replace hb18 := hb18.tr0 c26
 replace hR := hR.tr0 c26
 replace hvP := Enc.chg hvP c26 q8
 replace szP := Nat.le_trans szP c26.size
 clear e25
 refine fa T.fld30_7 rfl <| Wp rfl <| st_st (v := .slice _ _ _) T.size27 rfl rfl rfl hb18 ?_
 intro w28 c29 hb30; simp only [setVs, setV] at hb30
 clear hb18
 replace HC := HC.then1 c29 ge_b3
 replace ht := ht.tr c29 q1
 replace hmx := hmx.tr c29 q1
 replace hb4 := hb4.tr1 c29 ne_b2_b3
 replace hR := hR.tr c29 q2
 replace hvP := Enc.chg hvP c29 q3
 replace szP := Nat.le_trans szP c29.size
 replace hb27 := hb27.tr1 c29 (Ne.symm ne_b3_b23)
 refine en <| x_seq <| x_block ?_
 have oK : Own cmE 30 w28 (fun k => w.heap.size ≤ k ∧ k ≠ b2 ∧ k ≠ b3) (some ⟨b23, 0, none⟩) 1 [cP] := own_one hb27 ⟨by omega, by omega, by omega⟩ hvP (fun k _ h => ⟨⟨by omega, by omega, by omega⟩, by omega⟩)
 refine x_loop (ι := Nat × List Cm × List Tok × Option Addr × Nat) [12, 13, 14, 15, 16, 17, 18, 19, 20, 21, 22, 23] (fun ⟨n, l, Y, A, cap⟩ => []) (fun ⟨n, l, Y, A, cap⟩ W => (pipeL com RP.length [cP] RP = pipeL com n l Y ∧ Suf Y Z ∧ Y.length ≤ n ∧ l.length + Y.length ≤ Z.length ∧ 1 ≤ l.length) ∧ (Chg [rb] w W) ∧ (Tab W) ∧ (MaxT W) ∧ (Blk W b2 [.int .i64 0, S [], .bool false, .bool false, .slice none 0 0, .slice none 0 0, .slice none 0 0, .slice none 0 0, .slice none 0 0] 30) ∧ (RdAt W rb tb d Y) ∧ (Own cmE 30 W (fun k => w.heap.size ≤ k ∧ k ≠ b2 ∧ k ≠ b3) A cap l) ∧ (Blk W b3 [.int .i64 2, S [], .bool (isT 1 [[33]] Z), .bool false, .slice none 0 0, .slice none 0 0, .slice none 0 0, .slice A l.length cap, .slice none 0 0] 30)) (fun ⟨n, l, Y, A, cap⟩ => Y.length) (RP.length, [cP], RP, (some ⟨b23, 0, none⟩), 1) ?_ ?_ ?_
 · exact trivial
 ·refine ⟨?_, HC, ht, hmx, hb4, hR, oK, hb30⟩
  exact ⟨rfl, hsP.trans hsY0, Nat.le_refl _, by have := hsY0.len; simp only [List.length_cons, List.length_nil]; omega, by simp⟩
 intro ⟨n, l, Y, A, cap⟩ G32 w31 ⟨⟨hpe, hsY, hn, hll, hl1⟩, HC, ht, hmx, hb4, hR, oK, hb3⟩
 change wp _ _ _ _ _ (upds (over _ _ G32) []) _ _
 have hgY := hsY.good
 have hzY := hsY.gb hz
 have hpY := hgY.pos
 obtain ⟨n, rfl⟩ : ∃ m, n = m + 1 := ⟨n - 1, by omega⟩
 refine x_seq <| sr rfl <| mP rfl <| Wp rfl <| st_lit (ps := [(0, .const (S [124]))]) (vs := [S _]) T.lit23 (by decide) rfl q6 rfl ?_
 intro b33 w34 e35 c36 hb37
 have ge_b33 := gB e35 HC.size
 have na_Kb33 : b33 ∉ ob (A) := oK.fresh (by rw [e35]; exact Nat.le_refl _)
 replace HC := HC.then c36
 replace ht := ht.tr0 c36
 replace hmx := hmx.tr0 c36
 replace hb4 := hb4.tr0 c36
 replace hR := hR.tr0 c36
 replace oK := oK.tr0 c36
 replace hb3 := hb3.tr0 c36
 clear e35
 refine Wp rfl <| st_call (ags := [_, _, _]) rfl rfl T.ent63 rfl (gtake_spec (Z := Y) (l := [[124]]) 2 hgY hR hq (sl_str [[124]] hb37) (by simp)) ?_
 rintro _ w38 ⟨rfl, hR, c39⟩
 replace HC := HC.trans c39 q4
 replace ht := ht.tr c39 q1
 replace hmx := hmx.tr c39 q1
 replace hb4 := hb4.tr1 c39 (by omega)
 replace oK := oK.tr c39 q3
 replace hb3 := hb3.tr1 c39 (by omega)
 replace hb37 := hb37.tr1 c39 (by omega)
 refine en <| x_cond rfl (fun h0 => ?_) (fun h0 => ?_)
 ·try simp only [nm, ne_eq] at h0
  have hbar : isT 2 [[124]] Y = true := by first | assumption | simp_all
  rw [if_pos hbar] at hR
  have hgT := hgY.tail (by rw [(isT_tail hbar).1]; decide)
  refine x_skip <| then_n <| x_block <| sr rfl <| mP rfl <| Wp rfl <| st_call (ags := [_]) rfl rfl T.ent14 rfl (glines_spec (Z := Y.tail) hgT hR hq) ?_
  rintro _ w40 ⟨hR, c41⟩
  replace HC := HC.trans c41 q4
  replace ht := ht.tr c41 q1
  replace hmx := hmx.tr c41 q1
  replace hb4 := hb4.tr1 c41 (by omega)
  replace oK := oK.tr c41 q3
  replace hb3 := hb3.tr1 c41 (by omega)
  replace hb37 := hb37.tr1 c41 (by omega)
  refine en ?_
  have hsL := lines_suf hgT
  have hsT := hsL.trans (Suf.tail hgY (by rw [(isT_tail hbar).1]; decide))
  have hgL := hsL.good
  have hzL := hsT.gb hzY
  refine x_draw [(0, 0), (1, 0), (2, 0), (3, 1), (4, 1), (5, 1), (6, 0), (7, 2)] T.mixed rfl rfl rfl (fun W => W.heap[b2]? = w40.heap[b2]? ∧ W.heap[b3]? = w40.heap[b3]? ∧ W.heap[b33]? = w40.heap[b33]? ∧ True) ⟨rfl, rfl, rfl, trivial⟩ ?_
  have o44 := hb4
  have o45 := hb3
  have o46 := hb37
  have c43 := Chg.drew w40
  generalize World.drew w40 = w42 at c43 ⊢
  replace HC := HC.then c43
  replace ht := ht.tr0 c43
  replace hmx := hmx.tr0 c43
  replace hb4 := hb4.tr0 c43
  replace oK := oK.tr0 c43
  replace hb3 := hb3.tr0 c43
  replace hb37 := hb37.tr0 c43
  replace hR := hR.tr0 c43
  refine sq_q rfl (fun W hT => r_fieldAddr T.fld30_7 rfl) <| sq_q rfl (fun W hT => r_load1 (v := .slice _ _ _) T.one27 rfl (Blk.cell (show Blk W b3 _ _ from hT.2.1.trans o45) rfl)) <| sq_q rfl (fun W hT => r_move (v := .pointer _) rfl) ?_
  have ltC_b2 := hb4.lt
  have ltC_b3 := hb3.lt
  have ltC_b33 := hb37.lt
  have olC_oK := oK.lt
  have szlC := HC.size
  refine sq_callP1 rfl (r_call (ags := [_]) rfl rfl T.ent64 rfl) (hcom _ _ hgL hzL hR hq hmx ht) ?_ ?_
  ·rintro _ w47 ⟨R9, e9, he9, hs9, rfl, c48⟩
   replace HC := HC.trans c48 q4
   intro E9
   refine block_p <| then_p <| block_p <| then_p <| pp_panic ?_
   exact ⟨R9, e9, by rw [pipeG, heP]; show Rs.bind (pipeL com RP.length [cP] RP) _ = _; rw [hpe, pipeL_er hbar he9]; rfl, (hs9.trans hsT).trans hsY, rfl, HC⟩
  rintro _ w49 ⟨cC, RC, vsC, heC, hsC, hlC, rfl, hvC, hR, c50⟩
  obtain ⟨A1C, n1C, A2C, n2C, A3C, n3C, A4C, n4C, A5C, n5C, rfl, hAC, k1C, k2C, k3C, k4C, k5C⟩ := cm_open hvC
  replace hvC := cmE.mono hvC (D' := (fun k => w42.heap.size ≤ k ∧ k < w49.heap.size)) (fun k hk h => ⟨h, hk⟩)
  have szC : w49.heap.size ≤ w49.heap.size := Nat.le_refl _
  have szmC := c50.size
  replace HC := HC.trans c50 q4
  replace ht := ht.tr c50 q1
  replace hmx := hmx.tr c50 q1
  replace hb4 := hb4.tr1 c50 (by omega)
  replace oK := oK.tr c50 q3
  replace hb3 := hb3.tr1 c50 (by omega)
  replace hb37 := hb37.tr1 c50 (by omega)
  refine ⟨_, fun _ h => h, ⟨(Eq.trans hb4 o44.symm), (Eq.trans hb3 o45.symm), (Eq.trans hb37 o46.symm), trivial⟩, ?_⟩
  refine sq_lit1 (ps := [(0, .tmp 20)]) (vs := [.int _ _, S _, .bool _, .bool _, .slice _ _ _, .slice _ _ _, .slice _ _ _, .slice _ _ _, .slice _ _ _]) rfl T.lit27 (by decide) rfl q6 rfl ?_
  intro b51 w52 e53 c54 hb55
  have ge_b51 := gB e53 HC.size
  have na_Kb51 : b51 ∉ ob (A) := oK.fresh (by rw [e53]; exact Nat.le_refl _)
  have gq_szC_b51 : w49.heap.size ≤ b51 := by rw [e53]; exact szC
  replace HC := HC.then c54
  replace ht := ht.tr0 c54
  replace hmx := hmx.tr0 c54
  replace hb4 := hb4.tr0 c54
  replace oK := oK.tr0 c54
  replace hb3 := hb3.tr0 c54
  replace hb37 := hb37.tr0 c54
  replace hR := hR.tr0 c54
  replace hvC := Enc.chg hvC c54 q8
  replace szC := Nat.le_trans szC c54.size
  clear e53
  refine ext_T (b := b51) ⟨(Eq.trans hb4 o44.symm), (Eq.trans hb3 o45.symm), (Eq.trans hb37 o46.symm), trivial⟩ ?_
  have o56 := hb55
  have hszA := HC.size
  refine sq_append1 (c := cmE) (D2 := (fun k => w42.heap.size ≤ k ∧ k < w49.heap.size)) (xs := l) (ys := [cC]) rfl T.slice27 rfl rfl oK rfl rfl (one_elem hvC (hb55.cells (n := 9) rfl)) (fun k _ h => ⟨⟨by omega, by omega, by omega⟩, fun hk => by have h8 := olC_oK k hk; omega⟩) (fun k hk => (by have h7 := HC.size; have h8 := hb4.lt; have h9 := hb3.lt; exact ⟨by omega, by omega, by omega⟩)) q7 q7 ?_
  intro A57 cap58 w59 ho60 c61 hg62
  replace HC := HC.trans c61 (fun k hk => .inr ((oK.inD k hk).1))
  replace ht := ht.tr c61 (fun hx => by first | (have h1 := (oK.inD _ hx).1; omega) | (have h1 : w.heap.size ≤ 0 := oK.inD _ hx; omega))
  replace hmx := hmx.tr c61 (by intro hx; have hD := oK.inD _ hx; omega)
  replace hb4 := hb4.tr c61 (fun hx => by first | (have h1 := oK.inD _ hx; omega) | exact na_Kb2 hx | exact hav _ hx (by simp))
  replace hb3 := hb3.tr c61 (fun hx => by first | (have h1 := oK.inD _ hx; omega) | exact na_Kb3 hx | exact hav _ hx (by simp))
  replace hb37 := hb37.tr c61 (fun hx => by first | (have h1 := oK.inD _ hx; omega) | exact na_Kb33 hx | exact hav _ hx (by simp))
  replace hR := hR.tr c61 (by intro k hk; have hD := oK.inD k hk; omega)
  replace szC := Nat.le_trans szC c61.size
  replace hb55 := hb55.tr c61 (fun hx => by first | (have h1 := oK.inD _ hx; omega) | exact na_Kb51 hx | exact hav _ hx (by simp))
  refine ⟨_, fun _ h => h, ⟨(Eq.trans hb55 o56.symm), ⟨(Eq.trans hb4 o44.symm), (Eq.trans hb3 o45.symm), (Eq.trans hb37 o46.symm), trivial⟩⟩, ?_⟩
  refine sq_q rfl (fun W hT => r_fieldAddr T.fld30_7 rfl) <| sq_store2 rfl T.size27 (v := .slice _ _ _) rfl rfl rfl hb3 rfl (Nat.le_of_ble_eq_true rfl) q5 rfl ?_
  intro w63 c64 hb65; simp only [setVs, setV] at hb65
  clear hb3
  replace HC := HC.then1 c64 ge_b3
  replace ht := ht.tr c64 q1
  replace hmx := hmx.tr c64 q1
  replace hb4 := hb4.tr1 c64 ne_b2_b3
  replace ho60 := ho60.tr c64 q3
  replace hR := hR.tr c64 q2
  replace szC := Nat.le_trans szC c64.size
  clear o44
  clear o45
  clear o46
  clear o56
  refine sq_nil <| block_n <| then_n <| ⟨(n, l ++ [cC], RC, A57, cap58), ?_, ?_, rfl, trivial, ?_⟩
  ·refine ⟨?_, HC, ht, hmx, hb4, hR, ho60, (by rw [List.length_append]; exact hb65)⟩
   exact ⟨by rw [hpe]; exact pipeL_on hbar heC, (hsC.trans hsT).trans hsY, by have := hsT.len; have := tail_len hgY; omega, by have := hsT.len; have := tail_len hgY; simp only [List.length_append, List.length_cons, List.length_nil]; omega, by simp⟩
  ·show RC.length < Y.length; have := hsT.len; omega
  exact q9
 ·try simp only [nm, ne_eq] at h0
  have hbar : isT 2 [[124]] Y = false := by first | assumption | simp_all
  rw [if_neg (by rw [hbar]; simp)] at hR
  have hfin := hpe.trans (pipeL_end hbar)
  refine x_exit <| then_x <| then_x <| block_x <| then_n <| x_seq <| sr rfl <| fa T.fld30_7 rfl <| lL T.one27 rfl (hb3.cell rfl) <| Wp rfl <| st_len (ct := #[27]) (by rw [show ((#[27] : Array TypeId)[0]?).bind Tryz.prog.underlying = some (.slice 30) from T.u27]; rfl) rfl <| Wp rfl <| st_eql rfl rfl <| mB rfl <| w_split (d := 28) rfl (fun g66 => ?_) (fun g66 => ?_)
  ·try simp only [nm, ne_eq] at g66
   refine w_yes 4 28 true <| st_fieldAddr T.fld30_2 rfl <| w_yes 4 28 true <| st_load1 (v := .bool _) T.one4 rfl (hb3.cell rfl) <| w_yes 4 28 true <| st_not rfl <| pT rfl rfl <| en <| x_cond rfl (fun h1 => ?_) (fun h1 => ?_)
   ·try simp only [nm, ne_eq] at h1
    obtain ⟨c0, rfl⟩ := List.length_eq_one_iff.1 (show l.length = 1 by omega)
    have hslo := oK.sl
    refine sr rfl <| fa T.fld30_7 rfl <| lL T.one27 rfl (hb3.cell rfl) ?_
    obtain ⟨lb71, _, vs70, hA67, hR69, hC68⟩ := hslo.at (i := 0) (x := c0) (rfl)
    have hvE := hR69
    obtain ⟨A1E, n1E, A2E, n2E, A3E, n3E, A4E, n4E, A5E, n5E, rfl, hAE, k1E, k2E, k3E, k4E, k5E⟩ := cm_open hR69
    refine Wp rfl <| st_indexAddr T.u27 T.size30 (congrArg (fun z => Value.slice z _ _) hA67) rfl (by decide) (by simp) <| Wp rfl <| st_loadA (vs := [_, _, _, _, _, _, _, _, _]) T.agg30 rfl hC68 rfl <| Wp rfl <| st_st (v := .agg ⟨[_, _, _, _, _, _, _, _, _]⟩) T.size30 rfl rfl rfl hb4 ?_
    intro w72 c73 hb74; simp only [setVs, setV] at hb74
    clear hb4
    replace HC := HC.then1 c73 ge_b2
    replace hR := hR.tr c73 q2
    replace hvE := Enc.chg hvE c73 q3
    refine en <| x_ret <| then_r <| pp_ret <| ret_cellA (vs := [_, _, _, _, _, _, _, _, _]) rfl rfl T.agg30 (hb74.cells (n := 9) rfl) rfl <| ⟨_, Y, _, by rw [pipeG, heP]; show Rs.bind (pipeL com RP.length [cP] RP) _ = _; rw [hfin]; rfl, hsY, by omega, rfl, ?_, hR, HC⟩
    rw [show pipeC (isT 1 [[33]] Z) [c0] = c0 by unfold pipeC; rw [if_pos ⟨rfl, by first | assumption | simp_all⟩]; rfl]
    exact cmE.mono hvE (fun k _ h => h.1)
   ·try simp only [nm, ne_eq] at h1
    refine x_skip <| then_n <| sr rfl <| Wp rfl <| st_loadA (vs := [_, _, _, _, _, _, _, _, _]) T.agg30 rfl (hb3.cells (n := 9) (vs := [_, _, _, _, _, _, _, _, _]) rfl) rfl <| Wp rfl <| st_st (v := .agg ⟨[_, _, _, _, _, _, _, _, _]⟩) T.size30 rfl rfl rfl hb4 ?_
    intro w75 c76 hb77; simp only [setVs, setV] at hb77
    clear hb4
    replace HC := HC.then1 c76 ge_b2
    replace oK := oK.tr c76 q3
    replace hR := hR.tr c76 q2
    refine en <| x_ret <| pp_ret <| ret_cellA (vs := [_, _, _, _, _, _, _, _, _]) rfl rfl T.agg30 (hb77.cells (n := 9) rfl) rfl <| ⟨_, Y, _, by rw [pipeG, heP]; show Rs.bind (pipeL com RP.length [cP] RP) _ = _; rw [hfin]; rfl, hsY, by omega, rfl, ?_, hR, HC⟩
    rw [show pipeC (isT 1 [[33]] Z) l = .mk 2 [] (isT 1 [[33]] Z) false [] [] [] l [] by unfold pipeC; rw [if_neg (by rintro ⟨h7, h8⟩; first | omega | simp_all)]]
    exact cm_shut (c := .mk 2 [] (isT 1 [[33]] Z) false [] [] [] l []) ⟨.nil, .nil, .nil, oK.sl.mono (fun k _ h => h.1), .nil⟩ ⟨Nat.le_refl _, by decide⟩ ⟨Nat.le_refl _, by decide⟩ ⟨Nat.le_refl _, by decide⟩ oK.le ⟨Nat.le_refl _, by decide⟩
  ·try simp only [nm, ne_eq] at g66
   iterate 3 refine w_no 4 28 true ?_
   refine pF rfl rfl <| en <| x_cond (t := false) rfl (fun h1 => ?_) (fun h1 => ?_)
   · exact absurd h1 (by decide)
   refine x_skip <| then_n <| sr rfl <| Wp rfl <| st_loadA (vs := [_, _, _, _, _, _, _, _, _]) T.agg30 rfl (hb3.cells (n := 9) (vs := [_, _, _, _, _, _, _, _, _]) rfl) rfl <| Wp rfl <| st_st (v := .agg ⟨[_, _, _, _, _, _, _, _, _]⟩) T.size30 rfl rfl rfl hb4 ?_
   intro w78 c79 hb80; simp only [setVs, setV] at hb80
   clear hb4
   replace HC := HC.then1 c79 ge_b2
   replace oK := oK.tr c79 q3
   replace hR := hR.tr c79 q2
   refine en <| x_ret <| pp_ret <| ret_cellA (vs := [_, _, _, _, _, _, _, _, _]) rfl rfl T.agg30 (hb80.cells (n := 9) rfl) rfl <| ⟨_, Y, _, by rw [pipeG, heP]; show Rs.bind (pipeL com RP.length [cP] RP) _ = _; rw [hfin]; rfl, hsY, by omega, rfl, ?_, hR, HC⟩
   rw [show pipeC (isT 1 [[33]] Z) l = .mk 2 [] (isT 1 [[33]] Z) false [] [] [] l [] by unfold pipeC; rw [if_neg (by rintro ⟨h7, h8⟩; first | omega | simp_all)]]
   exact cm_shut (c := .mk 2 [] (isT 1 [[33]] Z) false [] [] [] l []) ⟨.nil, .nil, .nil, oK.sl.mono (fun k _ h => h.1), .nil⟩ ⟨Nat.le_refl _, by decide⟩ ⟨Nat.le_refl _, by decide⟩ ⟨Nat.le_refl _, by decide⟩ oK.le ⟨Nat.le_refl _, by decide⟩

end Go.Proofs.YtghjmiggobpmoaaGreatDoor.K
