import Derived.Test.YtncnalboiljgiaaGreatKitSq
import Derived.Test.YtncnalboiljgiaaGreatWb
import Derived.Test.YtncnalboiljgiaaGreatPatt
set_option linter.unusedVariables false
set_option linter.unusedSimpArgs false
set_option autoImplicit false
set_option maxRecDepth 20000
namespace Go.Proofs.YtncnalboiljgiaaGreat.K
open Go Go.Proofs Go.RowKit
theorem Blk.setCells {b : Nat} {T' : TypeId} : ∀ (vs : List Value) (o : Nat) (w : World) (cs : List Value), Blk w b cs T' → Blk (w.setCells b o vs) b (setVs cs o vs) T' ∧ Chg [b] w (w.setCells b o vs)
  | [], o, w, cs, h => ⟨h, .refl w⟩
  | v :: vs, o, w, cs, h => by
    have h1 := Blk.set (off := o) h v
    have h2 := Blk.setCells vs (o + 1) _ _ h1
    exact ⟨h2.1, (Chg.setCell w ⟨b, o, none⟩ v).trans h2.2 (fun x hx => .inl hx)⟩
theorem setVs_all (vs cs rest : List Value) (h : vs.length = cs.length) : setVs (cs ++ rest) 0 vs = vs ++ rest := by
  rw [setVs_eq vs (cs ++ rest) 0 (by simp; omega)]; simp [h]
abbrev sC (xs : List Bytes) : List Value := flatC (fun s : Bytes => [S s]) xs
theorem sC_map (xs : List Bytes) : sC xs = xs.map S := by unfold sC flatC; induction xs <;> simp_all
theorem Own.nilS {w : World} {D : Nat → Prop} {A : Option Addr} {cap : Nat} {xs : List Bytes} (h : Own sE 9 w D A cap xs) (hA : A = none) : xs = [] := by
  subst hA
  rcases h.form with h | ⟨_, h, _⟩
  · exact h.2.2
  · cases h
theorem Reverse_spec {w : World} {D : Nat → Prop} {A : Option Addr} {cap : Nat} {xs : List Bytes} (ho : Own sE 9 w D A cap xs) (hl : xs.length ≤ 1000000000) : CallR Tryz.prog 107 #[.slice A xs.length cap] w fun v w' => v = .tuple ⟨[]⟩ ∧ Own sE 9 w' D A cap xs.reverse ∧ Chg (ob A) w w' := by
  cases A with
  | none =>
    obtain rfl := ho.nilS rfl
    exact CallR.of (Tryz.slices_Reverse_string_empty none cap w) fun e w' ⟨h1, h2⟩ => ⟨_, h1, rfl, by rw [h2]; exact ho, by rw [h2]; exact .refl w⟩
  | some a =>
    obtain ⟨g, rest, rfl, hb, hln, hle, hcap, hD⟩ := ho.raw
    replace hb : Blk w g (sC xs ++ rest) 9 := hb
    have hS : ∀ i, i < xs.length → w.cell? ⟨g, 0 + i, none⟩ = some (.string ⟨⟨xs.getD i []⟩⟩) := fun i hi => hb.cell (by
      rw [nthV_eq, Nat.zero_add, List.getElem?_append_left (by rw [sC_map, List.length_map]; exact hi), sC_map, List.getElem?_map, List.getD_eq_getElem?_getD, List.getElem?_eq_getElem hi]; rfl)
    refine CallR.of (Tryz.slices_Reverse_string_cells g 0 xs.length cap (fun i => ⟨⟨xs.getD i []⟩⟩) w (by omega) hS (fun j _ => hb.free)) fun e w' ⟨h1, q, h2⟩ => ⟨_, h1, rfl, ?_⟩
    have hx : Lib.strsOf (fun i => ⟨⟨xs.getD i []⟩⟩) xs.length = xs := by
      unfold Lib.strsOf
      apply List.ext_getElem?; intro i
      rw [List.getElem?_map]
      by_cases hi : i < xs.length
      · rw [List.getElem?_range hi, List.getElem?_eq_getElem hi]; simp [hi]
      · rw [List.getElem?_eq_none (by simpa using hi), List.getElem?_eq_none (by omega)]; rfl
    rw [hx] at h2
    have hm : (xs.reverse.map Go.Proofs.encStr) = sC xs.reverse := by rw [sC_map]; rfl
    rw [hm] at h2
    have h3 := Blk.setCells (sC xs.reverse) 0 (w.drewN q) (sC xs ++ rest) (T' := 9) (hb.tr0 (Chg.drewN w q))
    rw [setVs_all _ _ _ (by rw [sC_map, sC_map]; simp)] at h3
    rw [← h2] at h3
    refine ⟨?_, (Chg.drewN w q).wide.trans h3.2 (fun k hk => .inl (by simpa [ob] using hk))⟩
    have h4 : (sC xs.reverse ++ rest).length = cap * 1 := by rw [← hln]; show (sC xs.reverse ++ rest).length = (sC xs ++ rest).length; rw [sC_map, sC_map]; simp
    exact Own.of_raw h3.1 h4 (by rw [List.length_reverse]; exact hle) hcap hD
def curV (p : Bytes) (cur : Int) : Int := if Lib.hasPrefix p [47] = true then 0 else cur
theorem push_spec {Z : Tre} {An : Option Addr} {capn : Nat} {mx my cur links : Int} {b : Nat} {l : List Bytes} {Al : Option Addr} {capl : Nat} {D : Nat → Prop} {w : World} (p : Bytes) (hb : Blk w b [.slice An Z.length capn, .int .i64 mx, .int .i64 my, .int .i64 cur, .slice Al l.length capl, .int .i64 links] 127) (ho : Own sE 9 w D Al capl l) (hDb : ∀ k, D k → k ≠ b) (hfr : ∀ k, w.heap.size ≤ k → D k) (hmx : MaxT w) (hbm : b ≠ 0) (hp : p.length ≤ 10000000) (hl : l.length ≤ 10000000) : CallR Tryz.prog 83 #[.pointer (some ⟨b, 0, none⟩), S p] w fun v w' => v = .tuple ⟨[]⟩ ∧ (∃ Al' capl', Blk w' b [.slice An Z.length capn, .int .i64 mx, .int .i64 my, .int .i64 (curV p cur), .slice Al' (l ++ (partsV p).reverse).length capl', .int .i64 links] 127 ∧ Own sE 9 w' D Al' capl' (l ++ (partsV p).reverse) ∧ ∀ k, k ∈ ob Al' → k ∈ ob Al ∨ w.heap.size ≤ k) ∧ Chg (b :: ob Al) w w' := by
 have hbl : b < w.heap.size := hb.lt
 have hpl : (partsV p).length ≤ p.length := partsF_len (p.length + 1) p
 refine callR_of_wp (args := [_, _]) Tryz.func83 rfl (Nat.le_of_ble_eq_true rfl) ?_
 have HC : Chg (b :: ob Al) w w := .refl _
 have hm1 := hmx.lt
 refine x_seq <| sr rfl <| mS rfl <| Wp rfl <| st_call (ags := [_, _]) rfl rfl T.ent54 rfl (HasPrefix_spec _ _ _) ?_
 rintro _ w1 ⟨rfl, c2⟩
 replace HC := HC.then c2
 replace hb := hb.tr0 c2
 replace ho := ho.tr0 c2
 replace hmx := hmx.tr0 c2
 refine en <| x_cond rfl (fun h0 => ?_) (fun h0 => ?_)
 ·try simp only [nm, ne_eq] at h0
  refine x_region rfl <| mP rfl <| nc rfl <| fa T.fld127_1 rfl <| Wp rfl <| st_st (v := .int _ _) T.size3 rfl rfl rfl hb ?_
  intro w3 c4 hb5; simp only [setVs, setV] at hb5
  clear hb
  replace HC := HC.trans c4 q4
  replace ho := ho.trF flat_flat c4 (by intro k hk hx; have h1 := hDb _ (ho.inD _ hk); exact h1 (List.mem_singleton.1 hx))
  replace hmx := hmx.tr c4 q1
  refine en <| sr rfl <| mS rfl <| Wp rfl <| st_call (ags := [_]) rfl rfl T.ent106 rfl (Parts_spec p _ hmx (by omega)) ?_
  have hszP := HC.size
  have hbP := hb5.lt
  have hoP := ho.lt
  rintro _ w6 ⟨⟨Ap, capp, rfl, hop⟩, c7⟩
  replace HC := HC.then c7
  replace ho := ho.tr0 c7
  replace hb5 := hb5.tr0 c7
  refine aL rfl <| en <| sr rfl <| mL rfl <| Wp rfl <| st_call (ags := [_]) rfl rfl T.ent107 rfl (Reverse_spec hop (by omega)) ?_
  rintro _ w8 ⟨rfl, hor, c9⟩
  replace hb5 := hb5.tr c9 (fun hx => by have := hop.inD _ hx; omega)
  replace ho := ho.trF flat_flat c9 (by intro k hk hx; have h1 := hop.inD _ hx; have h2 := hoP _ hk; omega)
  replace HC := HC.trans c9 (fun k hk => .inr (by have h1 := hop.inD _ hk; have h2 := hszP; omega))
  refine en ?_
  rcases Decidable.em (partsV p = []) with hpe | hpe0
  ·refine x_region rfl <| mP rfl <| mP rfl <| nc rfl <| fa T.fld127_2 rfl <| lL T.one29 rfl (hb5.cell rfl) <| mL rfl <| Wp rfl <| st_append0 T.slice29 rfl (by rw [hpe]; rfl) ho.le.1 ?_
   have hoz : Own sE 9 w8 D Al capl (l ++ (partsV p).reverse) := by rw [hpe, List.reverse_nil, List.append_nil]; exact ho
   have hob : ∀ k, k ∈ ob Al → k ∈ ob Al ∨ w.heap.size ≤ k := fun k hk => .inl hk
   refine nc rfl <| fa T.fld127_2 rfl <| Wp rfl <| st_st (v := .slice _ _ _) T.size29 rfl rfl rfl hb5 ?_
   intro w10 c11 hb12; simp only [setVs, setV] at hb12
   clear hb5
   replace HC := HC.trans c11 q4
   replace hoz := hoz.trF flat_flat c11 (by intro k hk hx; have h1 := hDb _ (hoz.inD _ hk); exact h1 (List.mem_singleton.1 hx))
   refine wops_nil <| ret_none_n rfl ?_
   have hcur : curV p cur = 0 := by unfold curV; rw [if_pos h0]
   rw [hcur]
   refine ⟨rfl, ⟨Al, capl, ?_, hoz, hob⟩, HC⟩
   have hbz := hb12
   first | exact hbz | (rw [hpe, List.reverse_nil, List.append_nil]; exact hbz) | (simpa using hbz)
  ·have hpe : (partsV p).reverse ≠ [] := by simpa using hpe0
   refine x_region rfl <| mP rfl <| mP rfl <| nc rfl <| fa T.fld127_2 rfl <| lL T.one29 rfl (hb5.cell rfl) <| mL rfl ?_
   obtain ⟨ag, rfl⟩ : ∃ a, Ap = some a := by cases Ap with | none => exact absurd (hor.nilS rfl) hpe | some a => exact ⟨a, rfl⟩
   obtain ⟨gp, restp, hgp, _⟩ := hor.raw
   cases hgp
   have hslp := hor.sl
   have hszA := HC.size
   refine Wp rfl <| st_append2 (c := sE) (D2 := fun _ => False) (xs := l) (ys := (partsV p).reverse) T.slice29 rfl rfl ho rfl (by rw [List.length_reverse]) (fun i y hy => by obtain ⟨lb, lo, us, hA, hR, hC⟩ := hslp.at hy; cases hA; exact ⟨us, hR, hC⟩) (fun _ _ h => h.elim) (fun k hk => hfr k (by omega)) (by rw [List.length_reverse]; omega) (by rw [List.length_reverse]; omega) ?_
   intro A13 cap14 w15 ho16 c17 hg18
   replace hb5 := hb5.tr c17 (fun hx => hDb _ (ho.inD _ hx) rfl)
   replace HC := HC.trans c17 (fun k hk => .inl (by simp [hk]))
   have hob : ∀ k, k ∈ ob A13 → k ∈ ob Al ∨ w.heap.size ≤ k := fun k hk => (hg18 k hk).imp id (fun h => by omega)
   refine nc rfl <| fa T.fld127_2 rfl <| Wp rfl <| st_st (v := .slice _ _ _) T.size29 rfl rfl rfl hb5 ?_
   intro w19 c20 hb21; simp only [setVs, setV] at hb21
   clear hb5
   replace HC := HC.trans c20 q4
   replace ho16 := ho16.trF flat_flat c20 (by intro k hk hx; have h1 := hDb _ (ho16.inD _ hk); exact h1 (List.mem_singleton.1 hx))
   refine wops_nil <| ret_none_n rfl ?_
   have hcur : curV p cur = 0 := by unfold curV; rw [if_pos h0]
   rw [hcur]
   refine ⟨rfl, ⟨A13, cap14, ?_, ho16, hob⟩, HC⟩
   have hbz := hb21
   first | exact hbz | (rw [hpe, List.reverse_nil, List.append_nil]; exact hbz) | (simpa using hbz)
 ·try simp only [nm, ne_eq] at h0
  refine x_skip <| then_n <| sr rfl <| mS rfl <| Wp rfl <| st_call (ags := [_]) rfl rfl T.ent106 rfl (Parts_spec p _ hmx (by omega)) ?_
  have hszP := HC.size
  have hbP := hb.lt
  have hoP := ho.lt
  rintro _ w22 ⟨⟨Ap, capp, rfl, hop⟩, c23⟩
  replace HC := HC.then c23
  replace hb := hb.tr0 c23
  replace ho := ho.tr0 c23
  refine aL rfl <| en <| sr rfl <| mL rfl <| Wp rfl <| st_call (ags := [_]) rfl rfl T.ent107 rfl (Reverse_spec hop (by omega)) ?_
  rintro _ w24 ⟨rfl, hor, c25⟩
  replace hb := hb.tr c25 (fun hx => by have := hop.inD _ hx; omega)
  replace ho := ho.trF flat_flat c25 (by intro k hk hx; have h1 := hop.inD _ hx; have h2 := hoP _ hk; omega)
  replace HC := HC.trans c25 (fun k hk => .inr (by have h1 := hop.inD _ hk; have h2 := hszP; omega))
  refine en ?_
  rcases Decidable.em (partsV p = []) with hpe | hpe0
  ·refine x_region rfl <| mP rfl <| mP rfl <| nc rfl <| fa T.fld127_2 rfl <| lL T.one29 rfl (hb.cell rfl) <| mL rfl <| Wp rfl <| st_append0 T.slice29 rfl (by rw [hpe]; rfl) ho.le.1 ?_
   have hoz : Own sE 9 w24 D Al capl (l ++ (partsV p).reverse) := by rw [hpe, List.reverse_nil, List.append_nil]; exact ho
   have hob : ∀ k, k ∈ ob Al → k ∈ ob Al ∨ w.heap.size ≤ k := fun k hk => .inl hk
   refine nc rfl <| fa T.fld127_2 rfl <| Wp rfl <| st_st (v := .slice _ _ _) T.size29 rfl rfl rfl hb ?_
   intro w26 c27 hb28; simp only [setVs, setV] at hb28
   clear hb
   replace HC := HC.trans c27 q4
   replace hoz := hoz.trF flat_flat c27 (by intro k hk hx; have h1 := hDb _ (hoz.inD _ hk); exact h1 (List.mem_singleton.1 hx))
   refine wops_nil <| ret_none_n rfl ?_
   have hcur : curV p cur = cur := by unfold curV; rw [if_neg (by simp [h0])]
   rw [hcur]
   refine ⟨rfl, ⟨Al, capl, ?_, hoz, hob⟩, HC⟩
   have hbz := hb28
   first | exact hbz | (rw [hpe, List.reverse_nil, List.append_nil]; exact hbz) | (simpa using hbz)
  ·have hpe : (partsV p).reverse ≠ [] := by simpa using hpe0
   refine x_region rfl <| mP rfl <| mP rfl <| nc rfl <| fa T.fld127_2 rfl <| lL T.one29 rfl (hb.cell rfl) <| mL rfl ?_
   obtain ⟨ag, rfl⟩ : ∃ a, Ap = some a := by cases Ap with | none => exact absurd (hor.nilS rfl) hpe | some a => exact ⟨a, rfl⟩
   obtain ⟨gp, restp, hgp, _⟩ := hor.raw
   cases hgp
   have hslp := hor.sl
   have hszA := HC.size
   refine Wp rfl <| st_append2 (c := sE) (D2 := fun _ => False) (xs := l) (ys := (partsV p).reverse) T.slice29 rfl rfl ho rfl (by rw [List.length_reverse]) (fun i y hy => by obtain ⟨lb, lo, us, hA, hR, hC⟩ := hslp.at hy; cases hA; exact ⟨us, hR, hC⟩) (fun _ _ h => h.elim) (fun k hk => hfr k (by omega)) (by rw [List.length_reverse]; omega) (by rw [List.length_reverse]; omega) ?_
   intro A29 cap30 w31 ho32 c33 hg34
   replace hb := hb.tr c33 (fun hx => hDb _ (ho.inD _ hx) rfl)
   replace HC := HC.trans c33 (fun k hk => .inl (by simp [hk]))
   have hob : ∀ k, k ∈ ob A29 → k ∈ ob Al ∨ w.heap.size ≤ k := fun k hk => (hg34 k hk).imp id (fun h => by omega)
   refine nc rfl <| fa T.fld127_2 rfl <| Wp rfl <| st_st (v := .slice _ _ _) T.size29 rfl rfl rfl hb ?_
   intro w35 c36 hb37; simp only [setVs, setV] at hb37
   clear hb
   replace HC := HC.trans c36 q4
   replace ho32 := ho32.trF flat_flat c36 (by intro k hk hx; have h1 := hDb _ (ho32.inD _ hk); exact h1 (List.mem_singleton.1 hx))
   refine wops_nil <| ret_none_n rfl ?_
   have hcur : curV p cur = cur := by unfold curV; rw [if_neg (by simp [h0])]
   rw [hcur]
   refine ⟨rfl, ⟨A29, cap30, ?_, ho32, hob⟩, HC⟩
   have hbz := hb37
   first | exact hbz | (rw [hpe, List.reverse_nil, List.append_nil]; exact hbz) | (simpa using hbz)
def longB (n : Bytes) : Bool := decide (64 < n.length)
def firstL : List Bytes → Nat → Int
  | [], _ => -1
  | n :: l, i => if longB n = true then i else firstL l (i + 1)
theorem firstL_any : ∀ (l : List Bytes) (i : Nat), decide (0 ≤ firstL l i) = l.any longB
  | [], i => rfl
  | n :: l, i => by
    rw [firstL, List.any_cons]
    cases longB n with
    | true => simp
    | false => simp only [Bool.false_eq_true, if_false, Bool.false_or]; exact firstL_any l (i + 1)
theorem firstL_step {l : List Bytes} {i : Nat} {x : Bytes} (h : l[i]? = some x) : firstL (l.drop i) i = if longB x = true then (i : Int) else firstL (l.drop (i + 1)) (i + 1) := by
  obtain ⟨hi, rfl⟩ := List.getElem?_eq_some_iff.1 h
  rw [List.drop_eq_getElem_cons hi, firstL]
theorem begin1_spec (n : Bytes) (w : World) : CallR Tryz.prog 85 #[S n] w fun v w' => v = .bool (longB n) ∧ Chg [] w w' := by
 refine callR_of_wp (args := [_]) Tryz.func85 rfl (Nat.le_of_ble_eq_true rfl) ?_
 have HC : Chg [] w w := .refl _
 refine sr rfl <| aB rfl <| en <| sr rfl <| mS rfl <| Wp rfl <| st_slen (ct := #[9]) T.u9 rfl <| Wp rfl <| st_gtr rfl rfl <| aB rfl <| en <| x_ret <| ret_tmp (v := .bool _) rfl rfl <| ⟨?_, HC⟩
 unfold longB; congr 1; rw [decide_eq_decide]; omega
theorem IndexLong_spec {l : List Bytes} {A : Option Addr} {cap : Nat} {D : Nat → Prop} {w : World} (hl : Sl sE w D A l) (hn : l.length ≤ 1000000000) : CallR Tryz.prog 108 #[.slice A l.length cap, .func (.func 85) #[] #[]] w fun v w' => v = .int .i64 (firstL l 0) ∧ Chg [] w w' := by
 refine callR_of_wp (args := [_, _]) Tryz.func108 rfl (Nat.le_of_ble_eq_true rfl) ?_
 have HC : Chg [] w w := .refl _
 refine sr rfl <| aI rfl <| en <| x_seq <| sr rfl <| mL rfl <| Wp rfl <| st_len (ct := #[29]) (by rw [show ((#[29] : Array TypeId)[0]?).bind Tryz.prog.underlying = some (.slice 9) from T.u29]; rfl) rfl <| mI rfl <| en <| x_block <| x_loop (ι := Nat) [4, 5, 8, 9, 10, 11, 12, 13, 14, 15, 16, 17, 18] (fun i => [(8, .int .i64 (i : Int))]) (fun i W => (i ≤ l.length ∧ firstL l 0 = firstL (l.drop i) i) ∧ (Chg [] w W) ∧ (Sl sE W D A l)) (fun i => l.length - i) 0 ?_ ?_ ?_
 · exact ⟨rfl, trivial⟩
 ·refine ⟨?_, HC, hl⟩
  exact ⟨Nat.zero_le _, rfl⟩
 intro i G2 w1 ⟨⟨hi, hf⟩, HC, hl⟩
 change wp _ _ _ _ _ (upds (over _ _ G2) [(8, .int .i64 (i : Int))]) _ _
 refine sr rfl <| Wp rfl <| st_lss rfl rfl <| en <| x_seq <| x_cond rfl (fun h0 => ?_) (fun h0 => ?_)
 ·try simp only [nm, ne_eq] at h0
  obtain ⟨x, hx⟩ : ∃ x, l[i]? = some x := ⟨_, List.getElem?_eq_getElem (by omega)⟩
  refine x_skip <| then_n <| x_seq <| x_block <| sr rfl <| mI rfl <| aI rfl <| en <| sr rfl <| mv (v := .func _ _ _) rfl <| mL rfl <| mI rfl ?_
  obtain ⟨lb7, _, vs6, hA3, hR5, hC4⟩ := hl.at (i := i) (x := x) (hx)
  obtain rfl : vs6 = [S x] := hR5
  refine Wp rfl <| st_indexAddr T.u29 T.size9 (congrArg (fun z => Value.slice z _ _) hA3) rfl (by omega) (by omega) <| lS T.one9 rfl (hC4.at (j := 0) rfl) <| Wp rfl <| st_call (ags := [_]) rfl rfl T.ent85 rfl (begin1_spec _ _) ?_
  rintro _ w8 ⟨rfl, c9⟩
  replace HC := HC.then c9
  replace hl := hl.tr0 c9
  refine en <| x_cond rfl (fun h1 => ?_) (fun h1 => ?_)
  ·try simp only [nm, ne_eq] at h1
   refine sr rfl <| mI rfl <| aI rfl <| en <| x_ret <| block_r <| then_r <| then_r <| block_r <| then_r <| ret_tmp (v := .int _ _) rfl rfl ?_
   rw [hf, firstL_step hx, if_pos (by first | exact h1 | simpa using h1)]
   exact ⟨rfl, HC⟩
  ·try simp only [nm, ne_eq] at h1
   refine x_skip <| block_n <| then_n <| x_region rfl <| Wp rfl <| st_addn rfl rfl (by constructor <;> omega) <| mI rfl <| en <| ⟨i + 1, ?_, ?_, rfl, ⟨rfl, trivial⟩, ?_⟩
   ·refine ⟨?_, HC, hl⟩
    exact ⟨by omega, by rw [hf, firstL_step hx, if_neg (by simpa using h1)]⟩
   ·show l.length - (i + 1) < l.length - i; omega
   exact q9
 ·try simp only [nm, ne_eq] at h0
  refine x_exit <| then_x <| then_x <| block_x <| then_n <| sr rfl <| aI rfl <| en <| x_ret <| ret_tmp (v := .int _ _) rfl rfl ?_
  rw [hf, List.drop_of_length_le (by omega)]
  exact ⟨rfl, HC⟩
theorem AnyLong_spec {l : List Bytes} {A : Option Addr} {cap : Nat} {D : Nat → Prop} {w : World} (hl : Sl sE w D A l) (hn : l.length ≤ 1000000000) : CallR Tryz.prog 84 #[.slice A l.length cap, .func (.func 85) #[] #[]] w fun v w' => v = .bool (l.any longB) ∧ Chg [] w w' := by
 refine callR_of_wp (args := [_, _]) Tryz.func84 rfl (Nat.le_of_ble_eq_true rfl) ?_
 have HC : Chg [] w w := .refl _
 refine sr rfl <| aB rfl <| en <| sr rfl <| mL rfl <| mv (v := .func _ _ _) rfl <| Wp rfl <| st_call (ags := [_, _]) rfl rfl T.ent108 rfl (IndexLong_spec hl hn) ?_
 rintro _ w1 ⟨rfl, c2⟩
 replace HC := HC.then c2
 refine Wp rfl <| st_geq rfl rfl <| aB rfl <| en <| x_ret <| ret_tmp (v := .bool _) rfl rfl ?_
 rw [← firstL_any l 0]
 exact ⟨rfl, HC⟩
open Go Go.Proofs Go.RowKit
def badP (Z : Tre) (cwd : Int) (p : Bytes) : Int := if p = [] then 2 else if dirV Z cwd = false then 2 else if 1024 < p.length then 36 else if (partsV p).any longB = true then 36 else 0
theorem begin_spec {Z : Tre} {An : Option Addr} {capn : Nat} {mx my : Int} {D : Nat → Prop} {w : World} (hT : Sl inE w D An Z) (hTl : Z.length ≤ 1000000000) (cwd : Int) (p : Bytes) (hmx : MaxT w) (hp : p.length ≤ 140737488355328) : CallR Tryz.prog 60 #[.agg ⟨[.slice An Z.length capn, .int .i64 mx, .int .i64 my]⟩, .int .i64 cwd, S p] w fun v w' => (∃ x, v = .tuple ⟨[x, .int .i64 (badP Z cwd p)]⟩ ∧ (badP Z cwd p = 0 → ∃ b Al capl, x = .pointer (some ⟨b, 0, none⟩) ∧ w.heap.size ≤ b ∧ Blk w' b [.slice An Z.length capn, .int .i64 mx, .int .i64 my, .int .i64 (curV p cwd), .slice Al (partsV p).reverse.length capl, .int .i64 0] 127 ∧ Own sE 9 w' (fun k => w.heap.size ≤ k ∧ k ≠ b) Al capl (partsV p).reverse)) ∧ Chg [] w w' := by
 replace hT := hT.mono (D' := fun k => k < w.heap.size) (fun k hk _ => hk)
 refine callR_of_wp (args := [_, _, _]) Tryz.func60 rfl (Nat.le_of_ble_eq_true rfl) ?_
 have HC : Chg [] w w := .refl _
 have hm1 := hmx.lt
 refine sr rfl <| Wp rfl <| st_box (v := .agg ⟨[.slice _ _ _, .int _ _, .int _ _]⟩) (vs := [_, _, _]) rfl rfl ?_
 intro b3 w1 e2 c3 hb4
 have ge_b3 := gB e2 HC.size
 replace HC := HC.then c3
 replace hT := hT.tr0 c3
 replace hmx := hmx.tr0 c3
 clear e2
 refine aP rfl <| aI rfl <| en <| x_seq <| x_block <| sr rfl <| mS rfl <| Wp rfl <| st_seql rfl rfl <| mB rfl <| w_split (d := 12) rfl (fun g5 => ?_) (fun g5 => ?_)
 ·try simp only [nm, ne_eq] at g5
  iterate 4 refine w_no 2 12 false ?_
  refine pT rfl rfl <| aB rfl <| en <| x_cond (t := true) rfl (fun h0 => ?_) (fun h0 => ?_)
  rotate_left
  · exact absurd h0 (by decide)
  refine sr rfl <| aP rfl <| aI rfl <| en <| x_ret <| block_r <| then_r <| ret_tmp2 (v := .pointer _) (v2 := .int _ _) rfl rfl rfl ?_
  have hbad : badP Z cwd p = 2 := by unfold badP; rw [if_pos (by assumption)]
  rw [hbad]
  exact ⟨⟨_, rfl, fun h => by cases h⟩, HC⟩
 ·try simp only [nm, ne_eq] at g5
  refine w_yes 2 12 false <| st_loadA (vs := [_, _, _]) T.agg24 rfl (hb4.cells (n := 3) (vs := [_, _, _]) rfl) rfl <| w_yes 2 12 false <| st_move (v := .int _ _) rfl <| w_yes 2 12 false <| st_call (ags := [_, _]) rfl rfl T.ent62 rfl (wdir_spec hT hTl cwd) ?_
  rintro _ w6 ⟨rfl, c7⟩
  replace HC := HC.then c7
  replace hmx := hmx.tr0 c7
  replace hb4 := hb4.tr0 c7
  refine w_yes 2 12 false <| st_not rfl <| pF rfl rfl <| aB rfl <| en <| x_cond rfl (fun h0 => ?_) (fun h0 => ?_)
  ·try simp only [nm, ne_eq] at h0
   refine sr rfl <| aP rfl <| aI rfl <| en <| x_ret <| block_r <| then_r <| ret_tmp2 (v := .pointer _) (v2 := .int _ _) rfl rfl rfl ?_
   have hbad : badP Z cwd p = 2 := by unfold badP; rw [if_neg (by assumption), if_pos (by assumption)]
   rw [hbad]
   exact ⟨⟨_, rfl, fun h => by cases h⟩, HC⟩
  ·try simp only [nm, ne_eq] at h0
   refine sr rfl <| mS rfl <| Wp rfl <| st_slen (ct := #[9]) T.u9 rfl <| Wp rfl <| st_gtr rfl rfl <| aB rfl <| en <| x_cond rfl (fun h1 => ?_) (fun h1 => ?_)
   ·try simp only [nm, ne_eq] at h1
    have hbad : badP Z cwd p = 36 := by unfold badP; rw [if_neg (by assumption), if_neg (by simp [*]), if_pos (by omega)]
    refine sr rfl <| aP rfl <| aI rfl <| en <| x_ret <| block_r <| then_r <| ret_tmp2 (v := .pointer _) (v2 := .int _ _) rfl rfl rfl ?_
    rw [hbad]
    exact ⟨⟨_, rfl, fun h => by cases h⟩, HC⟩
   ·try simp only [nm, ne_eq] at h1
    refine x_skip <| block_n <| then_n <| sr rfl <| Wp rfl <| st_loadA (vs := [_, _, _]) T.agg24 rfl (hb4.cells (n := 3) (vs := [_, _, _]) rfl) rfl <| mI rfl <| Wp rfl <| st_bld (ps := [(0, .tmp 22), (1, .tmp 23)]) (vs := [.slice _ _ _, .int _ _, .int _ _, .int _ _, .slice _ _ _, .int _ _]) T.bld127 rfl <| Wp rfl <| st_box (v := .agg ⟨[.slice _ _ _, .int _ _, .int _ _, .int _ _, .slice _ _ _, .int _ _]⟩) (vs := [_, _, _, _, _, _]) rfl rfl ?_
    intro b8 w8 e9 c10 hb11
    have ge_b8 := gB e9 HC.size
    have ne_b3_b8 := nF e9 hb4.ne_size
    replace HC := HC.then c10
    replace hmx := hmx.tr0 c10
    clear e9
    refine aP rfl <| en <| sr rfl <| mP rfl <| mS rfl ?_
    have hbm : b8 ≠ 0 := by have := ge_b8; omega
    have hszB := HC.size
    refine Wp rfl <| st_call (ags := [_, _]) rfl rfl T.ent83 rfl (push_spec (D := fun k => w.heap.size ≤ k ∧ k ≠ b8) (l := []) p hb11 Own.nil (fun k h => h.2) (fun k h => ⟨by omega, by have := hb11.lt; omega⟩) hmx hbm (by omega) (by simp)) ?_
    rintro _ w12 ⟨rfl, ⟨Al, capl, hb8z, hol, hob⟩, c13⟩
    rw [List.nil_append] at hb8z hol
    replace c13 : Chg [b8] _ w12 := c13
    replace HC := HC.then1 c13 ge_b8
    have hlz := hol.sl
    refine en <| x_seq <| sr rfl <| mP rfl <| nc rfl <| fa T.fld127_2 rfl <| lL T.one29 rfl (hb8z.cell rfl) <| Wp rfl <| st_call (ags := [_, _]) rfl rfl T.ent84 rfl (AnyLong_spec hlz (by rw [List.length_reverse]; have : (partsV p).length ≤ p.length := partsF_len (p.length + 1) p; omega)) ?_
    rintro _ w14 ⟨rfl, c15⟩
    rw [List.any_reverse]
    replace HC := HC.then c15
    replace hb8z := hb8z.tr0 c15
    replace hol := hol.tr0 c15
    refine en <| x_cond rfl (fun h2 => ?_) (fun h2 => ?_)
    ·try simp only [nm, ne_eq] at h2
     have hbad : badP Z cwd p = 36 := by unfold badP; rw [if_neg (by assumption), if_neg (by simp [*]), if_neg (by omega), if_pos (by first | assumption | simpa using h2)]
     refine sr rfl <| aP rfl <| aI rfl <| en <| x_ret <| then_r <| ret_tmp2 (v := .pointer _) (v2 := .int _ _) rfl rfl rfl ?_
     rw [hbad]
     exact ⟨⟨_, rfl, fun h => by cases h⟩, HC⟩
    ·try simp only [nm, ne_eq] at h2
     have hbad : badP Z cwd p = 0 := by unfold badP; rw [if_neg (by assumption), if_neg (by simp [*]), if_neg (by omega), if_neg (by simpa using h2)]
     refine x_skip <| then_n <| sr rfl <| mP rfl <| aP rfl <| aI rfl <| en <| x_ret <| ret_tmp2 (v := .pointer _) (v2 := .int _ _) rfl rfl rfl ?_
     rw [hbad]
     exact ⟨⟨_, rfl, fun _ => ⟨b8, Al, capl, rfl, ge_b8, hb8z, hol⟩⟩, HC⟩
open Go Go.Proofs Go.RowKit
structure Wst where
  cur : Int
  left : List Bytes
  links : Int
section mem
variable (Z : Tre) (An : Option Addr) (capn : Nat) (mx my : Int) (D : Nat → Prop) (bw b : Nat)
def MemW (q : Wst) (Al : Option Addr) (capl : Nat) (A : World) : Prop := Blk A b [.slice An Z.length capn, .int .i64 mx, .int .i64 my, .int .i64 q.cur, .slice Al q.left.reverse.length capl, .int .i64 q.links] 127 ∧ Own sE 9 A D Al capl q.left.reverse
def StW (xs pre : List Bytes) (A : World) : Prop := Blk A bw [.pointer (some ⟨b, 0, none⟩)] 100 ∧ ∃ q Al capl, MemW Z An capn mx my D b q Al capl A ∧ ((q.left = [] ∧ pre = xs) ∨ ∃ x l' rest, q.left = x :: l' ∧ xs = pre ++ x :: rest)
def PopW (pre : List Bytes) (x : Bytes) (A B : World) : Prop := Chg [b] A B ∧ ∀ q l' Al capl, MemW Z An capn mx my D b q Al capl A → q.left = x :: l' → MemW Z An capn mx my D b ⟨q.cur, l', q.links⟩ Al capl B
end mem
theorem Blk.inj {w : World} {b : Nat} {cs ds : List Value} {T' : TypeId} (h : Blk w b cs T') (k : Blk w b ds T') : cs = ds := by
  have e := (show w.heap[b]? = _ from h).symm.trans (show w.heap[b]? = _ from k)
  simpa using e
theorem wnames_iter {Z : Tre} {An : Option Addr} {capn : Nat} {mx my : Int} {D : Nat → Prop} {bw b : Nat} {xs : List Bytes} (hDb : ∀ k, D k → k ≠ b) (hbb : bw ≠ b) : IterG Tryz.prog 109 [.pointer (some ⟨bw, 0, none⟩)] (fun s => [S s]) xs (StW Z An capn mx my D bw b xs) (PopW Z An capn mx my D b) := by
 intro lp J Jx W hSt hR hJ
 obtain ⟨hbw, q, Al, capl, ⟨hb, ho⟩, hcase⟩ := hSt _ _ hJ
 refine callR_of_wp (args := [_, _]) Tryz.func109 rfl (Nat.le_of_ble_eq_true rfl) <| sr rfl <| Wp rfl <| st_load1 (v := .pointer _) T.one100 rfl (hbw.cell rfl) <| nc rfl <| fa T.fld127_2 rfl <| lL T.one29 rfl (hb.cell rfl) <| Wp rfl <| st_len (ct := #[29]) (by rw [show ((#[29] : Array TypeId)[0]?).bind Tryz.prog.underlying = some (.slice 9) from T.u29]; rfl) rfl <| aI rfl <| en <| x_block <| x_loop (ι := List Bytes × Wst × Option Addr × Nat) [3, 4, 10, 11, 12, 13, 14, 15, 16, 17, 18, 19, 20, 21, 22, 23, 24, 25, 26, 27, 28, 29, 30, 31, 32, 33, 34, 35, 36, 37, 38] (fun ⟨pre, q, Al, capl⟩ => [(3, .int .i64 (q.left.reverse.length : Int))]) (fun ⟨pre, q, Al, capl⟩ W => ((q.left = [] ∧ pre = xs) ∨ ∃ x l' rest, q.left = x :: l' ∧ xs = pre ++ x :: rest) ∧ (Blk W bw [.pointer (some ⟨b, 0, none⟩)] 100) ∧ (Blk W b [.slice An Z.length capn, .int .i64 mx, .int .i64 my, .int .i64 q.cur, .slice Al q.left.reverse.length capl, .int .i64 q.links] 127) ∧ (Own sE 9 W D Al capl q.left.reverse) ∧ (J pre W)) (fun ⟨pre, q, Al, capl⟩ => xs.length - pre.length) ([], q, Al, capl) ?_ ?_ ?_
 · exact ⟨rfl, trivial⟩
 ·refine ⟨?_, hbw, hb, ho, hJ⟩
  exact hcase
 intro ⟨pre, q, Al, capl⟩ G2 w1 ⟨hcase, hbw, hb, ho, hJ⟩
 change wp _ _ _ _ _ (upds (over _ _ G2) [(3, .int .i64 (q.left.reverse.length : Int))]) _ _
 have HA : Chg [b] w1 w1 := .refl _
 obtain ⟨w1z, hw1z⟩ : ∃ W, W = w1 := ⟨_, rfl⟩
 subst hw1z
 have hb0 := hb
 refine x_seq <| sr rfl <| mI rfl <| Wp rfl <| st_gtr rfl rfl <| en <| x_cond rfl (fun h0 => ?_) (fun h0 => ?_)
 ·try simp only [nm, ne_eq] at h0
  obtain ⟨x, l', rest, hq, hxs⟩ := hcase.resolve_left (fun h => by rw [h.1] at h0; simp at h0)
  have hlen : q.left.reverse.length = l'.length + 1 := by rw [hq]; simp
  have hxl : q.left.reverse[l'.length]? = some x := by rw [hq, List.reverse_cons, List.getElem?_append_right (by simp)]; simp
  have hole := ho.le.1
  have hoc := ho.le.2
  have hz := ho.sl
  refine x_skip <| then_n <| x_seq <| x_block <| sr rfl <| Wp rfl <| st_load1 (v := .pointer _) T.one100 rfl (hbw.cell rfl) <| nc rfl <| fa T.fld127_2 rfl <| lL T.one29 rfl (hb.cell rfl) <| mI rfl <| Wp rfl <| st_subk rfl rfl (by exact (show IntKind.i64.wrap _ = ((l'.length : Nat) : Int) by rw [hlen, wrap64_id (by omega) (by omega)]; omega)) ?_
  obtain ⟨lb7, _, vs6, hA3, hR5, hC4⟩ := hz.at (i := (l'.length)) (x := x) (hxl)
  obtain rfl : vs6 = [S x] := hR5
  refine Wp rfl <| st_indexAddr T.u29 T.size9 (congrArg (fun z => Value.slice z _ _) hA3) rfl (by omega) (by omega) <| lS T.one9 rfl (hC4.at (j := 0) rfl) <| aS rfl <| en <| x_seq <| x_draw [(0, 0), (1, 0), (2, 0), (3, 0), (4, 0), (5, 0), (6, 0), (7, 0), (8, 0), (9, 0), (10, 2)] T.mixed rfl rfl rfl (fun W => W.heap[bw]? = w1z.heap[bw]? ∧ W.heap[b]? = w1z.heap[b]? ∧ True) ⟨rfl, rfl, trivial⟩ ?_
  have o10 := hbw
  have o11 := hb
  have c9 := Chg.drew w1z
  generalize World.drew w1z = w8 at c9 ⊢
  replace hb := hb.tr0 c9
  replace HA := HA.then c9
  refine sq_q rfl (fun W hT => r_load1 (v := .pointer _) T.one100 rfl (Blk.cell (show Blk W bw _ _ from hT.1.trans o10) rfl)) <| sq_q rfl (fun W hT => r_load1 (v := .pointer _) T.one100 rfl (Blk.cell (show Blk W bw _ _ from hT.1.trans o10) rfl)) <| sq_q rfl (fun W hT => r_nilCheck rfl) <| sq_q rfl (fun W hT => r_fieldAddr T.fld127_2 rfl) <| sq_q rfl (fun W hT => r_load1 (v := .slice _ _ _) T.one29 rfl (Blk.cell (show Blk W b _ _ from hT.2.1.trans o11) rfl)) <| sq_q rfl (fun W hT => r_move (v := .int _ _) rfl) <| sq_q rfl (fun W hT => r_subk rfl rfl (by exact (show IntKind.i64.wrap _ = ((l'.length : Nat) : Int) by rw [hlen, wrap64_id (by omega) (by omega)]; omega))) <| sq_q rfl (fun W hT => r_cut (xs := q.left.reverse) (j := l'.length) T.u29 T.size9 rfl ⟨_, rfl⟩ (by omega) (by have := hole; omega)) <| sq_q rfl (fun W hT => r_nilCheck rfl) <| sq_q rfl (fun W hT => r_fieldAddr T.fld127_2 rfl) <| sq_store2 rfl T.size29 (v := .slice _ _ _) rfl rfl rfl hb rfl (Nat.le_of_ble_eq_true rfl) q5 rfl ?_
  intro w12 c13 hb14; simp only [setVs, setV] at hb14
  clear hb
  replace HA := HA.trans c13 q4
  clear o10
  clear o11
  refine sq_nil <| then_n <| sr rfl <| mv (v := .func _ _ _) rfl <| mS rfl ?_
  have hpop : PopW Z An capn mx my D b pre x w1z w12 := by
      refine ⟨HA, fun q2 l2 Al2 capl2 hm hl2 => ?_⟩
      obtain ⟨hb2, ho2⟩ := hm
      have he := hb0.inj hb2
      simp only [List.cons.injEq, Value.slice.injEq, Value.int.injEq, true_and, and_true] at he
      obtain ⟨hc1, ⟨rfl, hc2, rfl⟩, hc3⟩ := he
      have hll : l2.length = l'.length := by rw [hq, hl2] at hc2; simp at hc2; omega
      have ht2 : q2.left.reverse.take l'.length = l2.reverse := by rw [hl2, List.reverse_cons, List.take_append_of_le_length (by simp; omega), List.take_of_length_le (by simp; omega)]
      refine ⟨?_, ?_⟩
      · have hbz := hb14
        rw [← hc1, ← hc3]
        rw [List.length_take, hlen, Nat.min_eq_left (by omega)] at hbz
        rw [show (Wst.mk q.cur l2 q.links).left.reverse.length = l'.length by simp [hll]]; exact hbz
      · have h9 := (ho2.take (k := l'.length) (by rw [hl2]; simp; omega)).trF flat_flat HA (by intro k hk hx; exact hDb _ (ho2.inD _ hk) (List.mem_singleton.1 hx))
        rw [ht2] at h9; exact h9
  refine Wp rfl <| st_yield (vs := [S _]) rfl rfl rfl rfl (hR pre x rest _ _ hxs hJ hpop) ?_
  rintro _ w15 (⟨rfl, hJ2⟩ | ⟨rfl, hJ2⟩)
  ·obtain ⟨hbw2, q', Al', capl', ⟨hb2, ho2⟩, hcase2⟩ := hSt _ _ hJ2
   refine Wp rfl <| st_not rfl <| en <| x_cond (t := false) rfl (fun h1 => ?_) (fun h1 => ?_)
   · exact absurd h1 (by decide)
   refine x_skip <| block_n <| then_n <| x_region rfl <| Wp rfl <| st_load1 (v := .pointer _) T.one100 rfl (hbw2.cell rfl) <| nc rfl <| fa T.fld127_2 rfl <| lL T.one29 rfl (hb2.cell rfl) <| Wp rfl <| st_len (ct := #[29]) (by rw [show ((#[29] : Array TypeId)[0]?).bind Tryz.prog.underlying = some (.slice 9) from T.u29]; rfl) rfl <| aI rfl <| en <| ⟨(pre ++ [x], q', Al', capl'), ?_, ?_, rfl, ⟨rfl, trivial⟩, ?_⟩
   ·refine ⟨?_, hbw2, hb2, ho2, hJ2⟩
    exact hcase2
   ·show xs.length - (pre ++ [x]).length < xs.length - pre.length; have h9 := congrArg List.length hxs; simp at h9 ⊢; omega
   exact q9
  ·refine Wp rfl <| st_not rfl <| en <| x_cond (t := true) rfl (fun h1 => ?_) (fun h1 => ?_)
   rotate_left
   · exact absurd h1 (by decide)
   refine x_ret <| block_r <| then_r <| then_r <| block_r <| ret_none rfl ?_
   exact .inr ⟨_, hJ2⟩
 ·try simp only [nm, ne_eq] at h0
  have hdone : pre = xs := by rcases hcase with h | ⟨x, l', rest, h, _⟩; exact h.2; (rw [h] at h0; simp at h0)
  refine x_exit <| then_x <| then_x <| block_x <| ret_none_n rfl ?_
  left
  rw [← hdone]
  exact hJ
theorem wnames_spec {b : Nat} {w : World} : CallR Tryz.prog 86 #[.pointer (some ⟨b, 0, none⟩)] w fun v w' => ∃ bw, v = .func (.func 109) #[] #[.pointer (some ⟨bw, 0, none⟩)] ∧ w.heap.size ≤ bw ∧ Blk w' bw [.pointer (some ⟨b, 0, none⟩)] 100 ∧ Chg [] w w' := by
 refine callR_of_wp (args := [_]) Tryz.func86 rfl (Nat.le_of_ble_eq_true rfl) ?_
 have HC : Chg [] w w := .refl _
 refine sr rfl <| Wp rfl <| st_box (v := .pointer _) (vs := [_]) rfl rfl ?_
 intro bw w1 e2 c3 hb4
 have ge_bw := gB e2 HC.size
 replace HC := HC.then c3
 clear e2
 refine av (v := .nilFunc) rfl <| en <| sr rfl <| Wp rfl <| st_makeFunc <| av (v := .func _ _ _) rfl <| en <| x_ret <| ret_tmp (v := .func _ _ _) rfl rfl ?_
 exact ⟨bw, rfl, ge_bw, hb4, HC⟩
end Go.Proofs.YtncnalboiljgiaaGreat.K
namespace Go.Proofs.YtncnalboiljgiaaGreat.K
open Go Go.Proofs Go.RowKit
def nxtW (Z : Tre) (last : Bool) (q : Wst) (x : Bytes) (l : List Bytes) : Int × Wst :=
  if ¬ (stepV Z q.cur x).2 = 0 then ((stepV Z q.cur x).2, q)
  else if ¬ kindV Z (stepV Z q.cur x).1 = 3 ∨ (l = [] ∧ last = false) then (0, ⟨(stepV Z q.cur x).1, l, q.links⟩)
  else if q.links = 8 then (40, q)
  else (0, ⟨curV (dataV Z (stepV Z q.cur x).1) q.cur, partsV (dataV Z (stepV Z q.cur x).1) ++ l, q.links + 1⟩)
def goV (Z : Tre) (last : Bool) : Nat → Wst → Int × Int
  | 0, _ => (0, 0)
  | k + 1, q => match q.left with
    | [] => (q.cur, 0)
    | x :: l => if ¬ (nxtW Z last q x l).1 = 0 then (0, (nxtW Z last q x l).1) else goV Z last k (nxtW Z last q x l).2
def trV (Z : Tre) (last : Bool) : Nat → Wst → List Bytes
  | 0, _ => []
  | k + 1, q => match q.left with
    | [] => []
    | x :: l => x :: (if ¬ (nxtW Z last q x l).1 = 0 then [] else trV Z last k (nxtW Z last q x l).2)
def mW (q : Wst) : Nat := q.left.length + (8 - q.links).toNat * 70000
theorem data_len {Z : Tre} (hF : FitT Z) (k : Int) : (dataV Z k).length ≤ 65536 := by
  unfold dataV
  cases h : inoV Z k with
  | none => simp
  | some x =>
    unfold inoV at h
    split at h
    · exact hF.data x (List.mem_of_getElem? h)
    · cases h
theorem nxtW_m {Z : Tre} {last : Bool} {q : Wst} {x : Bytes} {l : List Bytes} (hF : FitT Z) (hq : q.left = x :: l) (h0 : 0 ≤ q.links) (h8 : q.links ≤ 8) (h : (nxtW Z last q x l).1 = 0) : mW (nxtW Z last q x l).2 < mW q ∧ 0 ≤ (nxtW Z last q x l).2.links ∧ (nxtW Z last q x l).2.links ≤ 8 := by
  have hl : q.left.length = l.length + 1 := by rw [hq]; rfl
  unfold nxtW at h ⊢
  split at h
  · rename_i hn; exact absurd h hn
  · rename_i hn
    rw [if_neg hn]
    split at h
    · rename_i h2; rw [if_pos h2]; exact ⟨by unfold mW; simp only; omega, h0, h8⟩
    · rename_i h2
      rw [if_neg h2]
      split at h
      · exact absurd (show (40 : Int) = 0 from h) (by decide)
      · rename_i h3
        rw [if_neg h3]
        have hd := data_len hF (stepV Z q.cur x).1
        have hp : (partsV (dataV Z (stepV Z q.cur x).1)).length ≤ (dataV Z (stepV Z q.cur x).1).length := partsF_len _ _
        exact ⟨by unfold mW; simp only [List.length_append]; omega, by simp only; omega, by simp only; omega⟩
theorem trV_nil {Z : Tre} {last : Bool} {k : Nat} {q : Wst} (hk : mW q < k) (h : trV Z last k q = []) : q.left = [] ∧ goV Z last k q = (q.cur, 0) := by
  cases k with
  | zero => omega
  | succ k =>
    rw [trV] at h
    cases hq : q.left with
    | nil => exact ⟨rfl, by rw [goV, hq]⟩
    | cons x l => rw [hq] at h; cases h
theorem trV_cons {Z : Tre} {last : Bool} {k : Nat} {q : Wst} {y : Bytes} {rest : List Bytes} (h : trV Z last k q = y :: rest) : ∃ j l, k = j + 1 ∧ q.left = y :: l ∧ ((¬ (nxtW Z last q y l).1 = 0 ∧ goV Z last k q = (0, (nxtW Z last q y l).1)) ∨ ((nxtW Z last q y l).1 = 0 ∧ rest = trV Z last j (nxtW Z last q y l).2 ∧ goV Z last k q = goV Z last j (nxtW Z last q y l).2)) := by
  cases k with
  | zero => cases h
  | succ k =>
    rw [trV] at h
    cases hq : q.left with
    | nil => rw [hq] at h; cases h
    | cons x l =>
      rw [hq] at h
      simp only [List.cons.injEq] at h
      obtain ⟨rfl, h⟩ := h
      refine ⟨k, l, rfl, rfl, ?_⟩
      by_cases e : (nxtW Z last q x l).1 = 0
      · exact .inr ⟨e, by rw [← h, if_neg (fun h => h e)], by rw [goV, hq]; simp only; rw [if_neg (fun h => h e)]⟩
      · exact .inl ⟨e, by rw [goV, hq]; simp only; rw [if_pos e]⟩
def walkV (Z : Tre) (cwd : Int) (p : Bytes) (follow : Bool) : Int × Int :=
  if ¬ badP Z cwd p = 0 then (0, badP Z cwd p)
  else if (goV Z (follow || Lib.hasSuffix p [47]) 600000 ⟨curV p cwd, partsV p, 0⟩).2 = 0 ∧ Lib.hasSuffix p [47] = true ∧ dirV Z (goV Z (follow || Lib.hasSuffix p [47]) 600000 ⟨curV p cwd, partsV p, 0⟩).1 = false then (0, 20)
  else goV Z (follow || Lib.hasSuffix p [47]) 600000 ⟨curV p cwd, partsV p, 0⟩
open Go Go.RowKit
abbrev Gp := Bytes × Bytes
def maskV (q : Bytes) (a b : Nat) : Bytes := (List.range (b - a)).map fun k => if a + k < q.length then byte q (a + k) else 48
def gCut (p q : Bytes) (a b : Nat) : List Gp := if a < b then [((p.take b).drop a, maskV q a b)] else []
def gP (p q : Bytes) : Nat → Nat → Nat → List Gp
  | 0, _, _ => []
  | n + 1, a, i => if i < p.length ∧ (byte p i).toNat ≠ 47 then gP p q n a (i + 1) else gCut p q a i ++ gP p q n (i + 1) (i + 1)
def gPartsV (p q : Bytes) : List Gp := gP p q (p.length + 1) 0 0
theorem mask_pad (p q : Bytes) {a b : Nat} (h : b ≤ p.length) : ((q ++ List.replicate (p.length - q.length) 48).take b).drop a = maskV q a b := by
  apply List.ext_getElem?
  intro i
  unfold maskV
  rw [List.getElem?_drop, List.getElem?_map]
  rcases Nat.lt_or_ge (a + i) b with h1 | h1
  · rw [List.getElem?_take_of_lt h1, List.getElem?_range (show i < b - a by omega)]
    simp only [Option.map_some]
    rcases Nat.lt_or_ge (a + i) q.length with h2 | h2
    · rw [List.getElem?_append_left h2, if_pos h2, byte]; simp [h2]
    · rw [List.getElem?_append_right h2, if_neg (by omega), List.getElem?_replicate, if_pos (by omega)]
  · rw [List.getElem?_take_eq_none h1, List.getElem?_eq_none (by simp; omega)]; rfl
theorem gP_run {p q : Bytes} {a : Nat} : ∀ (d n i : Nat), (∀ j, i ≤ j → j < i + d → (byte p j).toNat ≠ 47) → i + d ≤ p.length → gP p q (n + d) a i = gP p q n a (i + d)
  | 0, n, i, _, _ => rfl
  | d + 1, n, i, h, hl => by
    rw [show n + (d + 1) = (n + d) + 1 by omega, gP, if_pos ⟨by omega, h i (Nat.le_refl _) (by omega)⟩, gP_run d n (i + 1) (fun j h1 h2 => h j (by omega) (by omega)) (by omega), show i + 1 + d = i + (d + 1) by omega]
theorem gP_cut {p q : Bytes} {a b : Nat} (hab : a ≤ b) (hb : b ≤ p.length) (h : ∀ j, a ≤ j → j < b → (byte p j).toNat ≠ 47) (h2 : b < p.length → (byte p b).toNat = 47) : gP p q (p.length + 1 - a) a a = gCut p q a b ++ gP p q (p.length + 1 - (b + 1)) (b + 1) (b + 1) := by
  rw [show p.length + 1 - a = (p.length - b + 1) + (b - a) by omega, gP_run (b - a) _ a (fun j h3 h4 => h j h3 (by omega)) (by omega), show a + (b - a) = b by omega, gP, if_neg (fun e => e.2 (h2 e.1)), show p.length + 1 - (b + 1) = p.length - b by omega]
theorem gP_end (p q : Bytes) {a i : Nat} (h : p.length + 1 ≤ a) : gP p q (p.length + 1 - a) a i = [] := by rw [show p.length + 1 - a = 0 by omega]; rfl
theorem gP_mem {p q : Bytes} : ∀ (n a i : Nat) (x : Gp), a ≤ i → n + i ≤ p.length + 1 → x ∈ gP p q n a i → x.1 ≠ [] ∧ x.1.length ≤ p.length
  | 0, a, i, x, _, _, h => by cases h
  | n + 1, a, i, x, h1, h2, h => by
    rw [gP] at h
    split at h
    · exact gP_mem n a (i + 1) x (by omega) (by omega) h
    · rcases List.mem_append.1 h with h | h
      · unfold gCut at h
        split at h
        · rename_i h3
          obtain rfl := List.mem_singleton.1 h
          refine ⟨fun e => ?_, by simp only [List.length_drop, List.length_take]; omega⟩
          have := congrArg List.length e
          simp only [List.length_drop, List.length_take, List.length_nil] at this
          omega
        · cases h
      · exact gP_mem n (i + 1) (i + 1) x (Nat.le_refl _) (by omega) h
theorem gparts_mem {p q : Bytes} {x : Gp} (h : x ∈ gPartsV p q) : x.1 ≠ [] ∧ x.1.length ≤ p.length := gP_mem _ 0 0 x (Nat.le_refl _) (by omega) h
theorem gP_len {p q : Bytes} : ∀ (n a i : Nat), (gP p q n a i).length ≤ n
  | 0, a, i => Nat.le_refl _
  | n + 1, a, i => by
    rw [gP]
    split
    · have := gP_len (p := p) (q := q) n a (i + 1); omega
    · have := gP_len (p := p) (q := q) n (i + 1) (i + 1)
      have h2 : (gCut p q a i).length ≤ 1 := by unfold gCut; split <;> simp
      rw [List.length_append]; omega
theorem gparts_len (p q : Bytes) : (gPartsV p q).length ≤ p.length + 1 := gP_len _ _ _
def behindV (path name : Bytes) : Bytes := if path = [] ∨ Lib.hasSuffix path [47] = true then path ++ name else path ++ [47] ++ name
theorem behind_len (a b : Bytes) : (behindV a b).length ≤ a.length + 1 + b.length := by unfold behindV; split <;> simp <;> omega
def dotV (path : Bytes) : Bytes := if path = [] then [46] else path
def dirG (Z : Tre) (cwd : Int) (path : Bytes) : Bool := decide ((walkV Z cwd (dotV path) true).2 = 0) && decide (kindV Z (walkV Z cwd (dotV path) true).1 = 2)
def hidB (n p : Bytes) : Bool := decide ((byte n 0).toNat = 46) && !decide ((byte p 0).toNat = 46)
def showB (x : Gp) (e : Ke) : Bool := !hidB e.1 x.1 && matchV x.1 x.2 e.1
def belowG (Z : Tre) (cwd : Int) (path : Bytes) (x : Gp) : List Bytes :=
  if magicV x.1 x.2 = false then (if (walkV Z cwd (behindV path x.1) false).2 = 0 then [behindV path x.1] else [])
  else if dirG Z cwd path = false ∨ mayV Z (walkV Z cwd (dotV path) true).1 4 = false then []
  else ((kidsV Z (walkV Z cwd (dotV path) true).1).filter (showB x)).map fun e => behindV path e.1
def keepG (Z : Tre) (cwd : Int) (last : Bool) (fin s : Bytes) : Option Bytes := if dirG Z cwd s = false ∧ (last = false ∨ fin ≠ []) then none else some (if last = true then s ++ fin else s)
def onG (Z : Tre) (cwd : Int) (x : Gp) (last : Bool) (fin path : Bytes) : List Bytes := (belowG Z cwd path x).filterMap (keepG Z cwd last fin)
def levelG (Z : Tre) (cwd : Int) (x : Gp) (last : Bool) (fin : Bytes) (paths : List Bytes) : List Bytes := paths.flatMap (onG Z cwd x last fin)
def expG (Z : Tre) (cwd : Int) (fin : Bytes) : List Gp → List Bytes → Option (List Bytes)
  | [], paths => some paths
  | x :: l, paths => if 1024 < (levelG Z cwd x l.isEmpty fin paths).length then none else expG Z cwd fin l (levelG Z cwd x l.isEmpty fin paths)
def leB (a b : Bytes) : Bool := decide (a ≤ b)
def sortB (l : List Bytes) : List Bytes := l.mergeSort leB
def expandV (Z : Tre) (cwd : Int) (p q : Bytes) : List Bytes :=
  if magicV p q = false then []
  else match expG Z cwd (if Lib.hasSuffix p [47] = true then [47] else []) (gPartsV p q) [if (byte p 0).toNat = 47 then [47] else []] with
    | none => []
    | some l => sortB l
def NamesT (Z : Tre) : Prop := ∀ x, x ∈ Z → ∀ e, e ∈ x.kids → e.1 ≠ [] ∧ e.1.length ≤ 64
theorem kidsV_mem {Z : Tre} {k : Int} {e : Ke} (h : e ∈ kidsV Z k) : ∃ x, x ∈ Z ∧ e ∈ x.kids ∧ inoV Z k = some x := by
  unfold kidsV at h
  cases hi : inoV Z k with
  | none => rw [hi] at h; cases h
  | some x =>
    rw [hi] at h
    refine ⟨x, ?_, h, rfl⟩
    unfold inoV at hi
    split at hi
    · exact List.mem_of_getElem? hi
    · cases hi
theorem below_len {Z : Tre} (hN : NamesT Z) {cwd : Int} {path : Bytes} {x : Gp} {m : Nat} (hp : path.length ≤ m) (hx : x.1.length ≤ 300) : ∀ s, s ∈ belowG Z cwd path x → s.length ≤ m + 301 := by
  intro s hs
  unfold belowG at hs
  split at hs
  · split at hs
    · obtain rfl := List.mem_singleton.1 hs
      have := behind_len path x.1; omega
    · cases hs
  · split at hs
    · cases hs
    · obtain ⟨e, he, rfl⟩ := List.mem_map.1 hs
      obtain ⟨y, hy, hey, _⟩ := kidsV_mem (List.mem_filter.1 he).1
      have := (hN y hy e hey).2
      have := behind_len path e.1; omega
theorem keep_len {Z : Tre} {cwd : Int} {last : Bool} {fin s t : Bytes} (hf : fin.length ≤ 1) (h : keepG Z cwd last fin s = some t) : t.length ≤ s.length + 1 := by
  unfold keepG at h
  split at h
  · cases h
  · cases h; split <;> simp <;> omega
theorem on_len {Z : Tre} (hN : NamesT Z) {cwd : Int} {path fin : Bytes} {x : Gp} {last : Bool} {m : Nat} (hp : path.length ≤ m) (hx : x.1.length ≤ 300) (hf : fin.length ≤ 1) : ∀ s, s ∈ onG Z cwd x last fin path → s.length ≤ m + 302 := by
  intro s hs
  unfold onG at hs
  obtain ⟨t, ht, h⟩ := List.mem_filterMap.1 hs
  have := below_len hN hp hx t ht
  have := keep_len hf h
  omega
theorem level_len {Z : Tre} (hN : NamesT Z) {cwd : Int} {fin : Bytes} {paths : List Bytes} {x : Gp} {last : Bool} {m : Nat} (hp : ∀ s, s ∈ paths → s.length ≤ m) (hx : x.1.length ≤ 300) (hf : fin.length ≤ 1) : ∀ s, s ∈ levelG Z cwd x last fin paths → s.length ≤ m + 302 := by
  intro s hs
  obtain ⟨t, ht, h⟩ := List.mem_flatMap.1 hs
  exact on_len hN (hp t ht) hx hf s h
theorem leB_trans (a b c : Bytes) (h1 : leB a b = true) (h2 : leB b c = true) : leB a c = true := by
  unfold leB at *; rw [decide_eq_true_eq] at *; exact List.le_trans h1 h2
theorem leB_total (a b : Bytes) : (leB a b || leB b a) = true := by
  unfold leB; rw [Bool.or_eq_true, decide_eq_true_eq, decide_eq_true_eq]; exact List.le_total a b
theorem leB_anti {a b : Bytes} (h1 : leB a b = true) (h2 : leB b a = true) : a = b := by
  unfold leB at *; rw [decide_eq_true_eq] at *; exact List.le_antisymm h1 h2
theorem perm_rise {l m : List Bytes} (h : l.Perm m) (h1 : l.Pairwise fun a b => leB a b = true) (h2 : m.Pairwise fun a b => leB a b = true) : l = m :=
  h.eq_of_pairwise (fun a b _ _ h3 h4 => leB_anti h3 h4) h1 h2
theorem sortB_eq {l m : List Bytes} (h : m.Perm l) (h2 : m.Pairwise fun a b => leB a b = true) : sortB l = m := by
  refine perm_rise ((List.mergeSort_perm l leB).trans h.symm) ?_ h2
  exact List.pairwise_mergeSort (fun a b c h1 h2 => leB_trans a b c h1 h2) (fun a b => leB_total a b) l
end Go.Proofs.YtncnalboiljgiaaGreat.K
