import Derived.Test.YtncnalboiljgiaaGreatKitSq
import Derived.Test.YtncnalboiljgiaaGreatGk
set_option linter.unusedVariables false
set_option linter.unusedSimpArgs false
set_option autoImplicit false
set_option maxRecDepth 20000
namespace Go.Proofs.YtncnalboiljgiaaGreat.K
open Go Go.Proofs Go.RowKit
theorem level_on {Z : Tre} {cwd : Int} {x : Gp} {last : Bool} {fin : Bytes} {paths : List Bytes} {j : Nat} {path : Bytes} (h : paths[j]? = some path) : levelG Z cwd x last fin (paths.take (j + 1)) = levelG Z cwd x last fin (paths.take j) ++ onG Z cwd x last fin path := by
  unfold levelG; rw [List.take_add_one, h]; simp
theorem level_big {Z : Tre} {cwd : Int} {x : Gp} {last : Bool} {fin : Bytes} {paths : List Bytes} {j : Nat} {path : Bytes} {pre rest : List Bytes} (h : paths[j]? = some path) (hb : belowG Z cwd path x = pre ++ rest) : (levelG Z cwd x last fin (paths.take j) ++ pre.filterMap (keepG Z cwd last fin)).length ≤ (levelG Z cwd x last fin paths).length := by
  have h1 : (levelG Z cwd x last fin paths) = levelG Z cwd x last fin (paths.take (j + 1)) ++ levelG Z cwd x last fin (paths.drop (j + 1)) := by
    unfold levelG; rw [← List.flatMap_append, List.take_append_drop]
  rw [h1, level_on h]
  unfold onG
  rw [hb, List.filterMap_append]
  simp only [List.length_append]; omega
theorem exp_big {Z : Tre} {cwd : Int} {fin : Bytes} {x : Gp} {l : List Gp} {paths : List Bytes} (h : 1024 < (levelG Z cwd x l.isEmpty fin paths).length) : expG Z cwd fin (x :: l) paths = none := by rw [expG, if_pos h]
theorem exp_on {Z : Tre} {cwd : Int} {fin : Bytes} {x : Gp} {l : List Gp} {paths : List Bytes} (h : ¬ 1024 < (levelG Z cwd x l.isEmpty fin paths).length) : expG Z cwd fin (x :: l) paths = expG Z cwd fin l (levelG Z cwd x l.isEmpty fin paths) := by rw [expG, if_neg h]
theorem last_eq {l : List Gp} {i : Nat} (h : i < l.length) : (l.drop (i + 1)).isEmpty = decide ((i : Int) = (l.length : Int) - 1) := by
  rw [Bool.eq_iff_iff, List.isEmpty_iff, List.drop_eq_nil_iff, decide_eq_true_eq]; omega
theorem fm_snoc {f : Bytes → Option Bytes} {l : List Bytes} {x : Bytes} : (l ++ [x]).filterMap f = l.filterMap f ++ (match f x with | some y => [y] | none => []) := by
  rw [List.filterMap_append]; congr 1; cases h : f x <;> simp [List.filterMap, h]
theorem keep_no {Z : Tre} {cwd : Int} {last : Bool} {fin s : Bytes} (h : dirG Z cwd s = false) (h2 : last = false ∨ fin ≠ []) : keepG Z cwd last fin s = none := by unfold keepG; rw [if_pos ⟨h, h2⟩]
theorem keep_yes {Z : Tre} {cwd : Int} {last : Bool} {fin s : Bytes} (h : dirG Z cwd s = true ∨ (last = true ∧ fin = [])) : keepG Z cwd last fin s = some (if last = true then s ++ fin else s) := by
  unfold keepG; rw [if_neg]
  rintro ⟨h1, h2⟩
  rcases h with h | ⟨h3, h4⟩
  · rw [h] at h1; cases h1
  · rcases h2 with h2 | h2
    · rw [h3] at h2; cases h2
    · exact h2 h4
theorem own_oneB {w : World} {D : Nat → Prop} {b : Nat} {s : Bytes} (hb : Blk w b [S s] 9) (hD : D b) : Own sE 9 w D (some ⟨b, 0, none⟩) 1 [s] := Own.of_blk (xs := [s]) hb hD (by simp) (Chunks.one rfl)
theorem gcoll_spec {bs : Nat} {A : Option Addr} {cap : Nat} {l : List Bytes} {w : World} (hb : Blk w bs [.slice A l.length cap] 29) (hl : Sl sE w (fun k => k < w.heap.size) A l) (hn : l.length ≤ 1000000000) : CallR Tryz.prog 43 #[.func (.func 45) #[] #[.pointer (some ⟨bs, 0, none⟩)]] w fun v w' => (∃ A cap, v = .slice A l.length cap ∧ Own sE 9 w' (fun k => w.heap.size ≤ k) A cap l) ∧ Chg [] w w' := by
 refine callR_of_wp (args := [_]) Tryz.func43 rfl (Nat.le_of_ble_eq_true rfl) ?_
 have HC : Chg [] w w := .refl _
 refine sr rfl <| aL rfl <| en <| sr rfl <| mv (v := .func _ _ _) rfl <| Wp rfl <| st_call (ags := [_, _]) rfl rfl T.ent66 rfl (gapp_spec hb hl hn) ?_
 rintro _ w1 ⟨⟨A2, cap2, rfl, ho⟩, c2⟩
 replace HC := HC.then c2
 refine aL rfl <| en <| x_ret <| ret_tmp (v := .slice _ _ _) rfl rfl ?_
 exact ⟨⟨A2, cap2, rfl, ho⟩, HC⟩
theorem gsorted_spec {bs : Nat} {A : Option Addr} {cap : Nat} {l : List Bytes} {w : World} (hb : Blk w bs [.slice A l.length cap] 29) (hl : Sl sE w (fun k => k < w.heap.size) A l) (hn : l.length ≤ 1000000000) : CallR Tryz.prog 22 #[.func (.func 45) #[] #[.pointer (some ⟨bs, 0, none⟩)]] w fun v w' => (∃ A cap, v = .slice A (sortB l).length cap ∧ Own sE 9 w' (fun k => w.heap.size ≤ k) A cap (sortB l)) ∧ Chg [] w w' := by
 refine callR_of_wp (args := [_]) Tryz.func22 rfl (Nat.le_of_ble_eq_true rfl) ?_
 have HC : Chg [] w w := .refl _
 refine sr rfl <| aL rfl <| en <| sr rfl <| mv (v := .func _ _ _) rfl <| Wp rfl <| st_call (ags := [_]) rfl rfl T.ent43 rfl (gcoll_spec hb hl hn) ?_
 rintro _ w1 ⟨⟨A2, cap2, rfl, ho⟩, c2⟩
 replace HC := HC.then c2
 refine aL rfl <| en <| sr rfl <| mL rfl ?_
 have hoi := ho.inD
 refine Wp rfl <| st_call (ags := [_]) rfl rfl T.ent44 rfl (Sort_spec ho (by omega)) ?_
 rintro _ w3 ⟨rfl, hos, c4⟩
 replace HC := HC.trans c4 (fun k hk => .inr (hoi k hk))
 refine en <| sr rfl <| mL rfl <| aL rfl <| en <| x_ret <| ret_tmp (v := .slice _ _ _) rfl rfl ?_
 have hsl : (sortB l).length = l.length := by unfold sortB; simp
 exact ⟨⟨A2, cap2, by rw [hsl], hos⟩, HC⟩
set_option maxHeartbeats 3200000 in
theorem gExpand_spec {Z : Tre} {An : Option Addr} {capn : Nat} {mx my : Int} {cwd : Int} {D : Nat → Prop} {w : World} (hT : Sl inE w D An Z) (hTl : Z.length ≤ 1000000000) (hF : FitT Z) (hN : NamesT Z) (p q : Bytes) (hmx : MaxT w) (hp : p.length ≤ 300) (hq : q.length ≤ 1000) : CallR Tryz.prog 10 #[.agg ⟨[.slice An Z.length capn, .int .i64 mx, .int .i64 my]⟩, .int .i64 cwd, S p, S q] w fun v w' => (∃ A cap, v = .slice A (expandV Z cwd p q).length cap ∧ (expandV Z cwd p q).length ≤ cap ∧ Sl sE w' (fun k => w.heap.size ≤ k) A (expandV Z cwd p q)) ∧ Chg [] w w' := by
 replace hT := hT.mono (D' := fun k => k < w.heap.size) (fun k hk _ => hk)
 refine callR_of_wpM (args := [_, _, _, _]) Tryz.func10 rfl (Nat.le_of_ble_eq_true rfl) ?_
 have HC : Chg [] w w := .refl _
 have hM : Marks w.heap.size [] w := trivial
 have hm1 := hmx.lt
 refine sr rfl <| Wp rfl <| st_box (v := .agg ⟨[.slice _ _ _, .int _ _, .int _ _]⟩) (vs := [_, _, _]) rfl rfl ?_
 intro b4 w1 e2 c3 hb4
 have ge_b4 := gB e2 HC.size
 have nm_b4 : b4 ∉ mb [] := fun hx => by have := (hM.lt _ hx).2; omega
 replace HC := HC.then c3
 replace hT := hT.tr0 c3
 replace hmx := hmx.tr0 c3
 replace hM := hM.tr c3 (by simp)
 clear e2
 refine Wp rfl <| st_alloc T.zero29 ?_
 intro b8 w5 e6 c7 hb8
 have ge_b8 := gB e6 HC.size
 have ne_b4_b8 := nE e6 hb4.ne_size
 have nm_b8 : b8 ∉ mb [] := fun hx => by have := (hM.lt _ hx).2; omega
 replace HC := HC.then c7
 replace hT := hT.tr0 c7
 replace hmx := hmx.tr0 c7
 replace hM := hM.tr c7 (by simp)
 replace hb4 := hb4.tr0 c7
 clear e6
 refine en <| x_seq <| sr rfl <| mS rfl <| mS rfl <| Wp rfl <| st_call (ags := [_, _]) rfl rfl T.ent17 rfl (gMagic_spec p q _ (by omega)) ?_
 rintro _ w9 ⟨rfl, c10⟩
 replace HC := HC.then c10
 replace hT := hT.tr0 c10
 replace hmx := hmx.tr0 c10
 replace hM := hM.tr c10 (by simp)
 replace hb4 := hb4.tr0 c10
 replace hb8 := hb8.tr0 c10
 refine Wp rfl <| st_not rfl <| en <| x_cond rfl (fun h0 => ?_) (fun h0 => ?_)
 ·try simp only [nm, ne_eq] at h0
  have hmg : magicV p q = false := by first | assumption | simpa using h0
  refine sr rfl <| Wp rfl <| st_st (v := .slice _ _ _) T.size29 rfl rfl rfl hb8 ?_
  intro w11 c12 hb13; simp only [setVs, setV] at hb13
  clear hb8
  replace HC := HC.then1 c12 ge_b8
  replace hM := hM.tr c12 (by intro k hk hx; have hlo := (hM.lt k hk).1; simp only [List.mem_singleton] at hx; subst hx; first | exact nm_b8 hk | omega | (cases hk; done))
  refine en <| x_ret <| then_r <| retM_marks hM ?_
  intro w99 c99
  have hlm := hM.lt
  replace HC := HC.trans c99 (fun k hk => .inr (by have := (hlm k hk).1; omega))
  replace hb13 := hb13.tr c99 (fun hx => by first | exact nm_b8 hx | (simp only [mb_cons, mb, List.mem_cons, List.mem_nil_iff, or_false] at hx; omega))
  refine ret_cell1 rfl rfl T.one29 (hb13.cell rfl) ?_
  have hev : expandV Z cwd p q = [] := by unfold expandV; rw [if_pos hmg]
  rw [hev]
  exact ⟨⟨none, 0, rfl, Nat.le_refl _, .nil⟩, HC⟩
 ·try simp only [nm, ne_eq] at h0
  have hmg : magicV p q = true := by first | assumption | simpa using h0
  have hpp : 0 < p.length := by rcases Nat.eq_zero_or_pos p.length with h9 | h9; (unfold magicV at hmg; rw [h9] at hmg; cases hmg); exact h9
  refine x_skip <| then_n <| sr rfl <| Wp rfl <| st_loadA (vs := [_, _, _]) T.agg24 rfl (hb4.cells (n := 3) (vs := [_, _, _]) rfl) rfl <| mI rfl <| Wp rfl <| st_bld (ps := [(0, .tmp 26), (1, .tmp 27)]) (vs := [.slice _ _ _, .int _ _, .int _ _, .int _ _]) T.bld47 rfl <| Wp rfl <| st_alloc T.zero47 ?_
  intro b9 w14 e15 c16 hb17
  have ge_b9 := gB e15 HC.size
  have ne_b4_b9 := nE e15 hb4.ne_size
  have ne_b8_b9 := nE e15 hb8.ne_size
  have nm_b9 : b9 ∉ mb [] := fun hx => by have := (hM.lt _ hx).2; omega
  replace HC := HC.then c16
  replace hT := hT.tr0 c16
  replace hmx := hmx.tr0 c16
  replace hM := hM.tr c16 (by simp)
  replace hb4 := hb4.tr0 c16
  replace hb8 := hb8.tr0 c16
  clear e15
  refine Wp rfl <| st_st (v := .agg ⟨[_, _, _, _]⟩) T.size47 rfl rfl rfl hb17 ?_
  intro w18 c19 hb20; simp only [setVs, setV] at hb20
  clear hb17
  replace HC := HC.then1 c19 ge_b9
  replace hT := hT.tr c19 (by intro k hx hD; simp only [List.mem_cons, List.mem_nil_iff, or_false] at hx; have hD2 : k < w.heap.size := hD; omega)
  replace hmx := hmx.tr c19 q1
  replace hM := hM.tr c19 (by intro k hk hx; have hlo := (hM.lt k hk).1; simp only [List.mem_singleton] at hx; subst hx; first | exact nm_b9 hk | omega | (cases hk; done))
  replace hb4 := hb4.tr1 c19 ne_b4_b9
  replace hb8 := hb8.tr1 c19 ne_b8_b9
  refine en <| sr rfl <| Wp rfl <| st_lit (ps := [(0, .const (S []))]) (vs := [S _]) T.lit29 (by decide) rfl q6 rfl ?_
  intro b21 w22 e23 c24 hb25
  have ge_b21 := gB e23 HC.size
  have ne_b4_b21 := nE e23 hb4.ne_size
  have ne_b8_b21 := nE e23 hb8.ne_size
  have ne_b9_b21 := nE e23 hb20.ne_size
  have nm_b21 : b21 ∉ mb [] := fun hx => by have := (hM.lt _ hx).2; omega
  replace HC := HC.then c24
  replace hT := hT.tr0 c24
  replace hmx := hmx.tr0 c24
  replace hM := hM.tr c24 (by simp)
  replace hb4 := hb4.tr0 c24
  replace hb8 := hb8.tr0 c24
  replace hb20 := hb20.tr0 c24
  clear e23
  refine aL rfl <| en <| x_seq <| sr rfl <| mS rfl <| Wp rfl <| st_sidx T.u9 rfl rfl (by decide) (by omega) <| Wp rfl <| st_eql rfl rfl <| en <| x_join (ι := Bytes) [33, 34] (fun st => []) (fun st W => (st = (if (byte p 0).toNat = 47 then [47] else [])) ∧ (Chg [] w W) ∧ (Sl inE W (fun k => k < w.heap.size) An Z) ∧ (MaxT W) ∧ (Marks w.heap.size [] W) ∧ (Blk W b4 [.slice An Z.length capn, .int .i64 mx, .int .i64 my] 24) ∧ (Blk W b8 [.slice none 0 0] 29) ∧ (Blk W b9 [.slice An Z.length capn, .int .i64 mx, .int .i64 my, .int .i64 cwd] 47) ∧ (Blk W b21 [S st] 9)) ?_ ?_
  ·refine x_cond rfl (fun h1 => ?_) (fun h1 => ?_)
   ·try simp only [nm, ne_eq] at h1
    refine x_region rfl <| mL rfl <| Wp rfl <| st_indexAddr T.u29 T.size9 rfl rfl (by decide) (by decide) <| Wp rfl <| st_st (v := S _) T.size9 rfl rfl rfl hb25 ?_
    intro w26 c27 hb28; simp only [setVs, setV] at hb28
    clear hb25
    replace HC := HC.then1 c27 ge_b21
    replace hT := hT.tr c27 (by intro k hx hD; simp only [List.mem_cons, List.mem_nil_iff, or_false] at hx; have hD2 : k < w.heap.size := hD; omega)
    replace hmx := hmx.tr c27 q1
    replace hM := hM.tr c27 (by intro k hk hx; have hlo := (hM.lt k hk).1; simp only [List.mem_singleton] at hx; subst hx; first | exact nm_b21 hk | omega | (cases hk; done))
    replace hb4 := hb4.tr1 c27 ne_b4_b21
    replace hb8 := hb8.tr1 c27 ne_b8_b21
    replace hb20 := hb20.tr1 c27 ne_b9_b21
    refine en <| ⟨[47], ?_, rfl, trivial, ?_⟩
    ·refine ⟨?_, HC, hT, hmx, hM, hb4, hb8, hb20, hb28⟩
     exact (by rw [if_pos (show (byte p 0).toNat = 47 by (try simp only [Int.toNat_zero] at *); omega)])
    repeat (first | exact agree_refl | exact agree_upds agree_over rfl | refine agree_upd ?_ rfl | refine agree_upds ?_ rfl | refine agree_over_sub ?_ rfl)
   ·try simp only [nm, ne_eq] at h1
    refine x_skip <| then_n <| ⟨[], ?_, rfl, trivial, ?_⟩
    ·refine ⟨?_, HC, hT, hmx, hM, hb4, hb8, hb20, hb25⟩
     exact (by rw [if_neg (show ¬ (byte p 0).toNat = 47 by (try simp only [Int.toNat_zero] at *); omega)])
    repeat (first | exact agree_refl | exact agree_upds agree_over rfl | refine agree_upd ?_ rfl | refine agree_upds ?_ rfl | refine agree_over_sub ?_ rfl)
  ·intro st G30 w29 ⟨hst, HC, hT, hmx, hM, hb4, hb8, hb20, hb25⟩
   refine then_n <| sr rfl <| mS rfl <| mS rfl <| Wp rfl <| st_call (ags := [_, _]) rfl rfl T.ent18 rfl (gparts_spec p q _ (by omega) (by omega)) ?_
   rintro _ w31 ⟨⟨Ap, cp, rfl, hcp, hop⟩, c32⟩
   replace HC := HC.then c32
   replace hT := hT.tr0 c32
   replace hmx := hmx.tr0 c32
   replace hM := hM.tr c32 (by simp)
   replace hb4 := hb4.tr0 c32
   replace hb8 := hb8.tr0 c32
   replace hb20 := hb20.tr0 c32
   replace hb25 := hb25.tr0 c32
   replace hop := hop.flat (D' := fun _ => True) flat_flat (fun _ _ _ => trivial)
   refine aL rfl <| en <| sr rfl <| Wp rfl <| st_alloc T.zero9 ?_
   intro b12 w33 e34 c35 hb36
   have ge_b12 := gB e34 HC.size
   have ne_b4_b12 := nE e34 hb4.ne_size
   have ne_b8_b12 := nE e34 hb8.ne_size
   have ne_b9_b12 := nE e34 hb20.ne_size
   have ne_b21_b12 := nE e34 hb25.ne_size
   have nm_b12 : b12 ∉ mb [] := fun hx => by have := (hM.lt _ hx).2; omega
   have na_pb12 : b12 ∉ ob Ap := hop.fresh (by rw [e34]; exact Nat.le_refl _)
   replace HC := HC.then c35
   replace hT := hT.tr0 c35
   replace hmx := hmx.tr0 c35
   replace hM := hM.tr c35 (by simp)
   replace hb4 := hb4.tr0 c35
   replace hb8 := hb8.tr0 c35
   replace hb20 := hb20.tr0 c35
   replace hb25 := hb25.tr0 c35
   replace hop := hop.tr0 c35
   clear e34
   refine Wp rfl <| st_st (v := S _) T.size9 rfl rfl rfl hb36 ?_
   intro w37 c38 hb39; simp only [setVs, setV] at hb39
   clear hb36
   replace HC := HC.then1 c38 ge_b12
   replace hT := hT.tr c38 (by intro k hx hD; simp only [List.mem_cons, List.mem_nil_iff, or_false] at hx; have hD2 : k < w.heap.size := hD; omega)
   replace hmx := hmx.tr c38 q1
   replace hM := hM.tr c38 (by intro k hk hx; have hlo := (hM.lt k hk).1; simp only [List.mem_singleton] at hx; subst hx; first | exact nm_b12 hk | omega | (cases hk; done))
   replace hb4 := hb4.tr1 c38 ne_b4_b12
   replace hb8 := hb8.tr1 c38 ne_b8_b12
   replace hb20 := hb20.tr1 c38 ne_b9_b12
   replace hb25 := hb25.tr1 c38 ne_b21_b12
   replace hop := hop.trF flat_flat c38 (by intro k hk hx; simp only [List.mem_cons, List.mem_nil_iff, or_false] at hx; exact na_pb12 (hx ▸ hk))
   refine en <| x_seq <| sr rfl <| mS rfl <| Wp rfl <| st_call (ags := [_, _]) rfl rfl T.ent19 rfl (HasSuffix_spec p [47] _ (by omega)) ?_
   rintro _ w40 ⟨rfl, c41⟩
   replace HC := HC.then c41
   replace hT := hT.tr0 c41
   replace hmx := hmx.tr0 c41
   replace hM := hM.tr c41 (by simp)
   replace hb4 := hb4.tr0 c41
   replace hb8 := hb8.tr0 c41
   replace hb20 := hb20.tr0 c41
   replace hb25 := hb25.tr0 c41
   replace hop := hop.tr0 c41
   replace hb39 := hb39.tr0 c41
   refine en <| x_join (ι := Bytes) [] (fun fin => []) (fun fin W => (fin = (if Lib.hasSuffix p [47] = true then [47] else [])) ∧ (Chg [] w W) ∧ (Sl inE W (fun k => k < w.heap.size) An Z) ∧ (MaxT W) ∧ (Marks w.heap.size [] W) ∧ (Blk W b4 [.slice An Z.length capn, .int .i64 mx, .int .i64 my] 24) ∧ (Blk W b8 [.slice none 0 0] 29) ∧ (Blk W b9 [.slice An Z.length capn, .int .i64 mx, .int .i64 my, .int .i64 cwd] 47) ∧ (Blk W b21 [S st] 9) ∧ (Own gpE 51 W (fun k => True) Ap cp (gPartsV p q)) ∧ (Blk W b12 [S fin] 9)) ?_ ?_
   ·refine x_cond rfl (fun h2 => ?_) (fun h2 => ?_)
    ·try simp only [nm, ne_eq] at h2
     refine x_region rfl <| Wp rfl <| st_st (v := S _) T.size9 rfl rfl rfl hb39 ?_
     intro w42 c43 hb44; simp only [setVs, setV] at hb44
     clear hb39
     replace HC := HC.then1 c43 ge_b12
     replace hT := hT.tr c43 (by intro k hx hD; simp only [List.mem_cons, List.mem_nil_iff, or_false] at hx; have hD2 : k < w.heap.size := hD; omega)
     replace hmx := hmx.tr c43 q1
     replace hM := hM.tr c43 (by intro k hk hx; have hlo := (hM.lt k hk).1; simp only [List.mem_singleton] at hx; subst hx; first | exact nm_b12 hk | omega | (cases hk; done))
     replace hb4 := hb4.tr1 c43 ne_b4_b12
     replace hb8 := hb8.tr1 c43 ne_b8_b12
     replace hb20 := hb20.tr1 c43 ne_b9_b12
     replace hb25 := hb25.tr1 c43 ne_b21_b12
     replace hop := hop.trF flat_flat c43 (by intro k hk hx; simp only [List.mem_cons, List.mem_nil_iff, or_false] at hx; exact na_pb12 (hx ▸ hk))
     refine en <| ⟨[47], ?_, rfl, trivial, ?_⟩
     ·refine ⟨?_, HC, hT, hmx, hM, hb4, hb8, hb20, hb25, hop, hb44⟩
      exact (by rw [if_pos (by first | assumption | simpa using h2)])
     repeat (first | exact agree_refl | exact agree_upds agree_over rfl | refine agree_upd ?_ rfl | refine agree_upds ?_ rfl | refine agree_over_sub ?_ rfl)
    ·try simp only [nm, ne_eq] at h2
     refine x_skip <| then_n <| ⟨[], ?_, rfl, trivial, ?_⟩
     ·refine ⟨?_, HC, hT, hmx, hM, hb4, hb8, hb20, hb25, hop, hb39⟩
      exact (by rw [if_neg (by first | (rw [h2]; simp; done) | simpa using h2)])
     repeat (first | exact agree_refl | exact agree_upds agree_over rfl | refine agree_upd ?_ rfl | refine agree_upds ?_ rfl | refine agree_over_sub ?_ rfl)
   ·intro fin G46 w45 ⟨hfin, HC, hT, hmx, hM, hb4, hb8, hb20, hb25, hop, hb39⟩
    have hfl : fin.length ≤ 1 := by rw [hfin]; split <;> simp
    have hstl : st.length ≤ 1 := by rw [hst]; split <;> simp
    refine then_n <| x_seq <| sr rfl <| mL rfl <| Wp rfl <| st_len (ct := #[48]) (by rw [show ((#[48] : Array TypeId)[0]?).bind Tryz.prog.underlying = some (.slice 51) from T.u48]; rfl) rfl <| mI rfl <| en <| x_block ?_
    obtain ⟨N1, hN1⟩ : ∃ n, n = w45.heap.size := ⟨_, rfl⟩
    have hszN : N1 ≤ w45.heap.size := by omega
    have hnb4 : b4 < N1 := by rw [hN1]; exact hb4.lt
    have hnb8 : b8 < N1 := by rw [hN1]; exact hb8.lt
    have hnb9 : b9 < N1 := by rw [hN1]; exact hb20.lt
    have hnb12 : b12 < N1 := by rw [hN1]; exact hb39.lt
    have hNw1 : w.heap.size ≤ N1 := by rw [hN1]; exact HC.size
    have hM : Marks N1 [] w45 := trivial
    have hpt := (hop.sl).mono (D' := fun k => k < N1) (fun k hk _ => by omega)
    have hps := ((own_oneB (D := fun _ => True) hb25 trivial).sl).mono (D' := fun k => k < w45.heap.size) (fun k hk _ => hk)
    refine x_loopD (ι := Nat × List Bytes × Option Addr × Nat) [10, 13, 14, 15, 16, 18, 19, 20, 21, 42, 43, 44, 45, 46, 47, 48, 49, 50, 51, 52, 53, 54, 55, 56, 57, 58, 59, 60, 61, 62, 63, 64, 65, 66, 67, 68, 69, 70, 71, 72, 73, 74, 75, 76, 77, 78, 79, 80, 81, 82, 83, 84, 85, 86, 87, 88, 89, 90, 91, 92] (fun ⟨i, paths, A, cap⟩ => [(42, .int .i64 (i : Int)), (10, .slice A paths.length cap)]) (fun ⟨i, paths, A, cap⟩ ds W => (i ≤ (gPartsV p q).length ∧ expG Z cwd fin (gPartsV p q) [st] = expG Z cwd fin ((gPartsV p q).drop i) paths ∧ (∀ s, s ∈ paths → s.length ≤ 1 + 302 * i) ∧ paths.length ≤ 1024) ∧ (Chg [] w W) ∧ (Sl inE W (fun k => k < w.heap.size) An Z) ∧ (MaxT W) ∧ (Marks N1 ds W) ∧ (Blk W b4 [.slice An Z.length capn, .int .i64 mx, .int .i64 my] 24) ∧ (Blk W b8 [.slice none 0 0] 29) ∧ (Blk W b9 [.slice An Z.length capn, .int .i64 mx, .int .i64 my, .int .i64 cwd] 47) ∧ (Blk W b12 [S fin] 9) ∧ (N1 ≤ W.heap.size) ∧ (Sl gpE W (fun k => k < N1) Ap (gPartsV p q)) ∧ (Sl sE W (fun k => k < W.heap.size) A paths)) (fun ⟨i, paths, A, cap⟩ => (gPartsV p q).length - i) (0, [st], (some ⟨b21, 0, none⟩), 1) ?_ ?_ ?_
    · exact ⟨rfl, rfl, trivial⟩
    ·refine ⟨?_, HC, hT, hmx, hM, hb4, hb8, hb20, hb39, hszN, hpt, hps⟩
     exact ⟨Nat.zero_le _, rfl, fun s hs => by rw [List.mem_singleton.1 hs]; omega, by simp⟩
    intro ⟨i, paths, A, cap⟩ G48 ds w47 ⟨⟨hi, hexp, hpls, hpn⟩, HC, hT, hmx, hM, hb4, hb8, hb20, hb39, hszN, hpt, hps⟩
    change wp _ _ _ _ _ (upds (over _ _ G48) [(42, .int .i64 (i : Int)), (10, .slice A paths.length cap)]) _ _
    obtain ⟨Nw, hNw⟩ : ∃ n, n = w47.heap.size := ⟨_, rfl⟩
    rw [← hNw] at hps
    have hszW : Nw ≤ w47.heap.size := by omega
    have hNww : w.heap.size ≤ Nw := by rw [hNw]; exact HC.size
    have hN1w : N1 ≤ Nw := by rw [hNw]; exact hszN
    have nm_b4 : b4 ∉ mb ds := fun hx => by have := (hM.lt _ hx).1; omega
    have nm_b8 : b8 ∉ mb ds := fun hx => by have := (hM.lt _ hx).1; omega
    have nm_b9 : b9 ∉ mb ds := fun hx => by have := (hM.lt _ hx).1; omega
    have nm_b12 : b12 ∉ mb ds := fun hx => by have := (hM.lt _ hx).1; omega
    refine sr rfl <| Wp rfl <| st_lss rfl rfl <| en <| x_seq <| x_cond rfl (fun h3 => ?_) (fun h3 => ?_)
    ·try simp only [nm, ne_eq] at h3
     have hil : i < (gPartsV p q).length := by omega
     obtain ⟨x, hx⟩ : ∃ x, (gPartsV p q)[i]? = some x := ⟨_, List.getElem?_eq_getElem hil⟩
     obtain ⟨hxn, hxl⟩ := gparts_mem (List.mem_of_getElem? hx)
     have hpl2 := gparts_len p q
     refine x_skip <| then_n <| x_seq <| x_block <| sr rfl <| mI rfl ?_
     obtain ⟨lb53, _, vs52, hA49, hR51, hC50⟩ := hpt.at (i := i) (x := x) (hx)
     obtain rfl : vs52 = [S x.1, S x.2] := hR51
     refine Wp rfl <| st_indexAddr T.u48 T.size51 (congrArg (fun z => Value.slice z _ _) hA49) rfl (by omega) (by omega) <| Wp rfl <| st_loadA (vs := [_, _]) T.agg51 rfl hC50 rfl <| Wp rfl <| st_alloc T.zero51 ?_
     intro b14 w54 e55 c56 hb57
     have ge_b14 := gB e55 HC.size
     have ne_b4_b14 := nE e55 hb4.ne_size
     have ne_b8_b14 := nE e55 hb8.ne_size
     have ne_b9_b14 := nE e55 hb20.ne_size
     have ne_b12_b14 := nE e55 hb39.ne_size
     have nm_b14 : b14 ∉ mb ds := fun hx => by have := (hM.lt _ hx).2; omega
     have gzN1_b14 : N1 ≤ b14 := Nat.le_trans hszN (by rw [e55]; exact Nat.le_refl _)
     have gzNw_b14 : Nw ≤ b14 := Nat.le_trans hszW (by rw [e55]; exact Nat.le_refl _)
     replace HC := HC.then c56
     replace hT := hT.tr0 c56
     replace hmx := hmx.tr0 c56
     replace hM := hM.tr c56 (by simp)
     replace hb4 := hb4.tr0 c56
     replace hb8 := hb8.tr0 c56
     replace hb20 := hb20.tr0 c56
     replace hb39 := hb39.tr0 c56
     replace hszN := Nat.le_trans hszN c56.size
     replace hpt := hpt.tr0 c56
     replace hps := hps.tr0 c56
     replace hszW := Nat.le_trans hszW c56.size
     clear e55
     refine aI rfl <| Wp rfl <| st_st (v := .agg ⟨[_, _]⟩) T.size51 rfl rfl rfl hb57 ?_
     intro w58 c59 hb60; simp only [setVs, setV] at hb60
     clear hb57
     replace HC := HC.then1 c59 ge_b14
     replace hT := hT.tr c59 (by intro k hx hD; simp only [List.mem_cons, List.mem_nil_iff, or_false] at hx; have hD2 : k < w.heap.size := hD; omega)
     replace hmx := hmx.tr c59 q1
     replace hM := hM.tr c59 (by intro k hk hx; have hlo := (hM.lt k hk).1; simp only [List.mem_singleton] at hx; subst hx; first | exact nm_b14 hk | omega | (cases hk; done))
     replace hb4 := hb4.tr1 c59 ne_b4_b14
     replace hb8 := hb8.tr1 c59 ne_b8_b14
     replace hb20 := hb20.tr1 c59 ne_b9_b14
     replace hb39 := hb39.tr1 c59 ne_b12_b14
     replace hszN := Nat.le_trans hszN c59.size
     replace hpt := hpt.tr c59 (by intro k hx hD; simp only [List.mem_cons, List.mem_nil_iff, or_false] at hx; have hD2 : k < N1 := hD; omega)
     replace hps := hps.tr c59 (by intro k hx hD; simp only [List.mem_cons, List.mem_nil_iff, or_false] at hx; have hD2 : k < Nw := hD; omega)
     replace hszW := Nat.le_trans hszW c59.size
     refine en <| sr rfl <| mI rfl <| mL rfl <| Wp rfl <| st_len (ct := #[48]) (by rw [show ((#[48] : Array TypeId)[0]?).bind Tryz.prog.underlying = some (.slice 51) from T.u48]; rfl) rfl <| Wp rfl <| st_subn rfl rfl (by constructor <;> omega) <| Wp rfl <| st_eql rfl rfl <| Wp rfl <| st_alloc T.zero4 ?_
     intro b15 w61 e62 c63 hb64
     have ge_b15 := gB e62 HC.size
     have ne_b4_b15 := nE e62 hb4.ne_size
     have ne_b8_b15 := nE e62 hb8.ne_size
     have ne_b9_b15 := nE e62 hb20.ne_size
     have ne_b12_b15 := nE e62 hb39.ne_size
     have ne_b14_b15 := nE e62 hb60.ne_size
     have nm_b15 : b15 ∉ mb ds := fun hx => by have := (hM.lt _ hx).2; omega
     have gzN1_b15 : N1 ≤ b15 := Nat.le_trans hszN (by rw [e62]; exact Nat.le_refl _)
     have gzNw_b15 : Nw ≤ b15 := Nat.le_trans hszW (by rw [e62]; exact Nat.le_refl _)
     replace HC := HC.then c63
     replace hT := hT.tr0 c63
     replace hmx := hmx.tr0 c63
     replace hM := hM.tr c63 (by simp)
     replace hb4 := hb4.tr0 c63
     replace hb8 := hb8.tr0 c63
     replace hb20 := hb20.tr0 c63
     replace hb39 := hb39.tr0 c63
     replace hszN := Nat.le_trans hszN c63.size
     replace hpt := hpt.tr0 c63
     replace hps := hps.tr0 c63
     replace hszW := Nat.le_trans hszW c63.size
     replace hb60 := hb60.tr0 c63
     clear e62
     refine Wp rfl <| st_st (v := .bool _) T.size4 rfl rfl rfl hb64 ?_
     intro w65 c66 hb67; simp only [setVs, setV] at hb67
     clear hb64
     replace HC := HC.then1 c66 ge_b15
     replace hT := hT.tr c66 (by intro k hx hD; simp only [List.mem_cons, List.mem_nil_iff, or_false] at hx; have hD2 : k < w.heap.size := hD; omega)
     replace hmx := hmx.tr c66 q1
     replace hM := hM.tr c66 (by intro k hk hx; have hlo := (hM.lt k hk).1; simp only [List.mem_singleton] at hx; subst hx; first | exact nm_b15 hk | omega | (cases hk; done))
     replace hb4 := hb4.tr1 c66 ne_b4_b15
     replace hb8 := hb8.tr1 c66 ne_b8_b15
     replace hb20 := hb20.tr1 c66 ne_b9_b15
     replace hb39 := hb39.tr1 c66 ne_b12_b15
     replace hszN := Nat.le_trans hszN c66.size
     replace hpt := hpt.tr c66 (by intro k hx hD; simp only [List.mem_cons, List.mem_nil_iff, or_false] at hx; have hD2 : k < N1 := hD; omega)
     replace hps := hps.tr c66 (by intro k hx hD; simp only [List.mem_cons, List.mem_nil_iff, or_false] at hx; have hD2 : k < Nw := hD; omega)
     replace hszW := Nat.le_trans hszW c66.size
     replace hb60 := hb60.tr1 c66 ne_b14_b15
     refine en <| x_seq ?_
     obtain ⟨last, hlast⟩ : ∃ b, b = decide ((i : Int) = ((gPartsV p q).length : Int) - 1) := ⟨_, rfl⟩
     rw [← hlast] at hb67
     have hle : ((gPartsV p q).drop (i + 1)).isEmpty = last := by rw [hlast]; exact last_eq hil
     refine x_region rfl <| Wp rfl <| st_alloc T.zero29 ?_
     intro b16 w68 e69 c70 hb71
     have ge_b16 := gB e69 HC.size
     have ne_b4_b16 := nE e69 hb4.ne_size
     have ne_b8_b16 := nE e69 hb8.ne_size
     have ne_b9_b16 := nE e69 hb20.ne_size
     have ne_b12_b16 := nE e69 hb39.ne_size
     have ne_b14_b16 := nE e69 hb60.ne_size
     have ne_b15_b16 := nE e69 hb67.ne_size
     have nm_b16 : b16 ∉ mb ds := fun hx => by have := (hM.lt _ hx).2; omega
     have gzN1_b16 : N1 ≤ b16 := Nat.le_trans hszN (by rw [e69]; exact Nat.le_refl _)
     have gzNw_b16 : Nw ≤ b16 := Nat.le_trans hszW (by rw [e69]; exact Nat.le_refl _)
     replace HC := HC.then c70
     replace hT := hT.tr0 c70
     replace hmx := hmx.tr0 c70
     replace hM := hM.tr c70 (by simp)
     replace hb4 := hb4.tr0 c70
     replace hb8 := hb8.tr0 c70
     replace hb20 := hb20.tr0 c70
     replace hb39 := hb39.tr0 c70
     replace hszN := Nat.le_trans hszN c70.size
     replace hpt := hpt.tr0 c70
     replace hps := hps.tr0 c70
     replace hszW := Nat.le_trans hszW c70.size
     replace hb60 := hb60.tr0 c70
     replace hb67 := hb67.tr0 c70
     clear e69
     refine en <| x_seq <| sr rfl <| mL rfl <| Wp rfl <| st_len (ct := #[29]) (by rw [show ((#[29] : Array TypeId)[0]?).bind Tryz.prog.underlying = some (.slice 9) from T.u29]; rfl) rfl <| mI rfl <| en <| x_block ?_
     have hoN : Own sE 9 w68 (fun k => Nw ≤ k ∧ k ≠ b14 ∧ k ≠ b15 ∧ k ≠ b16 ∧ k ∉ mb ds) none 0 ([] : List Bytes) := Own.nil
     refine x_loopD (ι := Nat × List Bytes × Option Addr × Nat) [18, 19, 20, 21, 54, 55, 56, 57, 58, 59, 60, 61, 62, 63, 64, 65, 66, 67, 68, 69, 70, 71, 72, 73, 74, 75, 76, 77, 78, 79, 80, 81, 82, 83, 84, 85, 86, 87, 88, 89, 90] (fun ⟨j, nx, A2, cap2⟩ => [(54, .int .i64 (j : Int))]) (fun ⟨j, nx, A2, cap2⟩ ds W => (j ≤ paths.length ∧ nx = levelG Z cwd x last fin (paths.take j) ∧ nx.length ≤ 1024 ∧ (b14 ∉ mb ds ∧ b15 ∉ mb ds ∧ b16 ∉ mb ds)) ∧ (Chg [] w W) ∧ (Sl inE W (fun k => k < w.heap.size) An Z) ∧ (MaxT W) ∧ (Marks N1 ds W) ∧ (Blk W b4 [.slice An Z.length capn, .int .i64 mx, .int .i64 my] 24) ∧ (Blk W b8 [.slice none 0 0] 29) ∧ (Blk W b9 [.slice An Z.length capn, .int .i64 mx, .int .i64 my, .int .i64 cwd] 47) ∧ (Blk W b12 [S fin] 9) ∧ (N1 ≤ W.heap.size) ∧ (Sl gpE W (fun k => k < N1) Ap (gPartsV p q)) ∧ (Sl sE W (fun k => k < Nw) A paths) ∧ (Nw ≤ W.heap.size) ∧ (Blk W b14 [S x.1, S x.2] 51) ∧ (Blk W b15 [.bool last] 4) ∧ (Blk W b16 [.slice A2 nx.length cap2] 29) ∧ (Own sE 9 W (fun k => Nw ≤ k ∧ k ≠ b14 ∧ k ≠ b15 ∧ k ≠ b16 ∧ k ∉ mb ds) A2 cap2 nx)) (fun ⟨j, nx, A2, cap2⟩ => paths.length - j) (0, [], none, 0) ?_ ?_ ?_
     · exact ⟨rfl, trivial⟩
     ·refine ⟨?_, HC, hT, hmx, hM, hb4, hb8, hb20, hb39, hszN, hpt, hps, hszW, hb60, hb67, hb71, hoN⟩
      exact ⟨Nat.zero_le _, rfl, by simp, nm_b14, nm_b15, nm_b16⟩
     intro ⟨j, nx, A2, cap2⟩ G73 ds w72 ⟨⟨hj, hnx, hnl, hnm⟩, HC, hT, hmx, hM, hb4, hb8, hb20, hb39, hszN, hpt, hps, hszW, hb60, hb67, hb16, ho⟩
     change wp _ _ _ _ _ (upds (over _ _ G73) [(54, .int .i64 (j : Int))]) _ _
     obtain ⟨nm_b14, nm_b15, nm_b16⟩ := hnm
     have nm_b4 : b4 ∉ mb ds := fun hx => by have := (hM.lt _ hx).1; omega
     have nm_b8 : b8 ∉ mb ds := fun hx => by have := (hM.lt _ hx).1; omega
     have nm_b9 : b9 ∉ mb ds := fun hx => by have := (hM.lt _ hx).1; omega
     have nm_b12 : b12 ∉ mb ds := fun hx => by have := (hM.lt _ hx).1; omega
     refine sr rfl <| Wp rfl <| st_lss rfl rfl <| en <| x_seq <| x_cond rfl (fun h4 => ?_) (fun h4 => ?_)
     ·try simp only [nm, ne_eq] at h4
      obtain ⟨path, hpath⟩ : ∃ x, paths[j]? = some x := ⟨_, List.getElem?_eq_getElem (by omega)⟩
      have hpl := hpls path (List.mem_of_getElem? hpath)
      refine x_skip <| then_n <| x_seq <| x_block <| sr rfl ?_
      obtain ⟨lb78, _, vs77, hA74, hR76, hC75⟩ := hps.at (i := j) (x := path) (hpath)
      obtain rfl : vs77 = [S path] := hR76
      refine Wp rfl <| st_indexAddr T.u29 T.size9 (congrArg (fun z => Value.slice z _ _) hA74) rfl (by omega) (by omega) <| lS T.one9 rfl (hC75.at (j := 0) rfl) <| aS rfl <| en <| sr rfl <| Wp rfl <| st_loadA (vs := [_, _, _, _]) T.agg47 rfl (hb20.cells (n := 4) (vs := [_, _, _, _]) rfl) rfl <| mS rfl <| Wp rfl <| st_loadA (vs := [_, _]) T.agg51 rfl (hb60.cells (n := 2) (vs := [_, _]) rfl) rfl <| Wp rfl <| st_call (ags := [_, _, _]) rfl rfl T.ent20 rfl (gbelow_spec x path _) ?_
      rintro _ w79 ⟨⟨bf, bp, bx, rfl, ⟨hg1, hg2, hg3⟩, hbf, hbp, hbx⟩, c80⟩
      have ge_bf : w.heap.size ≤ bf := Nat.le_trans HC.size hg1
      have ne_b8_bf : Hid (b8 ≠ bf) := Nat.ne_of_lt (Nat.lt_of_lt_of_le hb8.lt hg1)
      have ne_b16_bf : Hid (b16 ≠ bf) := Nat.ne_of_lt (Nat.lt_of_lt_of_le hb16.lt hg1)
      have nm_bf : bf ∉ mb ds := fun hx => by have := (hM.lt _ hx).2; omega
      have gzN1_bf : N1 ≤ bf := Nat.le_trans hszN hg1
      have gzNw_bf : Nw ≤ bf := Nat.le_trans hszW hg1
      have na_obf : bf ∉ ob (A2) := ho.fresh hg1
      have ge_bp : w.heap.size ≤ bp := Nat.le_trans HC.size hg2
      have ne_b8_bp : Hid (b8 ≠ bp) := Nat.ne_of_lt (Nat.lt_of_lt_of_le hb8.lt hg2)
      have ne_b16_bp : Hid (b16 ≠ bp) := Nat.ne_of_lt (Nat.lt_of_lt_of_le hb16.lt hg2)
      have nm_bp : bp ∉ mb ds := fun hx => by have := (hM.lt _ hx).2; omega
      have gzN1_bp : N1 ≤ bp := Nat.le_trans hszN hg2
      have gzNw_bp : Nw ≤ bp := Nat.le_trans hszW hg2
      have na_obp : bp ∉ ob (A2) := ho.fresh hg2
      have ge_bx : w.heap.size ≤ bx := Nat.le_trans HC.size hg3
      have ne_b8_bx : Hid (b8 ≠ bx) := Nat.ne_of_lt (Nat.lt_of_lt_of_le hb8.lt hg3)
      have ne_b16_bx : Hid (b16 ≠ bx) := Nat.ne_of_lt (Nat.lt_of_lt_of_le hb16.lt hg3)
      have nm_bx : bx ∉ mb ds := fun hx => by have := (hM.lt _ hx).2; omega
      have gzN1_bx : N1 ≤ bx := Nat.le_trans hszN hg3
      have gzNw_bx : Nw ≤ bx := Nat.le_trans hszW hg3
      have na_obx : bx ∉ ob (A2) := ho.fresh hg3
      replace HC := HC.then c80
      replace hT := hT.tr0 c80
      replace hmx := hmx.tr0 c80
      replace hM := hM.tr c80 (by simp)
      replace hb4 := hb4.tr0 c80
      replace hb8 := hb8.tr0 c80
      replace hb20 := hb20.tr0 c80
      replace hb39 := hb39.tr0 c80
      replace hszN := Nat.le_trans hszN c80.size
      replace hpt := hpt.tr0 c80
      replace hps := hps.tr0 c80
      replace hszW := Nat.le_trans hszW c80.size
      replace hb60 := hb60.tr0 c80
      replace hb67 := hb67.tr0 c80
      replace hb16 := hb16.tr0 c80
      replace ho := ho.tr0 c80
      refine en <| x_block <| x_range (bs := []) (K := (fun k => k < w.heap.size ∨ k = bf ∨ k = bp ∨ k = bx)) (ps := [62]) (encs := (fun s => [S s])) (xs := (belowG Z cwd path x)) rfl T.ent38 rfl (fun _ => rfl) (by simp) (by intro k hk; rcases hk with h | h | h | h <;> first | exact Nat.lt_of_lt_of_le h HC.size | (rw [h]; first | exact hbf.lt | exact hbp.lt | exact hbx.lt)) (below_iter (w0 := w) (x := x) (p := path) hTl hF hN hT hbf hbp hbx hmx (fun k h => .inl h) (.inr (.inl rfl)) (.inr (.inr (.inl rfl))) (.inr (.inr (.inr rfl))) hm1 HC.size (by omega) (by omega) hxn) ?_
      intro DD lp w81 hD1 hD2 hD3 hD4 hD5 c82
      have hszlp := HC.size
      have ge_DD : w.heap.size ≤ DD := by omega
      have ne_b4_DD : Hid (b4 ≠ DD) := by show _ ≠ _; have := hb4.lt; omega
      have ne_b8_DD : Hid (b8 ≠ DD) := by show _ ≠ _; have := hb8.lt; omega
      have ne_b9_DD : Hid (b9 ≠ DD) := by show _ ≠ _; have := hb20.lt; omega
      have ne_b12_DD : Hid (b12 ≠ DD) := by show _ ≠ _; have := hb39.lt; omega
      have ne_b14_DD : Hid (b14 ≠ DD) := by show _ ≠ _; have := hb60.lt; omega
      have ne_b15_DD : Hid (b15 ≠ DD) := by show _ ≠ _; have := hb67.lt; omega
      have ne_b16_DD : Hid (b16 ≠ DD) := by show _ ≠ _; have := hb16.lt; omega
      have ne_bf_DD : Hid (bf ≠ DD) := by show _ ≠ _; have := hbf.lt; omega
      have ne_bp_DD : Hid (bp ≠ DD) := by show _ ≠ _; have := hbp.lt; omega
      have ne_bx_DD : Hid (bx ≠ DD) := by show _ ≠ _; have := hbx.lt; omega
      have nm_DD : DD ∉ mb ds := fun hx => by have := (hM.lt _ hx).2; omega
      have gzN1_DD : N1 ≤ DD := Nat.le_trans hszN (by omega)
      have gzNw_DD : Nw ≤ DD := Nat.le_trans hszW (by omega)
      have na_oDD : DD ∉ ob (A2) := ho.fresh (by omega)
      have ge_lp : w.heap.size ≤ lp := by omega
      have ne_b4_lp : Hid (b4 ≠ lp) := by show _ ≠ _; have := hb4.lt; omega
      have ne_b8_lp : Hid (b8 ≠ lp) := by show _ ≠ _; have := hb8.lt; omega
      have ne_b9_lp : Hid (b9 ≠ lp) := by show _ ≠ _; have := hb20.lt; omega
      have ne_b12_lp : Hid (b12 ≠ lp) := by show _ ≠ _; have := hb39.lt; omega
      have ne_b14_lp : Hid (b14 ≠ lp) := by show _ ≠ _; have := hb60.lt; omega
      have ne_b15_lp : Hid (b15 ≠ lp) := by show _ ≠ _; have := hb67.lt; omega
      have ne_b16_lp : Hid (b16 ≠ lp) := by show _ ≠ _; have := hb16.lt; omega
      have ne_bf_lp : Hid (bf ≠ lp) := by show _ ≠ _; have := hbf.lt; omega
      have ne_bp_lp : Hid (bp ≠ lp) := by show _ ≠ _; have := hbp.lt; omega
      have ne_bx_lp : Hid (bx ≠ lp) := by show _ ≠ _; have := hbx.lt; omega
      have nm_lp : lp ∉ mb ds := fun hx => by have := (hM.lt _ hx).2; omega
      have gzN1_lp : N1 ≤ lp := Nat.le_trans hszN (by omega)
      have gzNw_lp : Nw ≤ lp := Nat.le_trans hszW (by omega)
      have na_olp : lp ∉ ob (A2) := ho.fresh (by omega)
      replace HC := HC.then c82
      replace hT := hT.tr0 c82
      replace hmx := hmx.tr0 c82
      replace hM := hM.tr c82 (by simp)
      replace hb4 := hb4.tr0 c82
      replace hb8 := hb8.tr0 c82
      replace hb20 := hb20.tr0 c82
      replace hb39 := hb39.tr0 c82
      replace hszN := Nat.le_trans hszN c82.size
      replace hpt := hpt.tr0 c82
      replace hps := hps.tr0 c82
      replace hszW := Nat.le_trans hszW c82.size
      replace hb60 := hb60.tr0 c82
      replace hb67 := hb67.tr0 c82
      replace hb16 := hb16.tr0 c82
      replace ho := ho.tr0 c82
      replace hbf := hbf.tr0 c82
      replace hbp := hbp.tr0 c82
      replace hbx := hbx.tr0 c82
      refine ⟨fun pre W => ∃ (A2 : Option Addr), ∃ (cap2 : Nat), ((nx ++ pre.filterMap (keepG Z cwd last fin)).length ≤ 1024) ∧ (Chg [] w W) ∧ (Sl inE W (fun k => k < w.heap.size) An Z) ∧ (MaxT W) ∧ (Marks N1 ds W) ∧ (Blk W b4 [.slice An Z.length capn, .int .i64 mx, .int .i64 my] 24) ∧ (Blk W b8 [.slice none 0 0] 29) ∧ (Blk W b9 [.slice An Z.length capn, .int .i64 mx, .int .i64 my, .int .i64 cwd] 47) ∧ (Blk W b12 [S fin] 9) ∧ (N1 ≤ W.heap.size) ∧ (Sl gpE W (fun k => k < N1) Ap (gPartsV p q)) ∧ (Sl sE W (fun k => k < Nw) A paths) ∧ (Nw ≤ W.heap.size) ∧ (Blk W b14 [S x.1, S x.2] 51) ∧ (Blk W b15 [.bool last] 4) ∧ (Blk W bf [.slice An Z.length capn, .int .i64 mx, .int .i64 my, .int .i64 cwd] 47) ∧ (Blk W bp [S path] 9) ∧ (Blk W bx [S x.1, S x.2] 51) ∧ (DD < W.heap.size) ∧ (lp < W.heap.size) ∧ (Own sE 9 W (fun k => Nw ≤ k ∧ k ≠ b14 ∧ k ≠ b15 ∧ k ≠ b16 ∧ k ∉ mb ds ∧ k ≠ bf ∧ k ≠ bp ∧ k ≠ bx ∧ k ≠ lp ∧ k ≠ DD) A2 cap2 (nx ++ pre.filterMap (keepG Z cwd last fin))) ∧ (Blk W b16 [.slice A2 (nx ++ pre.filterMap (keepG Z cwd last fin)).length cap2] 29), fun c pre W => (c = Code.ret ∧ ((∃ rest, belowG Z cwd path x = pre ++ rest) ∧ 1024 < (nx ++ pre.filterMap (keepG Z cwd last fin)).length) ∧ (Chg [] w W) ∧ (Sl inE W (fun k => k < w.heap.size) An Z) ∧ (MaxT W) ∧ (Marks N1 ds W) ∧ (Blk W b4 [.slice An Z.length capn, .int .i64 mx, .int .i64 my] 24) ∧ (Blk W b9 [.slice An Z.length capn, .int .i64 mx, .int .i64 my, .int .i64 cwd] 47) ∧ (Blk W b12 [S fin] 9) ∧ (N1 ≤ W.heap.size) ∧ (Nw ≤ W.heap.size) ∧ (Blk W b14 [S x.1, S x.2] 51) ∧ (Blk W b15 [.bool last] 4) ∧ (Blk W bf [.slice An Z.length capn, .int .i64 mx, .int .i64 my, .int .i64 cwd] 47) ∧ (Blk W bp [S path] 9) ∧ (Blk W bx [S x.1, S x.2] 51) ∧ (DD < W.heap.size) ∧ (lp < W.heap.size) ∧ (Blk W b8 [.slice none 0 0] 29)), ⟨A2, cap2, (by simpa using hnl), HC, hT, hmx, hM, hb4, hb8, hb20, hb39, hszN, hpt, hps, hszW, hb60, hb67, hbf, hbp, hbx, hD4, hD5, (by rw [List.filterMap_nil, List.append_nil]; exact ho.flat flat_flat (fun k hk hD => ⟨hD.1, hD.2.1, hD.2.2.1, hD.2.2.2.1, hD.2.2.2.2, fun e => na_obf (e ▸ hk), fun e => na_obp (e ▸ hk), fun e => na_obx (e ▸ hk), fun e => na_olp (e ▸ hk), fun e => na_oDD (e ▸ hk)⟩)), (by rw [List.filterMap_nil, List.append_nil]; exact hb16)⟩, ?_, ?_, ?_, ?_, ?_⟩
      ·rintro pre Wa Wb ⟨A2, cap2, hU, HC, hT, hmx, hM, hb4, hb8, hb20, hb39, hszN, hpt, hps, hszW, hb60, hb67, hbf, hbp, hbx, hD4, hD5, ho, hb16⟩ cL
       replace HC := HC.then1 cL ge_lp
       replace hT := hT.tr cL (by intro k hx hD; simp only [List.mem_cons, List.mem_nil_iff, or_false] at hx; have hD2 : k < w.heap.size := hD; omega)
       replace hmx := hmx.tr cL q1
       replace hM := hM.tr cL (by intro k hk hx; have hlo := (hM.lt k hk).1; simp only [List.mem_singleton] at hx; subst hx; first | exact nm_lp hk | omega | (cases hk; done))
       replace hb4 := hb4.tr1 cL ne_b4_lp
       replace hb8 := hb8.tr1 cL ne_b8_lp
       replace hb20 := hb20.tr1 cL ne_b9_lp
       replace hb39 := hb39.tr1 cL ne_b12_lp
       replace hszN := Nat.le_trans hszN cL.size
       replace hpt := hpt.tr cL (by intro k hx hD; simp only [List.mem_cons, List.mem_nil_iff, or_false] at hx; have hD2 : k < N1 := hD; omega)
       replace hps := hps.tr cL (by intro k hx hD; simp only [List.mem_cons, List.mem_nil_iff, or_false] at hx; have hD2 : k < Nw := hD; omega)
       replace hszW := Nat.le_trans hszW cL.size
       replace hb60 := hb60.tr1 cL ne_b14_lp
       replace hb67 := hb67.tr1 cL ne_b15_lp
       replace hbf := hbf.tr1 cL ne_bf_lp
       replace hbp := hbp.tr1 cL ne_bp_lp
       replace hbx := hbx.tr1 cL ne_bx_lp
       replace hD4 := Nat.lt_of_lt_of_le hD4 cL.size
       replace hD5 := Nat.lt_of_lt_of_le hD5 cL.size
       replace ho := ho.trF flat_flat cL (by intro k hk hx; have h1 := ho.inD _ hk; simp only [List.mem_cons, List.mem_nil_iff, or_false] at hx; omega)
       replace hb16 := hb16.tr1 cL ne_b16_lp
       exact ⟨A2, cap2, hU, HC, hT, hmx, hM, hb4, hb8, hb20, hb39, hszN, hpt, hps, hszW, hb60, hb67, hbf, hbp, hbx, hD4, hD5, ho, hb16⟩
      ·intro c pre Wa Wb hX cL
       obtain ⟨rfl, ⟨hU, HC, hT, hmx, hM, hb4, hb20, hb39, hszN, hszW, hb60, hb67, hbf, hbp, hbx, hD4, hD5, hb8⟩⟩ := hX
       replace HC := HC.then1 cL ge_lp
       replace hT := hT.tr cL (by intro k hx hD; simp only [List.mem_cons, List.mem_nil_iff, or_false] at hx; have hD2 : k < w.heap.size := hD; omega)
       replace hmx := hmx.tr cL q1
       replace hM := hM.tr cL (by intro k hk hx; have hlo := (hM.lt k hk).1; simp only [List.mem_singleton] at hx; subst hx; first | exact nm_lp hk | omega | (cases hk; done))
       replace hb4 := hb4.tr1 cL ne_b4_lp
       replace hb20 := hb20.tr1 cL ne_b9_lp
       replace hb39 := hb39.tr1 cL ne_b12_lp
       replace hszN := Nat.le_trans hszN cL.size
       replace hszW := Nat.le_trans hszW cL.size
       replace hb60 := hb60.tr1 cL ne_b14_lp
       replace hb67 := hb67.tr1 cL ne_b15_lp
       replace hbf := hbf.tr1 cL ne_bf_lp
       replace hbp := hbp.tr1 cL ne_bp_lp
       replace hbx := hbx.tr1 cL ne_bx_lp
       replace hD4 := Nat.lt_of_lt_of_le hD4 cL.size
       replace hD5 := Nat.lt_of_lt_of_le hD5 cL.size
       replace hb8 := hb8.tr1 cL ne_b8_lp
       exact ⟨rfl, ⟨hU, HC, hT, hmx, hM, hb4, hb20, hb39, hszN, hszW, hb60, hb67, hbf, hbp, hbx, hD4, hD5, hb8⟩⟩
      ·rintro pre y rest Wa hxs ⟨A2, cap2, hnl, HC, hT, hmx, hM, hb4, hb8, hb20, hb39, hszN, hpt, hps, hszW, hb60, hb67, hbf, hbp, hbx, hD4, hD5, ho, hb16⟩ ⟨rec, hrec⟩
       have lt0_b4 := hb4.lt
       have lt0_b8 := hb8.lt
       have lt0_b9 := hb20.lt
       have lt0_b12 := hb39.lt
       have lt0_b14 := hb60.lt
       have lt0_b15 := hb67.lt
       have lt0_bf := hbf.lt
       have lt0_bp := hbp.lt
       have lt0_bx := hbx.lt
       have lo0_ho := ho.lt
       have li0_ho := ho.inD
       have lt0_b16 := hb16.lt
       have HK : Kept (fun k => k = lp ∨ k = DD ∨ (fun k => k < w.heap.size ∨ k = bf ∨ k = bp ∨ k = bx) k) Wa Wa := .refl'
       have hyl := below_len hN (cwd := cwd) (x := x) (m := 1 + 302 * i) hpl (by omega) y (by rw [hxs]; simp)
       refine x_region rfl <| aS rfl <| en <| ⟨HK, ?_⟩
       intro ds1 Wc cL hrec2
       replace HC := HC.then1 cL ge_lp
       replace hT := hT.tr cL (by intro k hx hD; simp only [List.mem_cons, List.mem_nil_iff, or_false] at hx; have hD2 : k < w.heap.size := hD; omega)
       replace hmx := hmx.tr cL q1
       replace hM := hM.tr cL (by intro k hk hx; have hlo := (hM.lt k hk).1; simp only [List.mem_singleton] at hx; subst hx; first | exact nm_lp hk | omega | (cases hk; done))
       replace hb4 := hb4.tr1 cL ne_b4_lp
       replace hb8 := hb8.tr1 cL ne_b8_lp
       replace hb20 := hb20.tr1 cL ne_b9_lp
       replace hb39 := hb39.tr1 cL ne_b12_lp
       replace hszN := Nat.le_trans hszN cL.size
       replace hpt := hpt.tr cL (by intro k hx hD; simp only [List.mem_cons, List.mem_nil_iff, or_false] at hx; have hD2 : k < N1 := hD; omega)
       replace hps := hps.tr cL (by intro k hx hD; simp only [List.mem_cons, List.mem_nil_iff, or_false] at hx; have hD2 : k < Nw := hD; omega)
       replace hszW := Nat.le_trans hszW cL.size
       replace hb60 := hb60.tr1 cL ne_b14_lp
       replace hb67 := hb67.tr1 cL ne_b15_lp
       replace hbf := hbf.tr1 cL ne_bf_lp
       replace hbp := hbp.tr1 cL ne_bp_lp
       replace hbx := hbx.tr1 cL ne_bx_lp
       replace hD4 := Nat.lt_of_lt_of_le hD4 cL.size
       replace hD5 := Nat.lt_of_lt_of_le hD5 cL.size
       replace ho := ho.trF flat_flat cL (by intro k hk hx; have h1 := ho.inD _ hk; simp only [List.mem_cons, List.mem_nil_iff, or_false] at hx; omega)
       replace hb16 := hb16.tr1 cL ne_b16_lp
       have HK : Kept (fun k => k = lp ∨ k = DD ∨ (fun k => k < w.heap.size ∨ k = bf ∨ k = bp ∨ k = bx) k) Wc Wc := .refl'
       refine x_block <| x_seq <| sr rfl <| Wp rfl <| st_loadA (vs := [_, _, _, _]) T.agg47 rfl (hb20.cells (n := 4) (vs := [_, _, _, _]) rfl) rfl <| mS rfl <| Wp rfl <| st_call (ags := [_, _]) rfl rfl T.ent21 rfl (gdir_spec hT hTl hF y hmx (by omega)) ?_
       rintro _ w83 ⟨rfl, c84⟩
       replace HC := HC.then c84
       replace hT := hT.tr0 c84
       replace hmx := hmx.tr0 c84
       replace hM := hM.tr c84 (by simp)
       replace hb4 := hb4.tr0 c84
       replace hb8 := hb8.tr0 c84
       replace hb20 := hb20.tr0 c84
       replace hb39 := hb39.tr0 c84
       replace hszN := Nat.le_trans hszN c84.size
       replace hpt := hpt.tr0 c84
       replace hps := hps.tr0 c84
       replace hszW := Nat.le_trans hszW c84.size
       replace hb60 := hb60.tr0 c84
       replace hb67 := hb67.tr0 c84
       replace hbf := hbf.tr0 c84
       replace hbp := hbp.tr0 c84
       replace hbx := hbx.tr0 c84
       replace hD4 := Nat.lt_of_lt_of_le hD4 c84.size
       replace hD5 := Nat.lt_of_lt_of_le hD5 c84.size
       replace ho := ho.tr0 c84
       replace hb16 := hb16.tr0 c84
       replace HK := HK.chg c84 (fun k hx => absurd hx (by simp))
       refine mv (v := .tuple ⟨[_, _]⟩) rfl <| Wp rfl <| st_extract (vs := [_, _]) (v := .int _ _) rfl rfl <| Wp rfl <| st_extract (vs := [_, _]) (v := .bool _) rfl rfl <| aI rfl <| aB rfl <| en <| sr rfl <| mB rfl <| Wp rfl <| st_not rfl <| mB rfl <| w_split (d := 71) rfl (fun g85 => ?_) (fun g85 => ?_)
       ·try simp only [nm, ne_eq] at g85
        refine w_yes 2 71 true <| st_load1 (v := .bool _) T.one4 rfl (hb67.cell rfl) <| w_yes 2 71 true <| st_not rfl <| w_yes 2 71 true <| st_move (v := .bool _) rfl <| w_split (d := 74) rfl (fun g86 => ?_) (fun g86 => ?_)
        ·try simp only [nm, ne_eq] at g86
         refine w_no 5 74 false <| w_no 5 74 false <| w_yes 2 71 true <| st_pick (b := true) (v := .bool _) rfl rfl <| pT rfl rfl <| en <| x_cond (t := true) rfl (fun h5 => ?_) (fun h5 => ?_)
         rotate_left
         · exact absurd h5 (by decide)
         have hkg : keepG Z cwd last fin y = none := keep_no (by first | assumption | simp_all) (by first | (left; first | assumption | simp_all; done) | (right; first | assumption | simp_all; done))
         have hfm : (nx ++ (pre ++ [y]).filterMap (keepG Z cwd last fin)) = (nx ++ pre.filterMap (keepG Z cwd last fin)) := by rw [fm_snoc, hkg, List.append_nil]
         refine x_exit <| then_x <| block_x <| ⟨HK, ?_⟩
         exact ⟨A2, cap2, (by rw [hfm]; exact hnl), HC, hT, hmx, hM, hb4, hb8, hb20, hb39, hszN, hpt, hps, hszW, hb60, hb67, hbf, hbp, hbx, hD4, hD5, (by rw [hfm]; exact ho), (by rw [hfm]; exact hb16)⟩
        ·try simp only [nm, ne_eq] at g86
         refine w_yes 5 74 false <| st_load1 (v := S _) T.one9 rfl (hb39.cell rfl) <| w_yes 5 74 false <| st_sneq rfl rfl <| w_yes 2 71 true <| st_pick (b := false) (v := .bool _) rfl rfl <| pT rfl rfl <| en <| x_cond rfl (fun h5 => ?_) (fun h5 => ?_)
         ·try simp only [nm, ne_eq] at h5
          have hkg : keepG Z cwd last fin y = none := keep_no (by first | assumption | simp_all) (by first | (left; first | assumption | simp_all; done) | (right; first | assumption | simp_all; done))
          have hfm : (nx ++ (pre ++ [y]).filterMap (keepG Z cwd last fin)) = (nx ++ pre.filterMap (keepG Z cwd last fin)) := by rw [fm_snoc, hkg, List.append_nil]
          refine x_exit <| then_x <| block_x <| ⟨HK, ?_⟩
          exact ⟨A2, cap2, (by rw [hfm]; exact hnl), HC, hT, hmx, hM, hb4, hb8, hb20, hb39, hszN, hpt, hps, hszW, hb60, hb67, hbf, hbp, hbx, hD4, hD5, (by rw [hfm]; exact ho), (by rw [hfm]; exact hb16)⟩
         ·try simp only [nm, ne_eq] at h5
          have hkg0 : keepG Z cwd last fin y = some (if last = true then y ++ fin else y) := keep_yes (by first | (left; first | assumption | simp_all; done) | (right; refine ⟨?_, ?_⟩ <;> first | assumption | simp_all; done))
          obtain ⟨ky, hky⟩ : ∃ k, k = (if last = true then y ++ fin else y) := ⟨_, rfl⟩
          rw [← hky] at hkg0
          have hkg := hkg0
          have hfm : (nx ++ (pre ++ [y]).filterMap (keepG Z cwd last fin)) = (nx ++ pre.filterMap (keepG Z cwd last fin)) ++ [ky] := by rw [fm_snoc, hkg, List.append_assoc]
          refine x_skip <| then_n <| x_seq <| sr rfl <| Wp rfl <| st_load1 (v := .bool _) T.one4 rfl (hb67.cell rfl) <| en <| x_cond rfl (fun h6 => ?_) (fun h6 => ?_)
          ·try simp only [nm, ne_eq] at h6
           have hls : last = true := by first | assumption | simpa using h6
           refine x_region rfl <| mS rfl <| lS T.one9 rfl (hb39.cell rfl) <| Wp rfl <| st_sadd rfl rfl (by (try simp only [List.length_append, List.length_cons, List.length_nil] at *); omega) <| aS rfl <| en <| x_seq ?_
           rw [hls] at hky
           simp only [Bool.false_eq_true, if_false, if_true] at hky
           refine x_region rfl <| lL T.one29 rfl (hb16.cell rfl) <| mS rfl <| Wp rfl <| st_lit (ps := [(0, .tmp 84)]) (vs := [S _]) T.lit29 (by decide) rfl q6 rfl ?_
           intro b87 w88 e89 c90 hb91
           have ge_b87 := gB e89 HC.size
           have geK_b87 : Wc.heap.size ≤ b87 := by rw [e89]; exact HK.1
           have nm_b87 : b87 ∉ mb ds := fun hx => by have := (hM.lt _ hx).2; omega
           have gzN1_b87 : N1 ≤ b87 := Nat.le_trans hszN (by rw [e89]; exact Nat.le_refl _)
           have gzNw_b87 : Nw ≤ b87 := Nat.le_trans hszW (by rw [e89]; exact Nat.le_refl _)
           have na_ob87 : b87 ∉ ob (A2) := ho.fresh (by rw [e89]; exact Nat.le_refl _)
           replace HC := HC.then c90
           replace hT := hT.tr0 c90
           replace hmx := hmx.tr0 c90
           replace hM := hM.tr c90 (by simp)
           replace hb4 := hb4.tr0 c90
           replace hb8 := hb8.tr0 c90
           replace hb20 := hb20.tr0 c90
           replace hb39 := hb39.tr0 c90
           replace hszN := Nat.le_trans hszN c90.size
           replace hpt := hpt.tr0 c90
           replace hps := hps.tr0 c90
           replace hszW := Nat.le_trans hszW c90.size
           replace hb60 := hb60.tr0 c90
           replace hb67 := hb67.tr0 c90
           replace hbf := hbf.tr0 c90
           replace hbp := hbp.tr0 c90
           replace hbx := hbx.tr0 c90
           replace hD4 := Nat.lt_of_lt_of_le hD4 c90.size
           replace hD5 := Nat.lt_of_lt_of_le hD5 c90.size
           replace ho := ho.tr0 c90
           replace hb16 := hb16.tr0 c90
           replace HK := HK.chg c90 (fun k hx => absurd hx (by simp))
           clear e89
           have hkl := keep_len (fin := fin) hfl hkg
           have hnl2 := hnl
           rw [List.length_append] at hnl2
           have hszA := HC.size
           refine Wp rfl <| st_append2 (c := sE) (D2 := fun _ => False) (xs := (nx ++ pre.filterMap (keepG Z cwd last fin))) (ys := [ky]) T.slice29 rfl rfl ho rfl rfl (one_elem (by subst hky; rfl) (hb91.cells (n := 1) rfl)) (fun _ _ h => h.elim) (fun k hk => ⟨by omega, by have := hb60.lt; omega, by have := hb67.lt; omega, by have := hb16.lt; omega, fun h => by have := (hM.lt _ h).2; omega, by have := hbf.lt; omega, by have := hbp.lt; omega, by have := hbx.lt; omega, by have := hD5; omega, by have := hD4; omega⟩) q7 q7 ?_
           intro A92 cap93 w94 ho95 c96 hg97
           replace HC := HC.trans c96 (fun k hk => .inr ((by have h9 := ho.inD k hk; have h8 := hNww; omega)))
           replace hT := hT.tr c96 (by intro k hk hD; have h1 := ho.inD k hk; have hD2 : k < w.heap.size := hD; omega)
           replace hmx := hmx.tr c96 (by intro hx; have h1 := ho.inD _ hx; omega)
           replace hM := hM.tr c96 (fun k hk hx => (ho.inD k hx).2.2.2.2.1 hk)
           replace hb4 := hb4.tr c96 (fun hx => by first | (have h1 := ho.inD _ hx; omega) | exact na_ob4 hx | exact hav _ hx (by simp))
           replace hb8 := hb8.tr c96 (fun hx => by first | (have h1 := ho.inD _ hx; omega) | exact na_ob8 hx | exact hav _ hx (by simp))
           replace hb20 := hb20.tr c96 (fun hx => by first | (have h1 := ho.inD _ hx; omega) | exact na_ob9 hx | exact hav _ hx (by simp))
           replace hb39 := hb39.tr c96 (fun hx => by first | (have h1 := ho.inD _ hx; omega) | exact na_ob12 hx | exact hav _ hx (by simp))
           replace hszN := Nat.le_trans hszN c96.size
           replace hpt := hpt.tr c96 (by intro k hk hD; have h1 := ho.inD k hk; have hD2 : k < N1 := hD; omega)
           replace hps := hps.tr c96 (by intro k hk hD; have h1 := ho.inD k hk; have hD2 : k < Nw := hD; omega)
           replace hszW := Nat.le_trans hszW c96.size
           replace hb60 := hb60.tr c96 (fun hx => by first | (have h1 := ho.inD _ hx; omega) | exact na_ob14 hx | exact hav _ hx (by simp))
           replace hb67 := hb67.tr c96 (fun hx => by first | (have h1 := ho.inD _ hx; omega) | exact na_ob15 hx | exact hav _ hx (by simp))
           replace hbf := hbf.tr c96 (fun hx => by first | (have h1 := ho.inD _ hx; omega) | exact na_obf hx | exact hav _ hx (by simp))
           replace hbp := hbp.tr c96 (fun hx => by first | (have h1 := ho.inD _ hx; omega) | exact na_obp hx | exact hav _ hx (by simp))
           replace hbx := hbx.tr c96 (fun hx => by first | (have h1 := ho.inD _ hx; omega) | exact na_obx hx | exact hav _ hx (by simp))
           replace hD4 := Nat.lt_of_lt_of_le hD4 c96.size
           replace hD5 := Nat.lt_of_lt_of_le hD5 c96.size
           replace hb16 := hb16.tr c96 (fun hx => by first | (have h1 := ho.inD _ hx; omega) | exact na_ob16 hx | exact hav _ hx (by simp))
           replace HK := HK.chg c96 (by intro k hk hK; have h1 := ho.inD k hk; have h2 := lo0_ho k hk; simp only [NK] at hK; omega)
           refine Wp rfl <| st_st (v := .slice _ _ _) T.size29 rfl rfl rfl hb16 ?_
           intro w98 c99 hb100; simp only [setVs, setV] at hb100
           clear hb16
           replace HC := HC.then1 c99 ge_b16
           replace hT := hT.tr c99 (by intro k hx hD; simp only [List.mem_cons, List.mem_nil_iff, or_false] at hx; have hD2 : k < w.heap.size := hD; omega)
           replace hmx := hmx.tr c99 q1
           replace hM := hM.tr c99 (by intro k hk hx; have hlo := (hM.lt k hk).1; simp only [List.mem_singleton] at hx; subst hx; first | exact nm_b16 hk | omega | (cases hk; done))
           replace hb4 := hb4.tr1 c99 ne_b4_b16
           replace hb8 := hb8.tr1 c99 ne_b8_b16
           replace hb20 := hb20.tr1 c99 ne_b9_b16
           replace hb39 := hb39.tr1 c99 ne_b12_b16
           replace hszN := Nat.le_trans hszN c99.size
           replace hpt := hpt.tr c99 (by intro k hx hD; simp only [List.mem_cons, List.mem_nil_iff, or_false] at hx; have hD2 : k < N1 := hD; omega)
           replace hps := hps.tr c99 (by intro k hx hD; simp only [List.mem_cons, List.mem_nil_iff, or_false] at hx; have hD2 : k < Nw := hD; omega)
           replace hszW := Nat.le_trans hszW c99.size
           replace hb60 := hb60.tr1 c99 ne_b14_b16
           replace hb67 := hb67.tr1 c99 ne_b15_b16
           replace hbf := hbf.tr1 c99 (Ne.symm ne_b16_bf)
           replace hbp := hbp.tr1 c99 (Ne.symm ne_b16_bp)
           replace hbx := hbx.tr1 c99 (Ne.symm ne_b16_bx)
           replace hD4 := Nat.lt_of_lt_of_le hD4 c99.size
           replace hD5 := Nat.lt_of_lt_of_le hD5 c99.size
           replace ho95 := ho95.trF flat_flat c99 (by intro k hk hx; have h1 := ho95.inD _ hk; simp only [List.mem_cons, List.mem_nil_iff, or_false] at hx; omega)
           replace HK := HK.chg c99 (by
            intro k hx hK
            obtain rfl := List.mem_singleton.1 hx
            rcases hK with h | h | (h | h | h | h)
            · exact absurd h ne_b16_lp
            · exact absurd h ne_b16_DD
            · exact absurd h (Nat.not_lt.2 ge_b16)
            · exact absurd h ne_b16_bf
            · exact absurd h ne_b16_bp
            · exact absurd h ne_b16_bx)
           refine en <| sr rfl <| lL T.one29 rfl (hb100.cell rfl) <| Wp rfl <| st_len (ct := #[29]) (by rw [show ((#[29] : Array TypeId)[0]?).bind Tryz.prog.underlying = some (.slice 9) from T.u29]; rfl) rfl <| Wp rfl <| st_gtr rfl rfl <| en <| x_cond rfl (fun h7 => ?_) (fun h7 => ?_)
           ·try simp only [nm, ne_eq] at h7
            refine sr rfl <| Wp rfl <| st_st (v := .slice _ _ _) T.size29 rfl rfl rfl hb8 ?_
            intro w101 c102 hb103; simp only [setVs, setV] at hb103
            clear hb8
            replace HC := HC.then1 c102 ge_b8
            replace hT := hT.tr c102 (by intro k hx hD; simp only [List.mem_cons, List.mem_nil_iff, or_false] at hx; have hD2 : k < w.heap.size := hD; omega)
            replace hmx := hmx.tr c102 q1
            replace hM := hM.tr c102 (by intro k hk hx; have hlo := (hM.lt k hk).1; simp only [List.mem_singleton] at hx; subst hx; first | exact nm_b8 hk | omega | (cases hk; done))
            replace hb4 := hb4.tr1 c102 ne_b4_b8
            replace hb20 := hb20.tr1 c102 (Ne.symm ne_b8_b9)
            replace hb39 := hb39.tr1 c102 (Ne.symm ne_b8_b12)
            replace hszN := Nat.le_trans hszN c102.size
            replace hszW := Nat.le_trans hszW c102.size
            replace hb60 := hb60.tr1 c102 (Ne.symm ne_b8_b14)
            replace hb67 := hb67.tr1 c102 (Ne.symm ne_b8_b15)
            replace hbf := hbf.tr1 c102 (Ne.symm ne_b8_bf)
            replace hbp := hbp.tr1 c102 (Ne.symm ne_b8_bp)
            replace hbx := hbx.tr1 c102 (Ne.symm ne_b8_bx)
            replace hD4 := Nat.lt_of_lt_of_le hD4 c102.size
            replace hD5 := Nat.lt_of_lt_of_le hD5 c102.size
            replace HK := HK.chg c102 (by
             intro k hx hK
             obtain rfl := List.mem_singleton.1 hx
             rcases hK with h | h | (h | h | h | h)
             · exact absurd h ne_b8_lp
             · exact absurd h ne_b8_DD
             · exact absurd h (Nat.not_lt.2 ge_b8)
             · exact absurd h ne_b8_bf
             · exact absurd h ne_b8_bp
             · exact absurd h ne_b8_bx)
            refine en <| x_ret <| block_r <| ⟨HK, ?_⟩
            exact ⟨rfl, ⟨⟨⟨rest, by rw [hxs]; simp⟩, by rw [hfm]; (try simp only [List.length_append, List.length_cons, List.length_nil] at *); omega⟩, HC, hT, hmx, hM, hb4, hb20, hb39, hszN, hszW, hb60, hb67, hbf, hbp, hbx, hD4, hD5, hb103⟩⟩
           ·try simp only [nm, ne_eq] at h7
            refine x_skip <| block_n <| ⟨HK, ?_⟩
            exact ⟨A92, cap93, (by first | assumption | (rw [hfm]; (try simp only [List.length_append, List.length_cons, List.length_nil] at *); omega)), HC, hT, hmx, hM, hb4, hb8, hb20, hb39, hszN, hpt, hps, hszW, hb60, hb67, hbf, hbp, hbx, hD4, hD5, (by rw [hfm]; exact ho95), (by rw [hfm]; exact hb100)⟩
          ·try simp only [nm, ne_eq] at h6
           have hls : last = false := by first | assumption | simpa using h6
           refine x_skip <| then_n <| x_seq ?_
           rw [hls] at hky
           simp only [Bool.false_eq_true, if_false, if_true] at hky
           refine x_region rfl <| lL T.one29 rfl (hb16.cell rfl) <| mS rfl <| Wp rfl <| st_lit (ps := [(0, .tmp 84)]) (vs := [S _]) T.lit29 (by decide) rfl q6 rfl ?_
           intro b104 w105 e106 c107 hb108
           have ge_b104 := gB e106 HC.size
           have geK_b104 : Wc.heap.size ≤ b104 := by rw [e106]; exact HK.1
           have nm_b104 : b104 ∉ mb ds := fun hx => by have := (hM.lt _ hx).2; omega
           have gzN1_b104 : N1 ≤ b104 := Nat.le_trans hszN (by rw [e106]; exact Nat.le_refl _)
           have gzNw_b104 : Nw ≤ b104 := Nat.le_trans hszW (by rw [e106]; exact Nat.le_refl _)
           have na_ob104 : b104 ∉ ob (A2) := ho.fresh (by rw [e106]; exact Nat.le_refl _)
           replace HC := HC.then c107
           replace hT := hT.tr0 c107
           replace hmx := hmx.tr0 c107
           replace hM := hM.tr c107 (by simp)
           replace hb4 := hb4.tr0 c107
           replace hb8 := hb8.tr0 c107
           replace hb20 := hb20.tr0 c107
           replace hb39 := hb39.tr0 c107
           replace hszN := Nat.le_trans hszN c107.size
           replace hpt := hpt.tr0 c107
           replace hps := hps.tr0 c107
           replace hszW := Nat.le_trans hszW c107.size
           replace hb60 := hb60.tr0 c107
           replace hb67 := hb67.tr0 c107
           replace hbf := hbf.tr0 c107
           replace hbp := hbp.tr0 c107
           replace hbx := hbx.tr0 c107
           replace hD4 := Nat.lt_of_lt_of_le hD4 c107.size
           replace hD5 := Nat.lt_of_lt_of_le hD5 c107.size
           replace ho := ho.tr0 c107
           replace hb16 := hb16.tr0 c107
           replace HK := HK.chg c107 (fun k hx => absurd hx (by simp))
           clear e106
           have hkl := keep_len (fin := fin) hfl hkg
           have hnl2 := hnl
           rw [List.length_append] at hnl2
           have hszA := HC.size
           refine Wp rfl <| st_append2 (c := sE) (D2 := fun _ => False) (xs := (nx ++ pre.filterMap (keepG Z cwd last fin))) (ys := [ky]) T.slice29 rfl rfl ho rfl rfl (one_elem (by subst hky; rfl) (hb108.cells (n := 1) rfl)) (fun _ _ h => h.elim) (fun k hk => ⟨by omega, by have := hb60.lt; omega, by have := hb67.lt; omega, by have := hb16.lt; omega, fun h => by have := (hM.lt _ h).2; omega, by have := hbf.lt; omega, by have := hbp.lt; omega, by have := hbx.lt; omega, by have := hD5; omega, by have := hD4; omega⟩) q7 q7 ?_
           intro A109 cap110 w111 ho112 c113 hg114
           replace HC := HC.trans c113 (fun k hk => .inr ((by have h9 := ho.inD k hk; have h8 := hNww; omega)))
           replace hT := hT.tr c113 (by intro k hk hD; have h1 := ho.inD k hk; have hD2 : k < w.heap.size := hD; omega)
           replace hmx := hmx.tr c113 (by intro hx; have h1 := ho.inD _ hx; omega)
           replace hM := hM.tr c113 (fun k hk hx => (ho.inD k hx).2.2.2.2.1 hk)
           replace hb4 := hb4.tr c113 (fun hx => by first | (have h1 := ho.inD _ hx; omega) | exact na_ob4 hx | exact hav _ hx (by simp))
           replace hb8 := hb8.tr c113 (fun hx => by first | (have h1 := ho.inD _ hx; omega) | exact na_ob8 hx | exact hav _ hx (by simp))
           replace hb20 := hb20.tr c113 (fun hx => by first | (have h1 := ho.inD _ hx; omega) | exact na_ob9 hx | exact hav _ hx (by simp))
           replace hb39 := hb39.tr c113 (fun hx => by first | (have h1 := ho.inD _ hx; omega) | exact na_ob12 hx | exact hav _ hx (by simp))
           replace hszN := Nat.le_trans hszN c113.size
           replace hpt := hpt.tr c113 (by intro k hk hD; have h1 := ho.inD k hk; have hD2 : k < N1 := hD; omega)
           replace hps := hps.tr c113 (by intro k hk hD; have h1 := ho.inD k hk; have hD2 : k < Nw := hD; omega)
           replace hszW := Nat.le_trans hszW c113.size
           replace hb60 := hb60.tr c113 (fun hx => by first | (have h1 := ho.inD _ hx; omega) | exact na_ob14 hx | exact hav _ hx (by simp))
           replace hb67 := hb67.tr c113 (fun hx => by first | (have h1 := ho.inD _ hx; omega) | exact na_ob15 hx | exact hav _ hx (by simp))
           replace hbf := hbf.tr c113 (fun hx => by first | (have h1 := ho.inD _ hx; omega) | exact na_obf hx | exact hav _ hx (by simp))
           replace hbp := hbp.tr c113 (fun hx => by first | (have h1 := ho.inD _ hx; omega) | exact na_obp hx | exact hav _ hx (by simp))
           replace hbx := hbx.tr c113 (fun hx => by first | (have h1 := ho.inD _ hx; omega) | exact na_obx hx | exact hav _ hx (by simp))
           replace hD4 := Nat.lt_of_lt_of_le hD4 c113.size
           replace hD5 := Nat.lt_of_lt_of_le hD5 c113.size
           replace hb16 := hb16.tr c113 (fun hx => by first | (have h1 := ho.inD _ hx; omega) | exact na_ob16 hx | exact hav _ hx (by simp))
           replace HK := HK.chg c113 (by intro k hk hK; have h1 := ho.inD k hk; have h2 := lo0_ho k hk; simp only [NK] at hK; omega)
           refine Wp rfl <| st_st (v := .slice _ _ _) T.size29 rfl rfl rfl hb16 ?_
           intro w115 c116 hb117; simp only [setVs, setV] at hb117
           clear hb16
           replace HC := HC.then1 c116 ge_b16
           replace hT := hT.tr c116 (by intro k hx hD; simp only [List.mem_cons, List.mem_nil_iff, or_false] at hx; have hD2 : k < w.heap.size := hD; omega)
           replace hmx := hmx.tr c116 q1
           replace hM := hM.tr c116 (by intro k hk hx; have hlo := (hM.lt k hk).1; simp only [List.mem_singleton] at hx; subst hx; first | exact nm_b16 hk | omega | (cases hk; done))
           replace hb4 := hb4.tr1 c116 ne_b4_b16
           replace hb8 := hb8.tr1 c116 ne_b8_b16
           replace hb20 := hb20.tr1 c116 ne_b9_b16
           replace hb39 := hb39.tr1 c116 ne_b12_b16
           replace hszN := Nat.le_trans hszN c116.size
           replace hpt := hpt.tr c116 (by intro k hx hD; simp only [List.mem_cons, List.mem_nil_iff, or_false] at hx; have hD2 : k < N1 := hD; omega)
           replace hps := hps.tr c116 (by intro k hx hD; simp only [List.mem_cons, List.mem_nil_iff, or_false] at hx; have hD2 : k < Nw := hD; omega)
           replace hszW := Nat.le_trans hszW c116.size
           replace hb60 := hb60.tr1 c116 ne_b14_b16
           replace hb67 := hb67.tr1 c116 ne_b15_b16
           replace hbf := hbf.tr1 c116 (Ne.symm ne_b16_bf)
           replace hbp := hbp.tr1 c116 (Ne.symm ne_b16_bp)
           replace hbx := hbx.tr1 c116 (Ne.symm ne_b16_bx)
           replace hD4 := Nat.lt_of_lt_of_le hD4 c116.size
           replace hD5 := Nat.lt_of_lt_of_le hD5 c116.size
           replace ho112 := ho112.trF flat_flat c116 (by intro k hk hx; have h1 := ho112.inD _ hk; simp only [List.mem_cons, List.mem_nil_iff, or_false] at hx; omega)
           replace HK := HK.chg c116 (by
            intro k hx hK
            obtain rfl := List.mem_singleton.1 hx
            rcases hK with h | h | (h | h | h | h)
            · exact absurd h ne_b16_lp
            · exact absurd h ne_b16_DD
            · exact absurd h (Nat.not_lt.2 ge_b16)
            · exact absurd h ne_b16_bf
            · exact absurd h ne_b16_bp
            · exact absurd h ne_b16_bx)
           refine en <| sr rfl <| lL T.one29 rfl (hb117.cell rfl) <| Wp rfl <| st_len (ct := #[29]) (by rw [show ((#[29] : Array TypeId)[0]?).bind Tryz.prog.underlying = some (.slice 9) from T.u29]; rfl) rfl <| Wp rfl <| st_gtr rfl rfl <| en <| x_cond rfl (fun h7 => ?_) (fun h7 => ?_)
           ·try simp only [nm, ne_eq] at h7
            refine sr rfl <| Wp rfl <| st_st (v := .slice _ _ _) T.size29 rfl rfl rfl hb8 ?_
            intro w118 c119 hb120; simp only [setVs, setV] at hb120
            clear hb8
            replace HC := HC.then1 c119 ge_b8
            replace hT := hT.tr c119 (by intro k hx hD; simp only [List.mem_cons, List.mem_nil_iff, or_false] at hx; have hD2 : k < w.heap.size := hD; omega)
            replace hmx := hmx.tr c119 q1
            replace hM := hM.tr c119 (by intro k hk hx; have hlo := (hM.lt k hk).1; simp only [List.mem_singleton] at hx; subst hx; first | exact nm_b8 hk | omega | (cases hk; done))
            replace hb4 := hb4.tr1 c119 ne_b4_b8
            replace hb20 := hb20.tr1 c119 (Ne.symm ne_b8_b9)
            replace hb39 := hb39.tr1 c119 (Ne.symm ne_b8_b12)
            replace hszN := Nat.le_trans hszN c119.size
            replace hszW := Nat.le_trans hszW c119.size
            replace hb60 := hb60.tr1 c119 (Ne.symm ne_b8_b14)
            replace hb67 := hb67.tr1 c119 (Ne.symm ne_b8_b15)
            replace hbf := hbf.tr1 c119 (Ne.symm ne_b8_bf)
            replace hbp := hbp.tr1 c119 (Ne.symm ne_b8_bp)
            replace hbx := hbx.tr1 c119 (Ne.symm ne_b8_bx)
            replace hD4 := Nat.lt_of_lt_of_le hD4 c119.size
            replace hD5 := Nat.lt_of_lt_of_le hD5 c119.size
            replace HK := HK.chg c119 (by
             intro k hx hK
             obtain rfl := List.mem_singleton.1 hx
             rcases hK with h | h | (h | h | h | h)
             · exact absurd h ne_b8_lp
             · exact absurd h ne_b8_DD
             · exact absurd h (Nat.not_lt.2 ge_b8)
             · exact absurd h ne_b8_bf
             · exact absurd h ne_b8_bp
             · exact absurd h ne_b8_bx)
            refine en <| x_ret <| block_r <| ⟨HK, ?_⟩
            exact ⟨rfl, ⟨⟨⟨rest, by rw [hxs]; simp⟩, by rw [hfm]; (try simp only [List.length_append, List.length_cons, List.length_nil] at *); omega⟩, HC, hT, hmx, hM, hb4, hb20, hb39, hszN, hszW, hb60, hb67, hbf, hbp, hbx, hD4, hD5, hb120⟩⟩
           ·try simp only [nm, ne_eq] at h7
            refine x_skip <| block_n <| ⟨HK, ?_⟩
            exact ⟨A109, cap110, (by first | assumption | (rw [hfm]; (try simp only [List.length_append, List.length_cons, List.length_nil] at *); omega)), HC, hT, hmx, hM, hb4, hb8, hb20, hb39, hszN, hpt, hps, hszW, hb60, hb67, hbf, hbp, hbx, hD4, hD5, (by rw [hfm]; exact ho112), (by rw [hfm]; exact hb117)⟩
       ·try simp only [nm, ne_eq] at g85
        iterate 3 refine w_no 2 71 true ?_
        refine w_no 5 74 false <| w_no 5 74 false <| w_no 2 71 true <| pF rfl rfl <| en <| x_cond (t := false) rfl (fun h5 => ?_) (fun h5 => ?_)
        · exact absurd h5 (by decide)
        have hkg0 : keepG Z cwd last fin y = some (if last = true then y ++ fin else y) := keep_yes (by first | (left; first | assumption | simp_all; done) | (right; refine ⟨?_, ?_⟩ <;> first | assumption | simp_all; done))
        obtain ⟨ky, hky⟩ : ∃ k, k = (if last = true then y ++ fin else y) := ⟨_, rfl⟩
        rw [← hky] at hkg0
        have hkg := hkg0
        have hfm : (nx ++ (pre ++ [y]).filterMap (keepG Z cwd last fin)) = (nx ++ pre.filterMap (keepG Z cwd last fin)) ++ [ky] := by rw [fm_snoc, hkg, List.append_assoc]
        refine x_skip <| then_n <| x_seq <| sr rfl <| Wp rfl <| st_load1 (v := .bool _) T.one4 rfl (hb67.cell rfl) <| en <| x_cond rfl (fun h6 => ?_) (fun h6 => ?_)
        ·try simp only [nm, ne_eq] at h6
         have hls : last = true := by first | assumption | simpa using h6
         refine x_region rfl <| mS rfl <| lS T.one9 rfl (hb39.cell rfl) <| Wp rfl <| st_sadd rfl rfl (by (try simp only [List.length_append, List.length_cons, List.length_nil] at *); omega) <| aS rfl <| en <| x_seq ?_
         rw [hls] at hky
         simp only [Bool.false_eq_true, if_false, if_true] at hky
         refine x_region rfl <| lL T.one29 rfl (hb16.cell rfl) <| mS rfl <| Wp rfl <| st_lit (ps := [(0, .tmp 84)]) (vs := [S _]) T.lit29 (by decide) rfl q6 rfl ?_
         intro b121 w122 e123 c124 hb125
         have ge_b121 := gB e123 HC.size
         have geK_b121 : Wc.heap.size ≤ b121 := by rw [e123]; exact HK.1
         have nm_b121 : b121 ∉ mb ds := fun hx => by have := (hM.lt _ hx).2; omega
         have gzN1_b121 : N1 ≤ b121 := Nat.le_trans hszN (by rw [e123]; exact Nat.le_refl _)
         have gzNw_b121 : Nw ≤ b121 := Nat.le_trans hszW (by rw [e123]; exact Nat.le_refl _)
         have na_ob121 : b121 ∉ ob (A2) := ho.fresh (by rw [e123]; exact Nat.le_refl _)
         replace HC := HC.then c124
         replace hT := hT.tr0 c124
         replace hmx := hmx.tr0 c124
         replace hM := hM.tr c124 (by simp)
         replace hb4 := hb4.tr0 c124
         replace hb8 := hb8.tr0 c124
         replace hb20 := hb20.tr0 c124
         replace hb39 := hb39.tr0 c124
         replace hszN := Nat.le_trans hszN c124.size
         replace hpt := hpt.tr0 c124
         replace hps := hps.tr0 c124
         replace hszW := Nat.le_trans hszW c124.size
         replace hb60 := hb60.tr0 c124
         replace hb67 := hb67.tr0 c124
         replace hbf := hbf.tr0 c124
         replace hbp := hbp.tr0 c124
         replace hbx := hbx.tr0 c124
         replace hD4 := Nat.lt_of_lt_of_le hD4 c124.size
         replace hD5 := Nat.lt_of_lt_of_le hD5 c124.size
         replace ho := ho.tr0 c124
         replace hb16 := hb16.tr0 c124
         replace HK := HK.chg c124 (fun k hx => absurd hx (by simp))
         clear e123
         have hkl := keep_len (fin := fin) hfl hkg
         have hnl2 := hnl
         rw [List.length_append] at hnl2
         have hszA := HC.size
         refine Wp rfl <| st_append2 (c := sE) (D2 := fun _ => False) (xs := (nx ++ pre.filterMap (keepG Z cwd last fin))) (ys := [ky]) T.slice29 rfl rfl ho rfl rfl (one_elem (by subst hky; rfl) (hb125.cells (n := 1) rfl)) (fun _ _ h => h.elim) (fun k hk => ⟨by omega, by have := hb60.lt; omega, by have := hb67.lt; omega, by have := hb16.lt; omega, fun h => by have := (hM.lt _ h).2; omega, by have := hbf.lt; omega, by have := hbp.lt; omega, by have := hbx.lt; omega, by have := hD5; omega, by have := hD4; omega⟩) q7 q7 ?_
         intro A126 cap127 w128 ho129 c130 hg131
         replace HC := HC.trans c130 (fun k hk => .inr ((by have h9 := ho.inD k hk; have h8 := hNww; omega)))
         replace hT := hT.tr c130 (by intro k hk hD; have h1 := ho.inD k hk; have hD2 : k < w.heap.size := hD; omega)
         replace hmx := hmx.tr c130 (by intro hx; have h1 := ho.inD _ hx; omega)
         replace hM := hM.tr c130 (fun k hk hx => (ho.inD k hx).2.2.2.2.1 hk)
         replace hb4 := hb4.tr c130 (fun hx => by first | (have h1 := ho.inD _ hx; omega) | exact na_ob4 hx | exact hav _ hx (by simp))
         replace hb8 := hb8.tr c130 (fun hx => by first | (have h1 := ho.inD _ hx; omega) | exact na_ob8 hx | exact hav _ hx (by simp))
         replace hb20 := hb20.tr c130 (fun hx => by first | (have h1 := ho.inD _ hx; omega) | exact na_ob9 hx | exact hav _ hx (by simp))
         replace hb39 := hb39.tr c130 (fun hx => by first | (have h1 := ho.inD _ hx; omega) | exact na_ob12 hx | exact hav _ hx (by simp))
         replace hszN := Nat.le_trans hszN c130.size
         replace hpt := hpt.tr c130 (by intro k hk hD; have h1 := ho.inD k hk; have hD2 : k < N1 := hD; omega)
         replace hps := hps.tr c130 (by intro k hk hD; have h1 := ho.inD k hk; have hD2 : k < Nw := hD; omega)
         replace hszW := Nat.le_trans hszW c130.size
         replace hb60 := hb60.tr c130 (fun hx => by first | (have h1 := ho.inD _ hx; omega) | exact na_ob14 hx | exact hav _ hx (by simp))
         replace hb67 := hb67.tr c130 (fun hx => by first | (have h1 := ho.inD _ hx; omega) | exact na_ob15 hx | exact hav _ hx (by simp))
         replace hbf := hbf.tr c130 (fun hx => by first | (have h1 := ho.inD _ hx; omega) | exact na_obf hx | exact hav _ hx (by simp))
         replace hbp := hbp.tr c130 (fun hx => by first | (have h1 := ho.inD _ hx; omega) | exact na_obp hx | exact hav _ hx (by simp))
         replace hbx := hbx.tr c130 (fun hx => by first | (have h1 := ho.inD _ hx; omega) | exact na_obx hx | exact hav _ hx (by simp))
         replace hD4 := Nat.lt_of_lt_of_le hD4 c130.size
         replace hD5 := Nat.lt_of_lt_of_le hD5 c130.size
         replace hb16 := hb16.tr c130 (fun hx => by first | (have h1 := ho.inD _ hx; omega) | exact na_ob16 hx | exact hav _ hx (by simp))
         replace HK := HK.chg c130 (by intro k hk hK; have h1 := ho.inD k hk; have h2 := lo0_ho k hk; simp only [NK] at hK; omega)
         refine Wp rfl <| st_st (v := .slice _ _ _) T.size29 rfl rfl rfl hb16 ?_
         intro w132 c133 hb134; simp only [setVs, setV] at hb134
         clear hb16
         replace HC := HC.then1 c133 ge_b16
         replace hT := hT.tr c133 (by intro k hx hD; simp only [List.mem_cons, List.mem_nil_iff, or_false] at hx; have hD2 : k < w.heap.size := hD; omega)
         replace hmx := hmx.tr c133 q1
         replace hM := hM.tr c133 (by intro k hk hx; have hlo := (hM.lt k hk).1; simp only [List.mem_singleton] at hx; subst hx; first | exact nm_b16 hk | omega | (cases hk; done))
         replace hb4 := hb4.tr1 c133 ne_b4_b16
         replace hb8 := hb8.tr1 c133 ne_b8_b16
         replace hb20 := hb20.tr1 c133 ne_b9_b16
         replace hb39 := hb39.tr1 c133 ne_b12_b16
         replace hszN := Nat.le_trans hszN c133.size
         replace hpt := hpt.tr c133 (by intro k hx hD; simp only [List.mem_cons, List.mem_nil_iff, or_false] at hx; have hD2 : k < N1 := hD; omega)
         replace hps := hps.tr c133 (by intro k hx hD; simp only [List.mem_cons, List.mem_nil_iff, or_false] at hx; have hD2 : k < Nw := hD; omega)
         replace hszW := Nat.le_trans hszW c133.size
         replace hb60 := hb60.tr1 c133 ne_b14_b16
         replace hb67 := hb67.tr1 c133 ne_b15_b16
         replace hbf := hbf.tr1 c133 (Ne.symm ne_b16_bf)
         replace hbp := hbp.tr1 c133 (Ne.symm ne_b16_bp)
         replace hbx := hbx.tr1 c133 (Ne.symm ne_b16_bx)
         replace hD4 := Nat.lt_of_lt_of_le hD4 c133.size
         replace hD5 := Nat.lt_of_lt_of_le hD5 c133.size
         replace ho129 := ho129.trF flat_flat c133 (by intro k hk hx; have h1 := ho129.inD _ hk; simp only [List.mem_cons, List.mem_nil_iff, or_false] at hx; omega)
         replace HK := HK.chg c133 (by
          intro k hx hK
          obtain rfl := List.mem_singleton.1 hx
          rcases hK with h | h | (h | h | h | h)
          · exact absurd h ne_b16_lp
          · exact absurd h ne_b16_DD
          · exact absurd h (Nat.not_lt.2 ge_b16)
          · exact absurd h ne_b16_bf
          · exact absurd h ne_b16_bp
          · exact absurd h ne_b16_bx)
         refine en <| sr rfl <| lL T.one29 rfl (hb134.cell rfl) <| Wp rfl <| st_len (ct := #[29]) (by rw [show ((#[29] : Array TypeId)[0]?).bind Tryz.prog.underlying = some (.slice 9) from T.u29]; rfl) rfl <| Wp rfl <| st_gtr rfl rfl <| en <| x_cond rfl (fun h7 => ?_) (fun h7 => ?_)
         ·try simp only [nm, ne_eq] at h7
          refine sr rfl <| Wp rfl <| st_st (v := .slice _ _ _) T.size29 rfl rfl rfl hb8 ?_
          intro w135 c136 hb137; simp only [setVs, setV] at hb137
          clear hb8
          replace HC := HC.then1 c136 ge_b8
          replace hT := hT.tr c136 (by intro k hx hD; simp only [List.mem_cons, List.mem_nil_iff, or_false] at hx; have hD2 : k < w.heap.size := hD; omega)
          replace hmx := hmx.tr c136 q1
          replace hM := hM.tr c136 (by intro k hk hx; have hlo := (hM.lt k hk).1; simp only [List.mem_singleton] at hx; subst hx; first | exact nm_b8 hk | omega | (cases hk; done))
          replace hb4 := hb4.tr1 c136 ne_b4_b8
          replace hb20 := hb20.tr1 c136 (Ne.symm ne_b8_b9)
          replace hb39 := hb39.tr1 c136 (Ne.symm ne_b8_b12)
          replace hszN := Nat.le_trans hszN c136.size
          replace hszW := Nat.le_trans hszW c136.size
          replace hb60 := hb60.tr1 c136 (Ne.symm ne_b8_b14)
          replace hb67 := hb67.tr1 c136 (Ne.symm ne_b8_b15)
          replace hbf := hbf.tr1 c136 (Ne.symm ne_b8_bf)
          replace hbp := hbp.tr1 c136 (Ne.symm ne_b8_bp)
          replace hbx := hbx.tr1 c136 (Ne.symm ne_b8_bx)
          replace hD4 := Nat.lt_of_lt_of_le hD4 c136.size
          replace hD5 := Nat.lt_of_lt_of_le hD5 c136.size
          replace HK := HK.chg c136 (by
           intro k hx hK
           obtain rfl := List.mem_singleton.1 hx
           rcases hK with h | h | (h | h | h | h)
           · exact absurd h ne_b8_lp
           · exact absurd h ne_b8_DD
           · exact absurd h (Nat.not_lt.2 ge_b8)
           · exact absurd h ne_b8_bf
           · exact absurd h ne_b8_bp
           · exact absurd h ne_b8_bx)
          refine en <| x_ret <| block_r <| ⟨HK, ?_⟩
          exact ⟨rfl, ⟨⟨⟨rest, by rw [hxs]; simp⟩, by rw [hfm]; (try simp only [List.length_append, List.length_cons, List.length_nil] at *); omega⟩, HC, hT, hmx, hM, hb4, hb20, hb39, hszN, hszW, hb60, hb67, hbf, hbp, hbx, hD4, hD5, hb137⟩⟩
         ·try simp only [nm, ne_eq] at h7
          refine x_skip <| block_n <| ⟨HK, ?_⟩
          exact ⟨A126, cap127, (by first | assumption | (rw [hfm]; (try simp only [List.length_append, List.length_cons, List.length_nil] at *); omega)), HC, hT, hmx, hM, hb4, hb8, hb20, hb39, hszN, hpt, hps, hszW, hb60, hb67, hbf, hbp, hbx, hD4, hD5, (by rw [hfm]; exact ho129), (by rw [hfm]; exact hb134)⟩
        ·try simp only [nm, ne_eq] at h6
         have hls : last = false := by first | assumption | simpa using h6
         refine x_skip <| then_n <| x_seq ?_
         rw [hls] at hky
         simp only [Bool.false_eq_true, if_false, if_true] at hky
         refine x_region rfl <| lL T.one29 rfl (hb16.cell rfl) <| mS rfl <| Wp rfl <| st_lit (ps := [(0, .tmp 84)]) (vs := [S _]) T.lit29 (by decide) rfl q6 rfl ?_
         intro b138 w139 e140 c141 hb142
         have ge_b138 := gB e140 HC.size
         have geK_b138 : Wc.heap.size ≤ b138 := by rw [e140]; exact HK.1
         have nm_b138 : b138 ∉ mb ds := fun hx => by have := (hM.lt _ hx).2; omega
         have gzN1_b138 : N1 ≤ b138 := Nat.le_trans hszN (by rw [e140]; exact Nat.le_refl _)
         have gzNw_b138 : Nw ≤ b138 := Nat.le_trans hszW (by rw [e140]; exact Nat.le_refl _)
         have na_ob138 : b138 ∉ ob (A2) := ho.fresh (by rw [e140]; exact Nat.le_refl _)
         replace HC := HC.then c141
         replace hT := hT.tr0 c141
         replace hmx := hmx.tr0 c141
         replace hM := hM.tr c141 (by simp)
         replace hb4 := hb4.tr0 c141
         replace hb8 := hb8.tr0 c141
         replace hb20 := hb20.tr0 c141
         replace hb39 := hb39.tr0 c141
         replace hszN := Nat.le_trans hszN c141.size
         replace hpt := hpt.tr0 c141
         replace hps := hps.tr0 c141
         replace hszW := Nat.le_trans hszW c141.size
         replace hb60 := hb60.tr0 c141
         replace hb67 := hb67.tr0 c141
         replace hbf := hbf.tr0 c141
         replace hbp := hbp.tr0 c141
         replace hbx := hbx.tr0 c141
         replace hD4 := Nat.lt_of_lt_of_le hD4 c141.size
         replace hD5 := Nat.lt_of_lt_of_le hD5 c141.size
         replace ho := ho.tr0 c141
         replace hb16 := hb16.tr0 c141
         replace HK := HK.chg c141 (fun k hx => absurd hx (by simp))
         clear e140
         have hkl := keep_len (fin := fin) hfl hkg
         have hnl2 := hnl
         rw [List.length_append] at hnl2
         have hszA := HC.size
         refine Wp rfl <| st_append2 (c := sE) (D2 := fun _ => False) (xs := (nx ++ pre.filterMap (keepG Z cwd last fin))) (ys := [ky]) T.slice29 rfl rfl ho rfl rfl (one_elem (by subst hky; rfl) (hb142.cells (n := 1) rfl)) (fun _ _ h => h.elim) (fun k hk => ⟨by omega, by have := hb60.lt; omega, by have := hb67.lt; omega, by have := hb16.lt; omega, fun h => by have := (hM.lt _ h).2; omega, by have := hbf.lt; omega, by have := hbp.lt; omega, by have := hbx.lt; omega, by have := hD5; omega, by have := hD4; omega⟩) q7 q7 ?_
         intro A143 cap144 w145 ho146 c147 hg148
         replace HC := HC.trans c147 (fun k hk => .inr ((by have h9 := ho.inD k hk; have h8 := hNww; omega)))
         replace hT := hT.tr c147 (by intro k hk hD; have h1 := ho.inD k hk; have hD2 : k < w.heap.size := hD; omega)
         replace hmx := hmx.tr c147 (by intro hx; have h1 := ho.inD _ hx; omega)
         replace hM := hM.tr c147 (fun k hk hx => (ho.inD k hx).2.2.2.2.1 hk)
         replace hb4 := hb4.tr c147 (fun hx => by first | (have h1 := ho.inD _ hx; omega) | exact na_ob4 hx | exact hav _ hx (by simp))
         replace hb8 := hb8.tr c147 (fun hx => by first | (have h1 := ho.inD _ hx; omega) | exact na_ob8 hx | exact hav _ hx (by simp))
         replace hb20 := hb20.tr c147 (fun hx => by first | (have h1 := ho.inD _ hx; omega) | exact na_ob9 hx | exact hav _ hx (by simp))
         replace hb39 := hb39.tr c147 (fun hx => by first | (have h1 := ho.inD _ hx; omega) | exact na_ob12 hx | exact hav _ hx (by simp))
         replace hszN := Nat.le_trans hszN c147.size
         replace hpt := hpt.tr c147 (by intro k hk hD; have h1 := ho.inD k hk; have hD2 : k < N1 := hD; omega)
         replace hps := hps.tr c147 (by intro k hk hD; have h1 := ho.inD k hk; have hD2 : k < Nw := hD; omega)
         replace hszW := Nat.le_trans hszW c147.size
         replace hb60 := hb60.tr c147 (fun hx => by first | (have h1 := ho.inD _ hx; omega) | exact na_ob14 hx | exact hav _ hx (by simp))
         replace hb67 := hb67.tr c147 (fun hx => by first | (have h1 := ho.inD _ hx; omega) | exact na_ob15 hx | exact hav _ hx (by simp))
         replace hbf := hbf.tr c147 (fun hx => by first | (have h1 := ho.inD _ hx; omega) | exact na_obf hx | exact hav _ hx (by simp))
         replace hbp := hbp.tr c147 (fun hx => by first | (have h1 := ho.inD _ hx; omega) | exact na_obp hx | exact hav _ hx (by simp))
         replace hbx := hbx.tr c147 (fun hx => by first | (have h1 := ho.inD _ hx; omega) | exact na_obx hx | exact hav _ hx (by simp))
         replace hD4 := Nat.lt_of_lt_of_le hD4 c147.size
         replace hD5 := Nat.lt_of_lt_of_le hD5 c147.size
         replace hb16 := hb16.tr c147 (fun hx => by first | (have h1 := ho.inD _ hx; omega) | exact na_ob16 hx | exact hav _ hx (by simp))
         replace HK := HK.chg c147 (by intro k hk hK; have h1 := ho.inD k hk; have h2 := lo0_ho k hk; simp only [NK] at hK; omega)
         refine Wp rfl <| st_st (v := .slice _ _ _) T.size29 rfl rfl rfl hb16 ?_
         intro w149 c150 hb151; simp only [setVs, setV] at hb151
         clear hb16
         replace HC := HC.then1 c150 ge_b16
         replace hT := hT.tr c150 (by intro k hx hD; simp only [List.mem_cons, List.mem_nil_iff, or_false] at hx; have hD2 : k < w.heap.size := hD; omega)
         replace hmx := hmx.tr c150 q1
         replace hM := hM.tr c150 (by intro k hk hx; have hlo := (hM.lt k hk).1; simp only [List.mem_singleton] at hx; subst hx; first | exact nm_b16 hk | omega | (cases hk; done))
         replace hb4 := hb4.tr1 c150 ne_b4_b16
         replace hb8 := hb8.tr1 c150 ne_b8_b16
         replace hb20 := hb20.tr1 c150 ne_b9_b16
         replace hb39 := hb39.tr1 c150 ne_b12_b16
         replace hszN := Nat.le_trans hszN c150.size
         replace hpt := hpt.tr c150 (by intro k hx hD; simp only [List.mem_cons, List.mem_nil_iff, or_false] at hx; have hD2 : k < N1 := hD; omega)
         replace hps := hps.tr c150 (by intro k hx hD; simp only [List.mem_cons, List.mem_nil_iff, or_false] at hx; have hD2 : k < Nw := hD; omega)
         replace hszW := Nat.le_trans hszW c150.size
         replace hb60 := hb60.tr1 c150 ne_b14_b16
         replace hb67 := hb67.tr1 c150 ne_b15_b16
         replace hbf := hbf.tr1 c150 (Ne.symm ne_b16_bf)
         replace hbp := hbp.tr1 c150 (Ne.symm ne_b16_bp)
         replace hbx := hbx.tr1 c150 (Ne.symm ne_b16_bx)
         replace hD4 := Nat.lt_of_lt_of_le hD4 c150.size
         replace hD5 := Nat.lt_of_lt_of_le hD5 c150.size
         replace ho146 := ho146.trF flat_flat c150 (by intro k hk hx; have h1 := ho146.inD _ hk; simp only [List.mem_cons, List.mem_nil_iff, or_false] at hx; omega)
         replace HK := HK.chg c150 (by
          intro k hx hK
          obtain rfl := List.mem_singleton.1 hx
          rcases hK with h | h | (h | h | h | h)
          · exact absurd h ne_b16_lp
          · exact absurd h ne_b16_DD
          · exact absurd h (Nat.not_lt.2 ge_b16)
          · exact absurd h ne_b16_bf
          · exact absurd h ne_b16_bp
          · exact absurd h ne_b16_bx)
         refine en <| sr rfl <| lL T.one29 rfl (hb151.cell rfl) <| Wp rfl <| st_len (ct := #[29]) (by rw [show ((#[29] : Array TypeId)[0]?).bind Tryz.prog.underlying = some (.slice 9) from T.u29]; rfl) rfl <| Wp rfl <| st_gtr rfl rfl <| en <| x_cond rfl (fun h7 => ?_) (fun h7 => ?_)
         ·try simp only [nm, ne_eq] at h7
          refine sr rfl <| Wp rfl <| st_st (v := .slice _ _ _) T.size29 rfl rfl rfl hb8 ?_
          intro w152 c153 hb154; simp only [setVs, setV] at hb154
          clear hb8
          replace HC := HC.then1 c153 ge_b8
          replace hT := hT.tr c153 (by intro k hx hD; simp only [List.mem_cons, List.mem_nil_iff, or_false] at hx; have hD2 : k < w.heap.size := hD; omega)
          replace hmx := hmx.tr c153 q1
          replace hM := hM.tr c153 (by intro k hk hx; have hlo := (hM.lt k hk).1; simp only [List.mem_singleton] at hx; subst hx; first | exact nm_b8 hk | omega | (cases hk; done))
          replace hb4 := hb4.tr1 c153 ne_b4_b8
          replace hb20 := hb20.tr1 c153 (Ne.symm ne_b8_b9)
          replace hb39 := hb39.tr1 c153 (Ne.symm ne_b8_b12)
          replace hszN := Nat.le_trans hszN c153.size
          replace hszW := Nat.le_trans hszW c153.size
          replace hb60 := hb60.tr1 c153 (Ne.symm ne_b8_b14)
          replace hb67 := hb67.tr1 c153 (Ne.symm ne_b8_b15)
          replace hbf := hbf.tr1 c153 (Ne.symm ne_b8_bf)
          replace hbp := hbp.tr1 c153 (Ne.symm ne_b8_bp)
          replace hbx := hbx.tr1 c153 (Ne.symm ne_b8_bx)
          replace hD4 := Nat.lt_of_lt_of_le hD4 c153.size
          replace hD5 := Nat.lt_of_lt_of_le hD5 c153.size
          replace HK := HK.chg c153 (by
           intro k hx hK
           obtain rfl := List.mem_singleton.1 hx
           rcases hK with h | h | (h | h | h | h)
           · exact absurd h ne_b8_lp
           · exact absurd h ne_b8_DD
           · exact absurd h (Nat.not_lt.2 ge_b8)
           · exact absurd h ne_b8_bf
           · exact absurd h ne_b8_bp
           · exact absurd h ne_b8_bx)
          refine en <| x_ret <| block_r <| ⟨HK, ?_⟩
          exact ⟨rfl, ⟨⟨⟨rest, by rw [hxs]; simp⟩, by rw [hfm]; (try simp only [List.length_append, List.length_cons, List.length_nil] at *); omega⟩, HC, hT, hmx, hM, hb4, hb20, hb39, hszN, hszW, hb60, hb67, hbf, hbp, hbx, hD4, hD5, hb154⟩⟩
         ·try simp only [nm, ne_eq] at h7
          refine x_skip <| block_n <| ⟨HK, ?_⟩
          exact ⟨A143, cap144, (by first | assumption | (rw [hfm]; (try simp only [List.length_append, List.length_cons, List.length_nil] at *); omega)), HC, hT, hmx, hM, hb4, hb8, hb20, hb39, hszN, hpt, hps, hszW, hb60, hb67, hbf, hbp, hbx, hD4, hD5, (by rw [hfm]; exact ho146), (by rw [hfm]; exact hb151)⟩
      ·rintro W9 ⟨A2, cap2, hnl, HC, hT, hmx, hM, hb4, hb8, hb20, hb39, hszN, hpt, hps, hszW, hb60, hb67, hbf, hbp, hbx, hD4, hD5, ho, hb16⟩ hDef
       replace hM := hM.cons (by omega) hDef nm_DD
       have nm_b4 : b4 ∉ mb (mk DD :: ds) := fun hx => (List.mem_cons.1 (show b4 ∈ DD :: mb ds from hx)).elim (fun h => ne_b4_DD h) (nm_b4)
       have nm_b8 : b8 ∉ mb (mk DD :: ds) := fun hx => (List.mem_cons.1 (show b8 ∈ DD :: mb ds from hx)).elim (fun h => ne_b8_DD h) (nm_b8)
       have nm_b9 : b9 ∉ mb (mk DD :: ds) := fun hx => (List.mem_cons.1 (show b9 ∈ DD :: mb ds from hx)).elim (fun h => ne_b9_DD h) (nm_b9)
       have nm_b12 : b12 ∉ mb (mk DD :: ds) := fun hx => (List.mem_cons.1 (show b12 ∈ DD :: mb ds from hx)).elim (fun h => ne_b12_DD h) (nm_b12)
       have nm_b14 : b14 ∉ mb (mk DD :: ds) := fun hx => (List.mem_cons.1 (show b14 ∈ DD :: mb ds from hx)).elim (fun h => ne_b14_DD h) (nm_b14)
       have nm_b15 : b15 ∉ mb (mk DD :: ds) := fun hx => (List.mem_cons.1 (show b15 ∈ DD :: mb ds from hx)).elim (fun h => ne_b15_DD h) (nm_b15)
       have nm_bf : bf ∉ mb (mk DD :: ds) := fun hx => (List.mem_cons.1 (show bf ∈ DD :: mb ds from hx)).elim (fun h => ne_bf_DD h) (nm_bf)
       have nm_bp : bp ∉ mb (mk DD :: ds) := fun hx => (List.mem_cons.1 (show bp ∈ DD :: mb ds from hx)).elim (fun h => ne_bp_DD h) (nm_bp)
       have nm_bx : bx ∉ mb (mk DD :: ds) := fun hx => (List.mem_cons.1 (show bx ∈ DD :: mb ds from hx)).elim (fun h => ne_bx_DD h) (nm_bx)
       have nm_b16 : b16 ∉ mb (mk DD :: ds) := fun hx => (List.mem_cons.1 (show b16 ∈ DD :: mb ds from hx)).elim (fun h => ne_b16_DD h) (nm_b16)
       refine block_n <| block_n <| then_n <| x_region rfl <| Wp rfl <| st_addn rfl rfl (by constructor <;> omega) <| mI rfl <| en <| ⟨(j + 1, (nx ++ (belowG Z cwd path x).filterMap (keepG Z cwd last fin)), A2, cap2), ?_, ?_, ⟨rfl, trivial⟩, ?_⟩
       ·refine ⟨?_, HC, hT, hmx, hM, hb4, hb8, hb20, hb39, hszN, hpt, hps, hszW, hb60, hb67, hb16, (ho.flat flat_flat (fun k hk hD => ⟨hD.1, hD.2.1, hD.2.2.1, hD.2.2.2.1, fun h => (List.mem_cons.1 h).elim (fun e => hD.2.2.2.2.2.2.2.2.2 e) hD.2.2.2.2.1⟩))⟩
        exact ⟨by omega, by rw [level_on hpath, ← hnx]; rfl, hnl, nm_b14, nm_b15, nm_b16⟩
       ·show paths.length - (j + 1) < paths.length - j; omega
       exact q9
      ·intro c pre W9 hX hDef
       obtain ⟨rfl, ⟨⟨⟨rest, hrs⟩, hbig⟩, HC, hT, hmx, hM, hb4, hb20, hb39, hszN, hszW, hb60, hb67, hbf, hbp, hbx, hD4, hD5, hb8⟩⟩ := hX
       replace hM := hM.cons (by omega) hDef nm_DD
       have nm_b4 : b4 ∉ mb (mk DD :: ds) := fun hx => (List.mem_cons.1 (show b4 ∈ DD :: mb ds from hx)).elim (fun h => ne_b4_DD h) (nm_b4)
       have nm_b9 : b9 ∉ mb (mk DD :: ds) := fun hx => (List.mem_cons.1 (show b9 ∈ DD :: mb ds from hx)).elim (fun h => ne_b9_DD h) (nm_b9)
       have nm_b12 : b12 ∉ mb (mk DD :: ds) := fun hx => (List.mem_cons.1 (show b12 ∈ DD :: mb ds from hx)).elim (fun h => ne_b12_DD h) (nm_b12)
       have nm_b14 : b14 ∉ mb (mk DD :: ds) := fun hx => (List.mem_cons.1 (show b14 ∈ DD :: mb ds from hx)).elim (fun h => ne_b14_DD h) (nm_b14)
       have nm_b15 : b15 ∉ mb (mk DD :: ds) := fun hx => (List.mem_cons.1 (show b15 ∈ DD :: mb ds from hx)).elim (fun h => ne_b15_DD h) (nm_b15)
       have nm_bf : bf ∉ mb (mk DD :: ds) := fun hx => (List.mem_cons.1 (show bf ∈ DD :: mb ds from hx)).elim (fun h => ne_bf_DD h) (nm_bf)
       have nm_bp : bp ∉ mb (mk DD :: ds) := fun hx => (List.mem_cons.1 (show bp ∈ DD :: mb ds from hx)).elim (fun h => ne_bp_DD h) (nm_bp)
       have nm_bx : bx ∉ mb (mk DD :: ds) := fun hx => (List.mem_cons.1 (show bx ∈ DD :: mb ds from hx)).elim (fun h => ne_bx_DD h) (nm_bx)
       have nm_b8 : b8 ∉ mb (mk DD :: ds) := fun hx => (List.mem_cons.1 (show b8 ∈ DD :: mb ds from hx)).elim (fun h => ne_b8_DD h) (nm_b8)
       refine x_ret <| block_r <| block_r <| then_r <| then_r <| block_r <| then_r <| block_r <| then_r <| then_r <| block_r <| then_r <| retM_marks hM ?_
       intro w99 c99
       have hlm := hM.lt
       replace HC := HC.trans c99 (fun k hk => .inr (by have := (hlm k hk).1; omega))
       replace hb8 := hb8.tr c99 (fun hx => by first | exact nm_b8 hx | (simp only [mb_cons, mb, List.mem_cons, List.mem_nil_iff, or_false] at hx; omega))
       refine ret_cell1 rfl rfl T.one29 (hb8.cell rfl) ?_
       have hbl2 := level_big (last := last) (fin := fin) hpath hrs
       rw [← hnx] at hbl2
       have hev : expandV Z cwd p q = [] := by unfold expandV; rw [if_neg (by rw [hmg]; simp), ← hfin, ← hst, hexp, drop_some hx, exp_big (by rw [hle]; omega)]
       rw [hev]
       exact ⟨⟨none, 0, rfl, Nat.le_refl _, .nil⟩, HC⟩
     ·try simp only [nm, ne_eq] at h4
      have hnx2 : nx = levelG Z cwd x last fin paths := by rw [hnx, List.take_of_length_le (by omega)]
      refine x_exit <| then_x <| then_x <| block_x <| then_n <| x_region rfl <| lL T.one29 rfl (hb16.cell rfl) <| aL rfl <| wops_nil <| block_n <| then_n <| x_region rfl <| Wp rfl <| st_addn rfl rfl (by constructor <;> omega) <| mI rfl <| en <| ⟨(i + 1, nx, A2, cap2), ?_, ?_, ⟨rfl, rfl, trivial⟩, ?_⟩
      ·refine ⟨?_, HC, hT, hmx, hM, hb4, hb8, hb20, hb39, hszN, hpt, (ho.sl.mono (fun k hk _ => hk))⟩
       exact ⟨by omega, by rw [hexp, drop_some hx, exp_on (by rw [hle, ← hnx2]; omega), hle, ← hnx2], fun s hs => by rw [hnx2] at hs; have := level_len hN hpls (by omega) hfl s hs; omega, by omega⟩
      ·show (gPartsV p q).length - (i + 1) < (gPartsV p q).length - i; omega
      exact q9
    ·try simp only [nm, ne_eq] at h3
     refine x_exit <| then_x <| then_x <| block_x <| then_n <| sr rfl <| mL rfl <| Wp rfl <| st_call (ags := [_]) rfl rfl T.ent23 rfl (values_spec _) ?_
     rintro _ w155 ⟨⟨bs, rfl, hg9, hbs⟩, c156⟩
     have ge_bs : w.heap.size ≤ bs := Nat.le_trans HC.size hg9
     have nm_bs : bs ∉ mb ds := fun hx => by have := (hM.lt _ hx).2; omega
     have gzN1_bs : N1 ≤ bs := Nat.le_trans hszN hg9
     have gzNw_bs : Nw ≤ bs := Nat.le_trans hszW hg9
     replace HC := HC.then c156
     replace hM := hM.tr c156 (by simp)
     replace hb8 := hb8.tr0 c156
     replace hszN := Nat.le_trans hszN c156.size
     replace hps := hps.tr0 c156
     replace hszW := Nat.le_trans hszW c156.size
     have hmL := hM.lt
     have h8S := hb8.lt
     have hszS := HC.size
     have hszS2 : w155.heap.size ≤ w155.heap.size := Nat.le_refl _
     have hpsS := hps.mono (D' := fun k => k < w155.heap.size) (fun k hk _ => hk)
     refine Wp rfl <| st_call (ags := [_]) rfl rfl T.ent22 rfl (gsorted_spec hbs hpsS (by omega)) ?_
     rintro _ w157 ⟨⟨Ar, cr, rfl, hr⟩, c158⟩
     replace HC := HC.then c158
     replace hM := hM.tr c158 (by simp)
     replace hb8 := hb8.tr0 c158
     replace hszN := Nat.le_trans hszN c158.size
     replace hszW := Nat.le_trans hszW c158.size
     refine Wp rfl <| st_st (v := .slice _ _ _) T.size29 rfl rfl rfl hb8 ?_
     intro w159 c160 hb161; simp only [setVs, setV] at hb161
     clear hb8
     replace HC := HC.then1 c160 ge_b8
     replace hM := hM.tr c160 (by intro k hk hx; have hlo := (hM.lt k hk).1; simp only [List.mem_singleton] at hx; subst hx; first | exact nm_b8 hk | omega | (cases hk; done))
     replace hszN := Nat.le_trans hszN c160.size
     replace hszW := Nat.le_trans hszW c160.size
     replace hr := hr.trF flat_flat c160 (by intro k hk hx; have h1 := hr.inD _ hk; simp only [List.mem_cons, List.mem_nil_iff, or_false] at hx; omega)
     refine en <| x_ret <| retM_marks hM ?_
     intro w99 c99
     have hlm := hM.lt
     replace HC := HC.trans c99 (fun k hk => .inr (by have := (hlm k hk).1; omega))
     replace hr := hr.trF flat_flat c99 (fun k hk hx => by have h1 := hr.inD _ hk; have h2 := (hmL k hx).2; omega)
     replace hb161 := hb161.tr c99 (fun hx => by first | exact nm_b8 hx | (simp only [mb_cons, mb, List.mem_cons, List.mem_nil_iff, or_false] at hx; omega))
     refine ret_cell1 rfl rfl T.one29 (hb161.cell rfl) ?_
     have hev : expandV Z cwd p q = sortB paths := by unfold expandV; rw [if_neg (by rw [hmg]; simp), ← hfin, ← hst, hexp, List.drop_of_length_le (by omega)]; rfl
     rw [hev]
     exact ⟨⟨_, _, rfl, hr.le.1, hr.sl.mono (fun k _ h => Nat.le_trans hszS h)⟩, HC⟩
end Go.Proofs.YtncnalboiljgiaaGreat.K
